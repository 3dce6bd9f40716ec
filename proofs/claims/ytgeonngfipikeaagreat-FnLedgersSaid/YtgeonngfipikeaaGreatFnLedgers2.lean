/- The walks of the functions that the law reaches: each summary holds. No condition. -/
import Derived.Test.YtgeonngfipikeaaGreatFnLedgers1
import Derived.Test.YtgeonngfipikeaaGreatLA
import Derived.Test.YtgeonngfipikeaaGreatProg
namespace Go.Proofs.YtgeonngfipikeaaGreat
open Go.RowKit
set_option linter.unusedVariables false
set_option linter.unusedSimpArgs false
def mulG (x0:Int) (x1:Int):Int:=(if (isGrp x0)=true then (if (isGrp x1)=true then (Int.tmod (x0*x1) 2039) else 0) else 0)
def S_spec_MulGroup:Sum:={ fid:=181,dom:=[(.int 3),(.int 3)],cod:=[(.int 3)],dp:=true,fz:=false,pre:=fun x=>True,g:=fun x=>((mulG x.1 x.2.1),()) }
def S_spec_MulGroup_tab:List (Nat×Sum):=[(136,S_spec_IsGroupElement)]
theorem S_spec_MulGroup_ok:FnOK Tryz.prog 181 S_spec_MulGroup:=by
 refine at_enter 17 (fun x=>⟨[(0,aI x.1),(1,aI x.2.1)],[]⟩) Tryz.func181 rfl (by kernel_rfl) (fun x=>rfl) ?_
 rintro w0 Z0 ⟨x0,x1,u⟩ a w
 revert x0 x1
 intro (x0:Int) (x1:Int) hpre hlens h
 have hT:TabOK Tryz.prog S_spec_MulGroup_tab:=(.cons S_spec_IsGroupElement_ok .nil)
 refine wp_seq ?_
 refine at_regq [] { ts:=[0,1,4],os:=[] } [] gamOK hT h (by kernel_rfl) trivial fun a w h=>then_normal (wp_seq (wp_seq ?_))
 rcases Bool.eq_false_or_eq_true (!(isGrp x0)) with h1 | h1
 ·have hzh1 : (isGrp x0) = false := notT h1
  refine at_regq [{},{},{ hint:=some (aB true) }] { ts:=[0,1,4,12],os:=[] } [True,(AV.p (.c (.v (.bool (!(isGrp x0)))))=AV.p (.c (.v (.bool true))))] gamOK hT h (by kernel_rfl) ⟨trivial,hint_bool (h1),trivial⟩ fun a w h=>then_normal ?_
  refine at_test true h (by kernel_rfl) (fun hh=>?_) (fun hh=>nomatch hh)
  refine wp_seq ?_
  refine at_regq [] { ts:=[0,1,4],os:=[] } [] gamOK hT h (by kernel_rfl) trivial fun a w h=>then_normal (wp_ret (then_ret ?_))
  exact at_return (0,()) [] h (by kernel_rfl) trivial (congrArg (fun z=>(z,())) (show (0)=mulG x0 x1 from by first | rfl | (unfold mulG;rw [if_neg (neT (notT h1))])))
 ·have hzh1 : (isGrp x0) = true := notF h1
  have hvh1:=isGrp_t (notF h1)
  refine at_regq [{},{},{ hint:=some (aB false) }] { ts:=[0,1,4,12],os:=[] } [True,(AV.p (.c (.v (.bool (!(isGrp x0)))))=AV.p (.c (.v (.bool false)))),True] gamOK hT h (by kernel_rfl) ⟨trivial,hint_bool (h1),trivial,trivial⟩ fun a w h=>then_normal ?_
  refine at_test (!(isGrp x1)) h (by kernel_rfl) (fun h2=>?_) (fun h2=>?_)
  ·replace h2 : (isGrp x1) = false := notT h2
   refine wp_seq ?_
   refine at_regq [] { ts:=[0,1,4],os:=[] } [] gamOK hT h (by kernel_rfl) trivial fun a w h=>then_normal (wp_ret (then_ret ?_))
   exact at_return (0,()) [] h (by kernel_rfl) trivial (congrArg (fun z=>(z,())) (show (0)=mulG x0 x1 from by first | rfl | (unfold mulG;rw [if_pos (notF h1),if_neg (neT h2)])))
  ·replace h2 : (isGrp x1) = true := notF h2
   have hvh2:=isGrp_t h2
   refine wp_skip (then_normal (wp_seq ?_))
   refine at_regq [{},{},{ nw:=true }] { ts:=[4],os:=[] } [I64 (x0*x1),(2039:Int)≠0] gamOK hT h (by kernel_rfl) ⟨⟨by (have hA0:=mul_f x0 x1;first | omega | (simp only [lsA];omega) | (simp<;>omega)),by (have hA0:=mul_f x0 x1;first | omega | (simp only [lsA];omega) | (simp<;>omega))⟩,(by first | omega | (simp only [lsA];omega) | (simp<;>omega)),trivial⟩ fun a w h=>then_normal (wp_ret ?_)
   exact at_return ((Int.tmod (x0*x1) 2039),()) [] h (by kernel_rfl) trivial (congrArg (fun z=>(z,())) (show ((Int.tmod (x0*x1) 2039))=mulG x0 x1 from by first | rfl | (unfold mulG;rw [if_pos (notF h1),if_pos h2])))
theorem powG_at {g n:Int} (hg:isGrp g=true) (hn:0≤n∧n≤1018):powG g n=powD g n 2039:=by unfold powG;rw [if_pos hg,if_pos (show isEl n=true from inR_true hn)]
theorem mulG_at {a b:Int} (ha:isGrp a=true) (hb:isGrp b=true):mulG a b=(a*b).tmod 2039:=by unfold mulG;rw [if_pos ha,if_pos hb]
theorem hpw_step {es xs:List Int} {i:Nat} (h:isGrp (hpw es xs i)=true) (he:isGrp (es.getD i 0)=true) (hx:0≤xs.getD i 0∧xs.getD i 0≤1018):mulG (hpw es xs i) (powG (es.getD i 0) (xs.getD i 0))=hpw es xs (i+1):=by
 rw [powG_at he hx,mulG_at h (isGrp_pow he (by omega))];rfl

abbrev Q_impl_powers:=(fun (x0:(List Int)) (x1:(List Int))=>Sh.fit s39 x0∧Sh.fit s39 x1∧powsP x0 x1)
def S_impl_powers:Sum:={ fid:=179,dom:=[s39,s39],cod:=[(.int 3)],dp:=true,fz:=false,pre:=fun x=>Q_impl_powers x.1 x.2.1,g:=fun x=>((powsL x.1 x.2.1),()) }
def S_impl_powers_tab:List (Nat×Sum):=[(161,S_impl_powMod)]
theorem S_impl_powers_ok:FnOK Tryz.prog 179 S_impl_powers:=by
 refine at_enter 26 (fun x=>⟨[(0,aF (.int 3) x.1),(1,aF (.int 3) x.2.1)],[]⟩) Tryz.func179 rfl (by kernel_rfl) (fun x=>rfl) ?_
 rintro w0 Z0 ⟨x0,x1,u⟩ a w
 revert x0 x1
 intro (x0:(List Int)) (x1:(List Int)) hpre hlens h
 replace hpre:Q_impl_powers x0 x1:=hpre
 have hT:TabOK Tryz.prog S_impl_powers_tab:=(.cons S_impl_powMod_ok .nil)
 obtain ⟨hf0,hf1,hpx⟩:=hpre
 have hn0_1:List.length x0≤1073741824:=hf0.1
 have hn1_2:List.length x1≤1073741824:=hf1.1
 have hlp:=hpx.1
 refine wp_seq ?_
 refine at_regq [] { ts:=[0,1,4],os:=[] } [] gamOK hT h (by kernel_rfl) trivial fun a w h=>then_normal (wp_seq ?_)
 refine at_regq [] { ts:=[0,1,4,5],os:=[] } [] gamOK hT h (by kernel_rfl) trivial fun a w h=>then_normal (wp_seq (wp_seq ?_))
 refine at_regq [] { ts:=[1,4,5,8,9,10],os:=[] } [] gamOK hT h (by kernel_rfl) trivial fun a w h=>then_normal (wp_block ?_)
 replace h:=at_out (σ':=⟨[(1,aF (.int 3) x1),(4,aI 0),(5,aI 1),(8,aF (.int 3) x0),(9,aI ((List.length x0:Nat):Int)),(10,aI 0)],[]⟩) { ts:=[1,4,5,8,9,10],os:=[] } h (by kernel_rfl)
 refine at_loop (fun i:Nat=>(⟨[(1,aF (.int 3) x1),(4,aI 0),(5,aI (hpw x0 x1 i)),(8,aF (.int 3) x0),(9,aI ((List.length x0:Nat):Int)),(10,aI ((i:Nat):Int))],[]⟩:St)) (fun i=>i≤List.length x0) (fun i=>List.length x0 - i) (0) h (st_congr2 (fun (d0:Int) (d1:Int)=>(⟨[(1,aF (.int 3) x1),(4,aI 0),(5,aI d0),(8,aF (.int 3) x0),(9,aI ((List.length x0:Nat):Int)),(10,aI d1)],[]⟩:St)) (show (1:Int)=(hpw x0 x1 (0)) from by first | with_reducible rfl | (rfl) | rfl) (show (0:Int)=(((0):Nat):Int) from by first | with_reducible rfl | (rfl) | rfl)) (by omega) ?_
 intro i a w hok0 h
 have hbd:=hpw_bd hpx i
 refine wp_seq ?_
 refine at_regq [] { ts:=[1,4,5,8,9,10,11],os:=[] } [] gamOK hT h (by kernel_rfl) trivial fun a w h=>then_normal (wp_seq ?_)
 refine at_test (decide (((i:Nat):Int) < ((List.length x0:Nat):Int))) h (by kernel_rfl) (fun h1=>?_) (fun h1=>?_)
 ·replace h1 : ((i : Nat) : Int) < ((List.length x0 : Nat) : Int) := of_decide_eq_true h1
  have hex:=hpx.2.1 i
  have hxx:=hpx.2.2 i
  have hpb:=pow_bd hex (n:=x1.getD i 0) (by omega)
  have hmb:=mul_f (hpw x0 x1 i) (powD (x0.getD i 0) (x1.getD i 0) 2039)
  refine wp_skip (then_normal (wp_seq (wp_block (wp_seq ?_))))
  refine at_regq [] { ts:=[1,4,5,6,7,8,9,10],os:=[] } [(0:Int)≤((i:Nat):Int)∧((i:Nat):Int) < ((List.length x0:Nat):Int)] gamOK hT h (by kernel_rfl) ⟨(by refine ⟨?_,?_⟩<;>(first | omega | (simp only [lsA];omega) | (simp<;>omega))),trivial⟩ fun a w h=>then_normal ?_
  refine at_regq [{},{},{},{},{},{},{},{ nw:=true }] { ts:=[1,4,5,8,9,10],os:=[] } [(0:Int)≤((i:Nat):Int)∧((i:Nat):Int) < ((List.length x1:Nat):Int),powP (x0.getD i 0) (x1.getD i 0) 2039,I64 ((hpw x0 x1 i)*(powD (x0.getD i 0) (x1.getD i 0) 2039)),(2039:Int)≠0] gamOK hT h (by kernel_rfl) ⟨(by refine ⟨?_,?_⟩<;>(first | omega | (simp only [lsA];omega) | (simp<;>omega))),(by (show _∧_;refine ⟨⟨?_,?_⟩,⟨?_,?_⟩,?_,?_⟩<;>omega)),⟨by (have hA0:=mul_f (hpw x0 x1 i) (powD (x0.getD i 0) (x1.getD i 0) 2039);first | omega | (simp only [lsA];omega) | (simp<;>omega)),by (have hA0:=mul_f (hpw x0 x1 i) (powD (x0.getD i 0) (x1.getD i 0) 2039);first | omega | (simp only [lsA];omega) | (simp<;>omega))⟩,(by first | omega | (simp only [lsA];omega) | (simp<;>omega)),trivial⟩ fun a w h=>in_normal (then_normal ?_)
  refine at_regq [{ nw:=true }] { ts:=[1,4,5,8,9,10],os:=[] } [I64 (((i:Nat):Int)+1)] gamOK hT h (by kernel_rfl) ⟨⟨by first | omega | (simp only [lsA];omega) | (simp<;>omega),by first | omega | (simp only [lsA];omega) | (simp<;>omega)⟩,trivial⟩ fun a w h=>?_
  replace h:=at_out (σ':=⟨[(1,aF (.int 3) x1),(4,aI 0),(5,aI (Int.tmod ((hpw x0 x1 i)*(powD (x0.getD i 0) (x1.getD i 0) 2039)) 2039)),(8,aF (.int 3) x0),(9,aI ((List.length x0:Nat):Int)),(10,aI (((i:Nat):Int)+1))],[]⟩) { ts:=[1,4,5,8,9,10],os:=[] } h (by kernel_rfl)
  exact ⟨i+1,at_eq h (st_congr2 (fun (d0:Int) (d1:Int)=>(⟨[(1,aF (.int 3) x1),(4,aI 0),(5,aI d0),(8,aF (.int 3) x0),(9,aI ((List.length x0:Nat):Int)),(10,aI d1)],[]⟩:St)) (show ((Int.tmod ((hpw x0 x1 i)*(powD (x0.getD i 0) (x1.getD i 0) 2039)) 2039):Int)=(hpw x0 x1 (i+1)) from by first | with_reducible rfl | (rfl) | rfl) (show (((i:Nat):Int)+1:Int)=(((i+1):Nat):Int) from by first | with_reducible rfl | (omega) | rfl)),(by omega),(by omega)⟩
 ·replace h1 : ¬ (((i : Nat) : Int) < ((List.length x0 : Nat) : Int)) := of_decide_eq_false h1
  refine wp_exit (then_exit (then_exit (in_hit (then_normal (wp_seq ?_)))))
  refine at_regq [] { ts:=[4],os:=[] } [] gamOK hT h (by kernel_rfl) trivial fun a w h=>then_normal (wp_ret ?_)
  exact at_return ((hpw x0 x1 i),()) [] h (by kernel_rfl) trivial (congrArg (fun z=>(z,())) (show ((hpw x0 x1 i))=powsL x0 x1 from by (show _=hpw x0 x1 (List.length x0);rw [show List.length x0=i by omega])))

def validK (x0:(List Int)):Bool:=(if (List.all x0 (fun g=>!decide (g=1) && isGrp g))=true then (inR ((List.length x0:Nat):Int) 1 16) else false)
abbrev Q_impl_IsValidHashKey:=(fun (x0:(List Int))=>Sh.fit s54 x0)
def S_impl_IsValidHashKey:Sum:={ fid:=132,dom:=[s54],cod:=[(.bool 4)],dp:=true,fz:=false,pre:=fun x=>Q_impl_IsValidHashKey x.1,g:=fun x=>((validK x.1),()) }
def S_impl_IsValidHashKey_tab:List (Nat×Sum):=[(131,S_impl_IsGroupElement),(59,S_impl_InRange)]
theorem S_impl_IsValidHashKey_ok:FnOK Tryz.prog 132 S_impl_IsValidHashKey:=by
 refine at_enter 24 (fun x=>⟨[(0,aG [.ro (.int 3) x.1])],[]⟩) Tryz.func132 rfl (by kernel_rfl) (fun x=>rfl) ?_
 rintro w0 Z0 ⟨x0,u⟩ a w
 revert x0
 intro (x0:(List Int)) hpre hlens h
 replace hpre:Q_impl_IsValidHashKey x0:=hpre
 have hT:TabOK Tryz.prog S_impl_IsValidHashKey_tab:=(.cons S_impl_IsGroupElement_ok (.cons S_impl_InRange_ok .nil))
 have hf0:Sh.fit s54 x0:=hpre
 have hn0_1:List.length x0≤1073741824:=hf0.1
 refine wp_seq ?_
 refine at_regq [{ ids:=[1] }] { ts:=[1,2],os:=[1] } [] gamOK hT h (by kernel_rfl) trivial fun a w h=>then_normal (wp_seq (wp_seq ?_))
 refine at_regq [] { ts:=[1,2,6,7,8],os:=[1] } [] gamOK hT h (by kernel_rfl) trivial fun a w h=>then_normal (wp_block ?_)
 replace h:=at_out (σ':=⟨[(1,aP 1 0),(2,aB false),(6,aF (.int 3) x0),(7,aI ((List.length x0:Nat):Int)),(8,aI 0)],[(1,oX 54 [.ro (.int 3) x0])]⟩) { ts:=[1,2,6,7,8],os:=[1] } h (by kernel_rfl)
 refine at_loop (fun i:Nat=>(⟨[(1,aP 1 0),(2,aB false),(6,aF (.int 3) x0),(7,aI ((List.length x0:Nat):Int)),(8,aI ((i:Nat):Int))],[(1,oX 54 [.ro (.int 3) x0])]⟩:St)) (fun i=>(i≤List.length x0∧allTo1 (fun g=>!decide (g=1) && isGrp g) x0 0 i)) (fun i=>List.length x0 - i) (0) h (st_congr1 (fun (d0:Int)=>(⟨[(1,aP 1 0),(2,aB false),(6,aF (.int 3) x0),(7,aI ((List.length x0:Nat):Int)),(8,aI d0)],[(1,oX 54 [.ro (.int 3) x0])]⟩:St)) (show (0:Int)=(((0):Nat):Int) from by first | with_reducible rfl | (rfl) | rfl)) (by exact ⟨Nat.zero_le _,allTo1_zero⟩) ?_
 intro i a w hok0 h
 refine wp_seq ?_
 refine at_regq [] { ts:=[1,2,6,7,8,9],os:=[1] } [] gamOK hT h (by kernel_rfl) trivial fun a w h=>then_normal (wp_seq ?_)
 refine at_test (decide (((i:Nat):Int) < ((List.length x0:Nat):Int))) h (by kernel_rfl) (fun h1=>?_) (fun h1=>?_)
 ·replace h1 : ((i : Nat) : Int) < ((List.length x0 : Nat) : Int) := of_decide_eq_true h1
  refine wp_skip (then_normal (wp_seq (wp_block (wp_seq ?_))))
  refine at_regq [] { ts:=[1,2,4,6,7,8],os:=[1] } [(0:Int)≤((i:Nat):Int)∧((i:Nat):Int) < ((List.length x0:Nat):Int)] gamOK hT h (by kernel_rfl) ⟨(by refine ⟨?_,?_⟩<;>(first | omega | (simp only [lsA];omega) | (simp<;>omega))),trivial⟩ fun a w h=>then_normal (wp_seq ?_)
  by_cases h2:(x0.getD i 0)=1
  ·refine at_regq [{}, { hint := some (aB true) }] { ts := [1, 2, 6, 7, 8, 15, 16, 17, 18], os := [1] } [(AV.p (.c (.v (.bool (decide ((x0.getD i 0) = 1))))) = AV.p (.c (.v (.bool true))))] gamOK hT h (by kernel_rfl) ⟨hint_bool (decide_eq_true h2), trivial⟩ fun a w h => then_normal ?_
   refine at_test true h (by kernel_rfl) (fun hh=>?_) (fun hh=>nomatch hh)
   refine wp_seq ?_
   refine at_regq [] { ts:=[1,2,6,7,8,15,16,17],os:=[1] } [] gamOK hT h (by kernel_rfl) trivial fun a w h=>then_normal (wp_ret (in_ret (then_ret ?_)))
   have hs3:(List.all x0 (fun g=>!decide (g=1) && isGrp g))=false:=by exact all_at (z:=0) (i:=i) (by omega) (by first | assumption | (simp_all;done))
   refine then_ret (in_ret (then_ret ?_))
   exact at_return (false,()) [] h (by kernel_rfl) trivial (congrArg (fun z=>(z,())) (show (false)=validK x0 from by first | rfl | (unfold validK;rw [if_neg (neT hs3)])))
  ·refine at_regq [{}, { hint := some (aB false) }] { ts := [1, 2, 6, 7, 8, 15, 16, 17, 18], os := [1] } [(AV.p (.c (.v (.bool (decide ((x0.getD i 0) = 1))))) = AV.p (.c (.v (.bool false)))), True] gamOK hT h (by kernel_rfl) ⟨hint_bool (decide_eq_false h2), trivial, trivial⟩ fun a w h => then_normal ?_
   refine at_test (!(isGrp (x0.getD i 0))) h (by kernel_rfl) (fun h4=>?_) (fun h4=>?_)
   ·replace h4 : (isGrp (x0.getD i 0)) = false := notT h4
    refine wp_seq ?_
    refine at_regq [] { ts:=[1,2,6,7,8,15,16,17],os:=[1] } [] gamOK hT h (by kernel_rfl) trivial fun a w h=>then_normal (wp_ret (in_ret (then_ret ?_)))
    have hs5:(List.all x0 (fun g=>!decide (g=1) && isGrp g))=false:=by exact all_at (z:=0) (i:=i) (by omega) (by first | assumption | (simp_all;done))
    refine then_ret (in_ret (then_ret ?_))
    exact at_return (false,()) [] h (by kernel_rfl) trivial (congrArg (fun z=>(z,())) (show (false)=validK x0 from by first | rfl | (unfold validK;rw [if_neg (neT hs5)])))
   ·replace h4 : (isGrp (x0.getD i 0)) = true := notF h4
    have hvh4:=isGrp_t h4
    refine wp_skip (in_normal (then_normal ?_))
    refine at_regq [{ nw:=true }] { ts:=[1,2,6,7,8,15,16,17],os:=[1] } [I64 (((i:Nat):Int)+1)] gamOK hT h (by kernel_rfl) ⟨⟨by first | omega | (simp only [lsA];omega) | (simp<;>omega),by first | omega | (simp only [lsA];omega) | (simp<;>omega)⟩,trivial⟩ fun a w h=>?_
    replace h:=at_out (σ':=⟨[(1,aP 1 0),(2,aB false),(6,aF (.int 3) x0),(7,aI ((List.length x0:Nat):Int)),(8,aI (((i:Nat):Int)+1))],[(1,oX 54 [.ro (.int 3) x0])]⟩) { ts:=[1,2,6,7,8],os:=[1] } h (by kernel_rfl)
    exact ⟨i+1,at_eq h (st_congr1 (fun (d0:Int)=>(⟨[(1,aP 1 0),(2,aB false),(6,aF (.int 3) x0),(7,aI ((List.length x0:Nat):Int)),(8,aI d0)],[(1,oX 54 [.ro (.int 3) x0])]⟩:St)) (show (((i:Nat):Int)+1:Int)=(((i+1):Nat):Int) from by first | with_reducible rfl | (omega) | rfl)),(by exact ⟨by omega,allTo1_succ hok0.2 (by first | assumption | (simp_all;done))⟩),(by omega)⟩
 ·replace h1 : ¬ (((i : Nat) : Int) < ((List.length x0 : Nat) : Int)) := of_decide_eq_false h1
  refine wp_exit (then_exit ?_)
  have hs6:(List.all x0 (fun g=>!decide (g=1) && isGrp g))=true:=by exact all_of (z:=0) (i:=i) (by omega) hok0.2
  refine then_exit (in_hit (then_normal (wp_seq ?_)))
  refine at_regq [] { ts:=[2],os:=[] } [True] gamOK hT h (by kernel_rfl) ⟨trivial,trivial⟩ fun a w h=>then_normal (wp_ret ?_)
  exact at_return ((inR ((List.length x0:Nat):Int) 1 16),()) [] h (by kernel_rfl) trivial (congrArg (fun z=>(z,())) (show ((inR ((List.length x0:Nat):Int) 1 16))=validK x0 from by first | rfl | (unfold validK;rw [if_pos hs6])))
theorem validK_t {k:List Int} (h:validK k=true):(1≤List.length k∧List.length k≤16)∧∀ g∈k,isGrp g=true:=by
 unfold validK at h
 split at h
 ·rename_i ha
  have:=inR_t h
  refine ⟨by omega,fun g hg=>?_⟩
  have:=List.all_eq_true.1 ha g hg
  rw [Bool.and_eq_true] at this
  exact this.2
 ·cases h

abbrev Q_spec_IsValidHashKey:=(fun (x0:(List Int))=>Sh.fit s54 x0)
def S_spec_IsValidHashKey:Sum:={ fid:=137,dom:=[s54],cod:=[(.bool 4)],dp:=true,fz:=false,pre:=fun x=>Q_spec_IsValidHashKey x.1,g:=fun x=>((validK x.1),()) }
def S_spec_IsValidHashKey_tab:List (Nat×Sum):=[(136,S_spec_IsGroupElement),(92,S_spec_l1In)]
theorem S_spec_IsValidHashKey_ok:FnOK Tryz.prog 137 S_spec_IsValidHashKey:=by
 refine at_enter 30 (fun x=>⟨[(0,aG [.ro (.int 3) x.1])],[]⟩) Tryz.func137 rfl (by kernel_rfl) (fun x=>rfl) ?_
 rintro w0 Z0 ⟨x0,u⟩ a w
 revert x0
 intro (x0:(List Int)) hpre hlens h
 replace hpre:Q_spec_IsValidHashKey x0:=hpre
 have hT:TabOK Tryz.prog S_spec_IsValidHashKey_tab:=(.cons S_spec_IsGroupElement_ok (.cons S_spec_l1In_ok .nil))
 have hf0:Sh.fit s54 x0:=hpre
 have hn0_1:List.length x0≤1073741824:=hf0.1
 refine wp_seq ?_
 refine at_regq [{ ids:=[1] }] { ts:=[1,2],os:=[1] } [] gamOK hT h (by kernel_rfl) trivial fun a w h=>then_normal (wp_seq (wp_seq ?_))
 refine at_regq [] { ts:=[1,2,3],os:=[1] } [] gamOK hT h (by kernel_rfl) trivial fun a w h=>then_normal (wp_block ?_)
 replace h:=at_out (σ':=⟨[(1,aP 1 0),(2,aB false),(3,aI 0)],[(1,oX 54 [.ro (.int 3) x0])]⟩) { ts:=[1,2,3],os:=[1] } h (by kernel_rfl)
 refine at_loop (fun i:Nat=>(⟨[(1,aP 1 0),(2,aB false),(3,aI ((i:Nat):Int))],[(1,oX 54 [.ro (.int 3) x0])]⟩:St)) (fun i=>(i≤List.length x0∧allTo1 (fun g=>!decide (g=1) && isGrp g) x0 0 i)) (fun i=>List.length x0 - i) (0) h (st_congr1 (fun (d0:Int)=>(⟨[(1,aP 1 0),(2,aB false),(3,aI d0)],[(1,oX 54 [.ro (.int 3) x0])]⟩:St)) (show (0:Int)=(((0):Nat):Int) from by first | with_reducible rfl | (rfl) | rfl)) (by exact ⟨Nat.zero_le _,allTo1_zero⟩) ?_
 intro i a w hok0 h
 refine wp_seq (wp_seq ?_)
 refine at_regq [] { ts:=[1,2,3,8],os:=[1] } [] gamOK hT h (by kernel_rfl) trivial fun a w h=>then_normal ?_
 refine at_test (decide (((i:Nat):Int) < ((List.length x0:Nat):Int))) h (by kernel_rfl) (fun h1=>?_) (fun h1=>?_)
 ·replace h1 : ((i : Nat) : Int) < ((List.length x0 : Nat) : Int) := of_decide_eq_true h1
  refine wp_skip (then_normal (wp_seq (wp_block (wp_seq ?_))))
  rcases Bool.eq_false_or_eq_true (!(isGrp (x0.getD i 0))) with h2 | h2
  ·have hzh2 : (isGrp (x0.getD i 0)) = false := notT h2
   refine at_regq [{},{},{},{},{},{},{ hint:=some (aB true) }] { ts:=[1,2,3,19,20,21,22,23,24,25],os:=[1] } [(0:Int)≤((i:Nat):Int)∧((i:Nat):Int) < ((List.length x0:Nat):Int),True,(AV.p (.c (.v (.bool (!(isGrp (x0.getD i 0))))))=AV.p (.c (.v (.bool true))))] gamOK hT h (by kernel_rfl) ⟨(by refine ⟨?_,?_⟩<;>(first | omega | (simp only [lsA];omega) | (simp<;>omega))),trivial,hint_bool (h2),trivial⟩ fun a w h=>then_normal ?_
   refine at_test true h (by kernel_rfl) (fun hh=>?_) (fun hh=>nomatch hh)
   refine wp_seq ?_
   refine at_regq [] { ts:=[1,2,3,19,20,21,22,23,24],os:=[1] } [] gamOK hT h (by kernel_rfl) trivial fun a w h=>then_normal (wp_ret (in_ret (then_ret ?_)))
   have hs3:(List.all x0 (fun g=>!decide (g=1) && isGrp g))=false:=by exact all_at (z:=0) (i:=i) (by omega) (by first | assumption | (simp_all;done))
   refine then_ret (in_ret (then_ret ?_))
   exact at_return (false,()) [] h (by kernel_rfl) trivial (congrArg (fun z=>(z,())) (show (false)=validK x0 from by first | rfl | (unfold validK;rw [if_neg (neT hs3)];done) | (unfold validK;simp_all)))
  ·have hzh2 : (isGrp (x0.getD i 0)) = true := notF h2
   have hvh2:=isGrp_t (notF h2)
   refine at_regq [{},{},{},{},{},{},{ hint:=some (aB false) }] { ts:=[1,2,3,19,20,21,22,23,24,25],os:=[1] } [(0:Int)≤((i:Nat):Int)∧((i:Nat):Int) < ((List.length x0:Nat):Int),True,(AV.p (.c (.v (.bool (!(isGrp (x0.getD i 0))))))=AV.p (.c (.v (.bool false)))),(0:Int)≤((i:Nat):Int)∧((i:Nat):Int) < ((List.length x0:Nat):Int)] gamOK hT h (by kernel_rfl) ⟨(by refine ⟨?_,?_⟩<;>(first | omega | (simp only [lsA];omega) | (simp<;>omega))),trivial,hint_bool (h2),(by refine ⟨?_,?_⟩<;>(first | omega | (simp only [lsA];omega) | (simp<;>omega))),trivial⟩ fun a w h=>then_normal ?_
   refine at_test (decide ((x0.getD i 0)=1)) h (by kernel_rfl) (fun h4=>?_) (fun h4=>?_)
   ·replace h4 : (x0.getD i 0) = 1 := of_decide_eq_true h4
    refine wp_seq ?_
    refine at_regq [] { ts:=[1,2,3,19,20,21,22,23,24],os:=[1] } [] gamOK hT h (by kernel_rfl) trivial fun a w h=>then_normal (wp_ret (in_ret (then_ret ?_)))
    have hs5:(List.all x0 (fun g=>!decide (g=1) && isGrp g))=false:=by exact all_at (z:=0) (i:=i) (by omega) (by first | assumption | (simp_all;done))
    refine then_ret (in_ret (then_ret ?_))
    exact at_return (false,()) [] h (by kernel_rfl) trivial (congrArg (fun z=>(z,())) (show (false)=validK x0 from by first | rfl | (unfold validK;rw [if_neg (neT hs5)];done) | (unfold validK;simp_all)))
   ·replace h4 : ¬ ((x0.getD i 0) = 1) := of_decide_eq_false h4
    refine wp_skip (in_normal (then_normal ?_))
    refine at_regq [{},{ nw:=true }] { ts:=[1,2,3,19,20,21,22,23,24],os:=[1] } [I64 (((i:Nat):Int)+1)] gamOK hT h (by kernel_rfl) ⟨⟨by first | omega | (simp only [lsA];omega) | (simp<;>omega),by first | omega | (simp only [lsA];omega) | (simp<;>omega)⟩,trivial⟩ fun a w h=>?_
    replace h:=at_out (σ':=⟨[(1,aP 1 0),(2,aB false),(3,aI (((i:Nat):Int)+1))],[(1,oX 54 [.ro (.int 3) x0])]⟩) { ts:=[1,2,3],os:=[1] } h (by kernel_rfl)
    exact ⟨i+1,at_eq h (st_congr1 (fun (d0:Int)=>(⟨[(1,aP 1 0),(2,aB false),(3,aI d0)],[(1,oX 54 [.ro (.int 3) x0])]⟩:St)) (show (((i:Nat):Int)+1:Int)=(((i+1):Nat):Int) from by first | with_reducible rfl | (omega) | rfl)),(by exact ⟨by omega,allTo1_succ hok0.2 (by first | assumption | (simp_all;done))⟩),(by omega)⟩
 ·replace h1 : ¬ (((i : Nat) : Int) < ((List.length x0 : Nat) : Int)) := of_decide_eq_false h1
  refine wp_exit (then_exit ?_)
  have hs6:(List.all x0 (fun g=>!decide (g=1) && isGrp g))=true:=by exact all_of (z:=0) (i:=i) (by omega) hok0.2
  refine then_exit (in_hit (then_normal (wp_seq ?_)))
  refine at_regq [] { ts:=[2],os:=[] } [True] gamOK hT h (by kernel_rfl) ⟨trivial,trivial⟩ fun a w h=>then_normal (wp_ret ?_)
  exact at_return ((inR ((List.length x0:Nat):Int) 1 16),()) [] h (by kernel_rfl) trivial (congrArg (fun z=>(z,())) (show ((inR ((List.length x0:Nat):Int) 1 16))=validK x0 from by first | rfl | (unfold validK;rw [if_pos hs6];done) | (unfold validK;simp_all)))

def hashV (x0:(List Int)) (x1:(List Int)):Int:=(if (validK x0)=true then (if (validV x1)=true then (if ((List.length x1:Nat):Int)=((List.length x0:Nat):Int) then (powsL x0 x1) else 0) else 0) else 0)
abbrev Q_impl_HashVector:=(fun (x0:(List Int)) (x1:(List Int))=>Sh.fit s54 x0∧Sh.fit s39 x1)
def S_impl_HashVector:Sum:={ fid:=162,dom:=[s54,s39],cod:=[(.int 3)],dp:=true,fz:=false,pre:=fun x=>Q_impl_HashVector x.1 x.2.1,g:=fun x=>((hashV x.1 x.2.1),()) }
def S_impl_HashVector_tab:List (Nat×Sum):=[(132,S_impl_IsValidHashKey),(64,S_impl_IsValidVector),(179,S_impl_powers)]
theorem S_impl_HashVector_ok:FnOK Tryz.prog 162 S_impl_HashVector:=by
 refine at_enter 25 (fun x=>⟨[(0,aG [.ro (.int 3) x.1]),(1,aF (.int 3) x.2.1)],[]⟩) Tryz.func162 rfl (by kernel_rfl) (fun x=>rfl) ?_
 rintro w0 Z0 ⟨x0,x1,u⟩ a w
 revert x0 x1
 intro (x0:(List Int)) (x1:(List Int)) hpre hlens h
 replace hpre:Q_impl_HashVector x0 x1:=hpre
 have hT:TabOK Tryz.prog S_impl_HashVector_tab:=(.cons S_impl_IsValidHashKey_ok (.cons S_impl_IsValidVector_ok (.cons S_impl_powers_ok .nil)))
 obtain ⟨hf0,hf1⟩:=hpre
 have hn0_1:List.length x0≤1073741824:=hf0.1
 have hn1_2:List.length x1≤1073741824:=hf1.1
 refine wp_seq ?_
 refine at_regq [{ ids:=[1] }] { ts:=[1,2,4],os:=[1] } [] gamOK hT h (by kernel_rfl) trivial fun a w h=>then_normal (wp_seq (wp_seq ?_))
 rcases Bool.eq_false_or_eq_true (!(validK x0)) with h1 | h1
 ·have hzh1 : (validK x0) = false := notT h1
  refine at_regq [{},{},{ hint:=some (aB true) }] { ts:=[1,2,4,20],os:=[1] } [Q_impl_IsValidHashKey x0,(AV.p (.c (.v (.bool (!(validK x0)))))=AV.p (.c (.v (.bool true))))] gamOK hT h (by kernel_rfl) ⟨(by exact hf0),hint_bool (h1),trivial⟩ fun a w h=>then_normal ?_
  refine at_test true h (by kernel_rfl) (fun hh=>?_) (fun hh=>nomatch hh)
  refine wp_seq ?_
  refine at_regq [] { ts:=[1,2,4],os:=[1] } [] gamOK hT h (by kernel_rfl) trivial fun a w h=>then_normal (wp_ret (then_ret ?_))
  exact at_return (0,()) [] h (by kernel_rfl) trivial (congrArg (fun z=>(z,())) (show (0)=hashV x0 x1 from by first | rfl | (unfold hashV;rw [if_neg (neT (notT h1))])))
 ·have hzh1 : (validK x0) = true := notF h1
  have hvh1:=validK_t (notF h1)
  rcases Bool.eq_false_or_eq_true (!(validV x1)) with h2 | h2
  ·have hzh2 : (validV x1) = false := notT h2
   refine at_regq [{},{},{ hint:=some (aB false) },{},{},{},{ hint:=some (aB true) }] { ts:=[1,2,4,20],os:=[1] } [Q_impl_IsValidHashKey x0,(AV.p (.c (.v (.bool (!(validK x0)))))=AV.p (.c (.v (.bool false)))),Q_impl_IsValidVector x1,(AV.p (.c (.v (.bool (!(validV x1)))))=AV.p (.c (.v (.bool true))))] gamOK hT h (by kernel_rfl) ⟨(by exact hf0),hint_bool (h1),(by exact hf1),hint_bool (h2),trivial⟩ fun a w h=>then_normal ?_
   refine at_test true h (by kernel_rfl) (fun hh=>?_) (fun hh=>nomatch hh)
   refine wp_seq ?_
   refine at_regq [] { ts:=[1,2,4],os:=[1] } [] gamOK hT h (by kernel_rfl) trivial fun a w h=>then_normal (wp_ret (then_ret ?_))
   exact at_return (0,()) [] h (by kernel_rfl) trivial (congrArg (fun z=>(z,())) (show (0)=hashV x0 x1 from by first | rfl | (unfold hashV;rw [if_pos (notF h1),if_neg (neT (notT h2))])))
  ·have hzh2 : (validV x1) = true := notF h2
   have hvh2:=validV_t (notF h2)
   refine at_regq [{},{},{ hint:=some (aB false) },{},{},{},{ hint:=some (aB false) }] { ts:=[1,2,4,20],os:=[1] } [Q_impl_IsValidHashKey x0,(AV.p (.c (.v (.bool (!(validK x0)))))=AV.p (.c (.v (.bool false)))),Q_impl_IsValidVector x1,(AV.p (.c (.v (.bool (!(validV x1)))))=AV.p (.c (.v (.bool false))))] gamOK hT h (by kernel_rfl) ⟨(by exact hf0),hint_bool (h1),(by exact hf1),hint_bool (h2),trivial⟩ fun a w h=>then_normal ?_
   refine at_test (!decide (((List.length x1:Nat):Int)=((List.length x0:Nat):Int))) h (by kernel_rfl) (fun h3=>?_) (fun h3=>?_)
   ·replace h3 : ¬ (((List.length x1 : Nat) : Int) = ((List.length x0 : Nat) : Int)) := of_decide_eq_false (notT h3)
    refine wp_seq ?_
    refine at_regq [] { ts:=[1,2,4],os:=[1] } [] gamOK hT h (by kernel_rfl) trivial fun a w h=>then_normal (wp_ret (then_ret ?_))
    exact at_return (0,()) [] h (by kernel_rfl) trivial (congrArg (fun z=>(z,())) (show (0)=hashV x0 x1 from by first | rfl | (unfold hashV;rw [if_pos (notF h1),if_pos (notF h2),if_neg h3])))
   ·replace h3 : ((List.length x1 : Nat) : Int) = ((List.length x0 : Nat) : Int) := of_decide_eq_true (notF h3)
    refine wp_skip (then_normal (wp_seq ?_))
    refine at_regq [] { ts:=[4],os:=[] } [Q_impl_powers x0 x1] gamOK hT h (by kernel_rfl) ⟨(by exact ⟨hf0,hf1,by omega,grp_at (validK_t (by assumption)).2,(validV_t (by assumption)).2.2⟩),trivial⟩ fun a w h=>then_normal (wp_ret ?_)
    exact at_return ((powsL x0 x1),()) [] h (by kernel_rfl) trivial (congrArg (fun z=>(z,())) (show ((powsL x0 x1))=hashV x0 x1 from by first | rfl | (unfold hashV;rw [if_pos (notF h1),if_pos (notF h2),if_pos h3])))

abbrev Q_spec_HashVector:=(fun (x0:(List Int)) (x1:(List Int))=>Sh.fit s54 x0∧Sh.fit s39 x1)
def S_spec_HashVector:Sum:={ fid:=166,dom:=[s54,s39],cod:=[(.int 3)],dp:=true,fz:=false,pre:=fun x=>Q_spec_HashVector x.1 x.2.1,g:=fun x=>((hashV x.1 x.2.1),()) }
def S_spec_HashVector_tab:List (Nat×Sum):=[(137,S_spec_IsValidHashKey),(73,S_spec_IsValidVector),(174,S_spec_PowGroup),(181,S_spec_MulGroup)]
theorem S_spec_HashVector_ok:FnOK Tryz.prog 166 S_spec_HashVector:=by
 refine at_enter 42 (fun x=>⟨[(0,aG [.ro (.int 3) x.1]),(1,aF (.int 3) x.2.1)],[]⟩) Tryz.func166 rfl (by kernel_rfl) (fun x=>rfl) ?_
 rintro w0 Z0 ⟨x0,x1,u⟩ a w
 revert x0 x1
 intro (x0:(List Int)) (x1:(List Int)) hpre hlens h
 replace hpre:Q_spec_HashVector x0 x1:=hpre
 have hT:TabOK Tryz.prog S_spec_HashVector_tab:=(.cons S_spec_IsValidHashKey_ok (.cons S_spec_IsValidVector_ok (.cons S_spec_PowGroup_ok (.cons S_spec_MulGroup_ok .nil))))
 obtain ⟨hf0,hf1⟩:=hpre
 have hn0_1:List.length x0≤1073741824:=hf0.1
 have hn1_2:List.length x1≤1073741824:=hf1.1
 refine wp_seq ?_
 refine at_regq [{ ids:=[1] }] { ts:=[1,2,4],os:=[1] } [] gamOK hT h (by kernel_rfl) trivial fun a w h=>then_normal (wp_seq (wp_seq ?_))
 rcases Bool.eq_false_or_eq_true (!(validK x0)) with h1 | h1
 ·have hzh1 : (validK x0) = false := notT h1
  refine at_regq [{},{},{ hint:=some (aB true) }] { ts:=[1,2,4,22],os:=[1] } [Q_spec_IsValidHashKey x0,(AV.p (.c (.v (.bool (!(validK x0)))))=AV.p (.c (.v (.bool true))))] gamOK hT h (by kernel_rfl) ⟨(by exact hf0),hint_bool (h1),trivial⟩ fun a w h=>then_normal ?_
  refine at_test true h (by kernel_rfl) (fun hh=>?_) (fun hh=>nomatch hh)
  refine wp_seq ?_
  refine at_regq [] { ts:=[1,2,4],os:=[1] } [] gamOK hT h (by kernel_rfl) trivial fun a w h=>then_normal (wp_ret (then_ret ?_))
  exact at_return (0,()) [] h (by kernel_rfl) trivial (congrArg (fun z=>(z,())) (show (0)=hashV x0 x1 from by first | rfl | (unfold hashV;rw [if_neg (neT (notT h1))];done) | (unfold hashV;simp_all)))
 ·have hzh1 : (validK x0) = true := notF h1
  have hvh1:=validK_t (notF h1)
  rcases Bool.eq_false_or_eq_true (!(validV x1)) with h2 | h2
  ·have hzh2 : (validV x1) = false := notT h2
   refine at_regq [{},{},{ hint:=some (aB false) },{},{},{},{ hint:=some (aB true) }] { ts:=[1,2,4,22],os:=[1] } [Q_spec_IsValidHashKey x0,(AV.p (.c (.v (.bool (!(validK x0)))))=AV.p (.c (.v (.bool false)))),Q_spec_IsValidVector x1,(AV.p (.c (.v (.bool (!(validV x1)))))=AV.p (.c (.v (.bool true))))] gamOK hT h (by kernel_rfl) ⟨(by exact hf0),hint_bool (h1),(by exact hf1),hint_bool (h2),trivial⟩ fun a w h=>then_normal ?_
   refine at_test true h (by kernel_rfl) (fun hh=>?_) (fun hh=>nomatch hh)
   refine wp_seq ?_
   refine at_regq [] { ts:=[1,2,4],os:=[1] } [] gamOK hT h (by kernel_rfl) trivial fun a w h=>then_normal (wp_ret (then_ret ?_))
   exact at_return (0,()) [] h (by kernel_rfl) trivial (congrArg (fun z=>(z,())) (show (0)=hashV x0 x1 from by first | rfl | (unfold hashV;rw [if_pos (notF h1),if_neg (neT (notT h2))];done) | (unfold hashV;simp_all)))
  ·have hzh2 : (validV x1) = true := notF h2
   have hvh2:=validV_t (notF h2)
   refine at_regq [{},{},{ hint:=some (aB false) },{},{},{},{ hint:=some (aB false) }] { ts:=[1,2,4,22],os:=[1] } [Q_spec_IsValidHashKey x0,(AV.p (.c (.v (.bool (!(validK x0)))))=AV.p (.c (.v (.bool false)))),Q_spec_IsValidVector x1,(AV.p (.c (.v (.bool (!(validV x1)))))=AV.p (.c (.v (.bool false))))] gamOK hT h (by kernel_rfl) ⟨(by exact hf0),hint_bool (h1),(by exact hf1),hint_bool (h2),trivial⟩ fun a w h=>then_normal ?_
   refine at_test (!decide (((List.length x1:Nat):Int)=((List.length x0:Nat):Int))) h (by kernel_rfl) (fun h3=>?_) (fun h3=>?_)
   ·replace h3 : ¬ (((List.length x1 : Nat) : Int) = ((List.length x0 : Nat) : Int)) := of_decide_eq_false (notT h3)
    refine wp_seq ?_
    refine at_regq [] { ts:=[1,2,4],os:=[1] } [] gamOK hT h (by kernel_rfl) trivial fun a w h=>then_normal (wp_ret (then_ret ?_))
    exact at_return (0,()) [] h (by kernel_rfl) trivial (congrArg (fun z=>(z,())) (show (0)=hashV x0 x1 from by first | rfl | (unfold hashV;rw [if_pos (notF h1),if_pos (notF h2),if_neg h3];done) | (unfold hashV;simp_all)))
   ·replace h3 : ((List.length x1 : Nat) : Int) = ((List.length x0 : Nat) : Int) := of_decide_eq_true (notF h3)
    refine wp_skip (then_normal (wp_seq ?_))
    refine at_regq [] { ts:=[1,2,4,5],os:=[1] } [] gamOK hT h (by kernel_rfl) trivial fun a w h=>then_normal (wp_seq (wp_seq ?_))
    refine at_regq [] { ts:=[1,2,4,5,6],os:=[1] } [] gamOK hT h (by kernel_rfl) trivial fun a w h=>then_normal (wp_block ?_)
    replace h:=at_out (σ':=⟨[(1,aF (.int 3) x1),(2,aP 1 0),(4,aI 0),(5,aI 1),(6,aI 0)],[(1,oX 54 [.ro (.int 3) x0])]⟩) { ts:=[1,2,4,5,6],os:=[1] } h (by kernel_rfl)
    refine at_loop (fun i:Nat=>(⟨[(1,aF (.int 3) x1),(2,aP 1 0),(4,aI 0),(5,aI (hpw x0 x1 i)),(6,aI ((i:Nat):Int))],[(1,oX 54 [.ro (.int 3) x0])]⟩:St)) (fun i=>i≤List.length x1) (fun i=>List.length x1 - i) (0) h (st_congr2 (fun (d0:Int) (d1:Int)=>(⟨[(1,aF (.int 3) x1),(2,aP 1 0),(4,aI 0),(5,aI d0),(6,aI d1)],[(1,oX 54 [.ro (.int 3) x0])]⟩:St)) (show (1:Int)=(hpw x0 x1 (0)) from by first | with_reducible rfl | (rfl) | rfl) (show (0:Int)=(((0):Nat):Int) from by first | with_reducible rfl | (rfl) | rfl)) (by omega) ?_
    intro i a w hok0 h
    refine wp_seq (wp_seq ?_)
    refine at_regq [] { ts:=[1,2,4,5,6,26],os:=[1] } [] gamOK hT h (by kernel_rfl) trivial fun a w h=>then_normal ?_
    refine at_test (decide (((i:Nat):Int) < ((List.length x1:Nat):Int))) h (by kernel_rfl) (fun h4=>?_) (fun h4=>?_)
    ·replace h4 : ((i : Nat) : Int) < ((List.length x1 : Nat) : Int) := of_decide_eq_true h4
     have hkg:=(validK_t (k:=x0) (by assumption)).2
     have hvr:=(validV_t (v:=x1) (by assumption)).2.2
     have hke:=hkg _ (getD_mem (z:=0) (show i < List.length x0 by omega))
     have hhg:=hpw_grp hkg hvr i (by omega)
     refine wp_skip (then_normal (wp_seq (wp_block ?_)))
     refine at_anyq [{},{},{},{},{},{},{},{},{},{},{},{},{}] { ts:=[1,2,4,5,6],os:=[1] } [(0:Int)≤((i:Nat):Int)∧((i:Nat):Int) < ((List.length x0:Nat):Int),(0:Int)≤((i:Nat):Int)∧((i:Nat):Int) < ((List.length x1:Nat):Int),True,True] gamOK hT mixed h (by kernel_rfl) ⟨(by refine ⟨?_,?_⟩<;>(first | omega | (simp only [lsA];omega) | (simp<;>omega))),(by refine ⟨?_,?_⟩<;>(first | omega | (simp only [lsA];omega) | (simp<;>omega))),trivial,trivial,trivial⟩ fun a w h=>in_normal (then_normal ?_)
     refine at_regq [{},{ nw:=true }] { ts:=[1,2,4,5,6],os:=[1] } [I64 (((i:Nat):Int)+1)] gamOK hT h (by kernel_rfl) ⟨⟨by first | omega | (simp only [lsA];omega) | (simp<;>omega),by first | omega | (simp only [lsA];omega) | (simp<;>omega)⟩,trivial⟩ fun a w h=>?_
     replace h:=at_out (σ':=⟨[(1,aF (.int 3) x1),(2,aP 1 0),(4,aI 0),(5,aI (mulG (hpw x0 x1 i) (powG (x0.getD i 0) (x1.getD i 0)))),(6,aI (((i:Nat):Int)+1))],[(1,oX 54 [.ro (.int 3) x0])]⟩) { ts:=[1,2,4,5,6],os:=[1] } h (by kernel_rfl)
     exact ⟨i+1,at_eq h (st_congr2 (fun (d0:Int) (d1:Int)=>(⟨[(1,aF (.int 3) x1),(2,aP 1 0),(4,aI 0),(5,aI d0),(6,aI d1)],[(1,oX 54 [.ro (.int 3) x0])]⟩:St)) (show ((mulG (hpw x0 x1 i) (powG (x0.getD i 0) (x1.getD i 0))):Int)=(hpw x0 x1 (i+1)) from by first | with_reducible rfl | (exact hpw_step hhg hke (hvr i)) | rfl) (show (((i:Nat):Int)+1:Int)=(((i+1):Nat):Int) from by first | with_reducible rfl | (omega) | rfl)),(by omega),(by omega)⟩
    ·replace h4 : ¬ (((i : Nat) : Int) < ((List.length x1 : Nat) : Int)) := of_decide_eq_false h4
     refine wp_exit (then_exit ?_)
     replace h:=at_out (σ':=⟨[(4,aI 0),(5,aI (hpw x0 x1 i))],[]⟩) { ts:=[4,5],os:=[] } h (by kernel_rfl)
     replace h:=at_eq (σ':=⟨[(4,aI 0),(5,aI (powsL x0 x1))],[]⟩) h (st_congr1 (fun (d0:Int)=>(⟨[(4,aI 0),(5,aI d0)],[]⟩:St)) (show ((hpw x0 x1 i):Int)=(powsL x0 x1) from by first | with_reducible rfl | (unfold powsL;rw [show List.length x0=i by omega]) | rfl))
     refine then_exit (in_hit (then_normal (wp_seq ?_)))
     refine at_regq [] { ts:=[4],os:=[] } [] gamOK hT h (by kernel_rfl) trivial fun a w h=>then_normal (wp_ret ?_)
     exact at_return ((powsL x0 x1),()) [] h (by kernel_rfl) trivial (congrArg (fun z=>(z,())) (show ((powsL x0 x1))=hashV x0 x1 from by first | rfl | (unfold hashV;rw [if_pos (notF h1),if_pos (notF h2),if_pos h3];done) | (unfold hashV;simp_all)))
def hsOK (k:List Int) (g:T26):Prop:=validK k=true∧validG g=true∧colsOf g.2=((List.length k:Nat):Int)
instance (k:List Int) (g:T26):Decidable (hsOK k g):=by unfold hsOK;exact inferInstance
def hashSyms (k:List Int) (g:T26):List Int:=if hsOK k g then g.2.map (fun s=>powsL k s) else []
theorem hashSyms_y {k:List Int} {g:T26} (h:hsOK k g):g.2.map (fun s=>powsL k s)=hashSyms k g:=(if_pos h).symm
theorem hashSyms_n {k:List Int} {g:T26} (h:¬ hsOK k g):[]=hashSyms k g:=(if_neg h).symm
theorem hashSyms_len {k:List Int} {g:T26}:List.length (hashSyms k g)≤List.length g.2:=by
 unfold hashSyms;split
 ·simp
 ·exact Nat.zero_le _
theorem hashSyms_nil {k:List Int} {g:T26} (h:List.length (hashSyms k g)=0):¬ hsOK k g:=fun e=>by
 unfold hashSyms at h;rw [if_pos e,List.length_map] at h
 have:=(validG_t e.2.1).2.1;omega
theorem hashV_sym {k:List Int} {g:T26} {i:Nat} (h:hsOK k g) (hi:i < List.length g.2):hashV k (g.2.getD i [])=powsL k (g.2.getD i []):=by
 have hgm:=(validG_t h.2.1).2.2.1
 have hgc:=colsOf_at (m:=g.2) (by omega)
 have hga:=validM_at hgm i hi
 have hgv:=(validM_t hgm).2 _ (getD_mem (z:=[]) hi)
 have h3:=h.2.2
 unfold hashV
 rw [if_pos h.1,if_pos hgv.1]
 first | rw [if_pos (by omega)] | rw [if_neg (by omega)]
theorem hashSyms_end {k:List Int} {g:T26} {i:Nat} (hi:i≤List.length g.2) (h:i=0∨hsOK k g) (he:List.length g.2≤i∨¬ hsOK k g):List.map (fun s=>powsL k s) (List.take i g.2)=hashSyms k g:=by
 unfold hashSyms
 by_cases hs:hsOK k g
 ·rw [if_pos hs,take_all (by rcases he with he | he;exact he;exact absurd hs he)]
 ·rw [if_neg hs]
  rcases h with h | h
  ·rw [h];rfl
  ·exact absurd h hs
def combH (hs cs:List Int):Int:=if validV cs=true∧List.length hs=List.length cs∧List.all hs isGrp=true then powsL hs cs else 0

abbrev Q_spec_HashSymbols:=(fun (x0:(List Int)) (x1:T26)=>Sh.fit s54 x0∧Sh.fit s26 x1)
def S_spec_HashSymbols:Sum:={ fid:=178,dom:=[s54,s26],cod:=[s39],dp:=true,fz:=false,pre:=fun x=>Q_spec_HashSymbols x.1 x.2.1,g:=fun x=>((hashSyms x.1 x.2.1),()) }
def S_spec_HashSymbols_tab:List (Nat×Sum):=[(72,S_spec_IsValidGeneration),(137,S_spec_IsValidHashKey),(8,S_spec_ColumnsOf),(166,S_spec_HashVector)]
theorem S_spec_HashSymbols_ok:FnOK Tryz.prog 178 S_spec_HashSymbols:=by
 refine at_enter 43 (fun x=>⟨[(0,aG [.ro (.int 3) x.1]),(1,aG [cI x.2.1.1,.ro s39 x.2.1.2])],[]⟩) Tryz.func178 rfl (by kernel_rfl) (fun x=>rfl) ?_
 rintro w0 Z0 ⟨x0,x1,u⟩ a w
 revert x0 x1
 intro (x0:(List Int)) (x1:T26) hpre hlens h
 replace hpre:Q_spec_HashSymbols x0 x1:=hpre
 have hT:TabOK Tryz.prog S_spec_HashSymbols_tab:=(.cons S_spec_IsValidGeneration_ok (.cons S_spec_IsValidHashKey_ok (.cons S_spec_ColumnsOf_ok (.cons S_spec_HashVector_ok .nil))))
 obtain ⟨hf0,hf1⟩:=hpre
 have hn0_1:List.length x0≤1073741824:=hf0.1
 have hn1_2:List.length x1.2≤1073741824:=hf1.2.1
 refine wp_seq ?_
 refine at_regq [{ ids:=[1] },{ ids:=[2] }] { ts:=[2,3,4],os:=[1,2] } [] gamOK hT h (by kernel_rfl) trivial fun a w h=>then_normal (wp_seq ?_)
 refine at_regq [{ ids:=[3] }] { ts:=[2,3,4,5],os:=[1,2,3] } [] gamOK hT h (by kernel_rfl) trivial fun a w h=>then_normal (wp_seq (wp_seq ?_))
 refine at_regq [] { ts:=[2,3,4,5,6],os:=[1,2,3] } [] gamOK hT h (by kernel_rfl) trivial fun a w h=>then_normal (wp_block ?_)
 replace h:=at_out (σ':=⟨[(2,aP 1 0),(3,aP 2 0),(4,.p (.c (cN))),(5,aS 3),(6,aI 0)],[(1,oX 54 [.ro (.int 3) x0]),(2,oX 26 [cI x1.1,.ro s39 x1.2]),(3,oR (.int 3) ([]:List Int))]⟩) { ts:=[2,3,4,5,6],os:=[1,2,3] } h (by kernel_rfl)
 refine at_loop (fun i:Nat=>(⟨[(2,aP 1 0),(3,aP 2 0),(4,.p (.c (cN))),(5,aS 3),(6,aI ((i:Nat):Int))],[(1,oX 54 [.ro (.int 3) x0]),(2,oX 26 [cI x1.1,.ro s39 x1.2]),(3,oR (.int 3) (List.map (fun s=>powsL x0 s) (List.take i x1.2)))]⟩:St)) (fun i=>(i≤List.length x1.2∧(i=0∨hsOK x0 x1))) (fun i=>List.length x1.2 - i) (0) h (st_congr2 (fun (d0:List Int) (d1:Int)=>(⟨[(2,aP 1 0),(3,aP 2 0),(4,.p (.c (cN))),(5,aS 3),(6,aI d1)],[(1,oX 54 [.ro (.int 3) x0]),(2,oX 26 [cI x1.1,.ro s39 x1.2]),(3,oR (.int 3) d0)]⟩:St)) (show (([]:List Int):List Int)=(List.map (fun s=>powsL x0 s) (List.take (0) x1.2)) from by first | with_reducible rfl | (first | rfl | simp) | rfl) (show (0:Int)=(((0):Nat):Int) from by first | with_reducible rfl | (first | rfl | simp) | rfl)) (by exact ⟨Nat.zero_le _,Or.inl rfl⟩) ?_
 intro i a w hok0 h
 have hlt:=len_take_le (xs:=x1.2) i
 refine wp_seq (wp_seq ?_)
 by_cases h1:((i:Nat):Int) < ((List.length x1.2:Nat):Int)
 ·rcases Bool.eq_false_or_eq_true ((validG x1)) with h2 | h2
  ·have hvh2 := validG_t h2
   rcases Bool.eq_false_or_eq_true ((validK x0)) with h3 | h3
   ·have hvh3 := validK_t h3
    refine at_anyq [{},{},{},{},{ hint:=some (aB true) },{},{},{ hint:=some (aB true) },{},{},{},{ hint:=some (aB true) },{},{},{},{},{},{},{},{},{},{}] { ts:=[2,3,4,5,6,14,15,18,19,22,23,24,25,26,27,28,29],os:=[1,2,3] } [(AV.p (.c (.v (.bool (decide (((i:Nat):Int) < ((List.length x1.2:Nat):Int))))))=AV.p (.c (.v (.bool true)))),Q_spec_IsValidGeneration x1,(AV.p (.c (.v (.bool ((validG x1)))))=AV.p (.c (.v (.bool true)))),Q_spec_IsValidHashKey x0,(AV.p (.c (.v (.bool ((validK x0)))))=AV.p (.c (.v (.bool true)))),Q_spec_ColumnsOf x1.2] gamOK hT mixed h (by kernel_rfl) ⟨hint_bool (decide_eq_true h1),(by exact hf1),hint_bool (h2),(by exact hf0),hint_bool (h3),(by exact hf1.2),trivial⟩ fun a w h=>then_normal ?_
    refine at_test (decide ((colsOf x1.2)=((List.length x0:Nat):Int))) h (by kernel_rfl) (fun h4=>?_) (fun h4=>?_)
    ·replace h4 : (colsOf x1.2) = ((List.length x0 : Nat) : Int) := of_decide_eq_true h4
     refine wp_skip (then_normal (wp_seq (wp_block ?_)))
     refine at_anyq [{},{},{},{},{},{},{},{},{ ids:=[4] },{ ids:=[5] },{}] { ts:=[2,3,4,5,6,14,15,18,19,22,23,24,25,26,27,28],os:=[1,2,5] } [(0:Int)≤((i:Nat):Int)∧((i:Nat):Int) < ((List.length x1.2:Nat):Int),Q_spec_HashVector x0 (x1.2.getD i []),(List.length (List.map (fun s=>powsL x0 s) (List.take i x1.2))+List.length ([(hashV x0 (x1.2.getD i []))]))*8≤140737488355328] gamOK hT mixed h (by kernel_rfl) ⟨(by refine ⟨?_,?_⟩<;>(first | omega | (simp only [lsA];omega) | (simp<;>omega))),(by exact ⟨hf0,Sh.fit_getD hf1.2 i⟩),(by first | omega | (simp only [lsA];omega) | (simp<;>omega)),trivial⟩ fun a w h=>in_normal (then_normal ?_)
     refine at_regq [{},{ nw:=true }] { ts:=[2,3,4,5,6,14,15,18,19,22,23,24,25,26,27,28],os:=[1,2,5] } [I64 (((i:Nat):Int)+1)] gamOK hT h (by kernel_rfl) ⟨⟨by first | omega | (simp only [lsA];omega) | (simp<;>omega),by first | omega | (simp only [lsA];omega) | (simp<;>omega)⟩,trivial⟩ fun a w h=>?_
     replace h:=at_out (σ':=⟨[(2,aP 1 0),(3,aP 2 0),(4,.p (.c (cN))),(5,aS 3),(6,aI (((i:Nat):Int)+1))],[(1,oX 54 [.ro (.int 3) x0]),(2,oX 26 [cI x1.1,.ro s39 x1.2]),(3,oR (.int 3) ((List.map (fun s=>powsL x0 s) (List.take i x1.2))++([(hashV x0 (x1.2.getD i []))])))]⟩) { ts:=[2,3,4,5,6],os:=[1,2,5],rn:=[(5,3)] } h (by kernel_rfl)
     exact ⟨i+1,at_eq h (st_congr2 (fun (d0:List Int) (d1:Int)=>(⟨[(2,aP 1 0),(3,aP 2 0),(4,.p (.c (cN))),(5,aS 3),(6,aI d1)],[(1,oX 54 [.ro (.int 3) x0]),(2,oX 26 [cI x1.1,.ro s39 x1.2]),(3,oR (.int 3) d0)]⟩:St)) (show (((List.map (fun s=>powsL x0 s) (List.take i x1.2))++([(hashV x0 (x1.2.getD i []))])):List Int)=(List.map (fun s=>powsL x0 s) (List.take (i+1) x1.2)) from by first | with_reducible rfl | ((rw [map_snoc (z:=[]) (by omega),hashV_sym ⟨by assumption,by assumption,by omega⟩ (by omega)];done)) | rfl) (show (((i:Nat):Int)+1:Int)=(((i+1):Nat):Int) from by first | with_reducible rfl | (omega) | rfl)),(by exact ⟨by omega,Or.inr ⟨by assumption,by assumption,by omega⟩⟩),(by omega)⟩
    ·replace h4 : ¬ ((colsOf x1.2) = ((List.length x0 : Nat) : Int)) := of_decide_eq_false h4
     refine wp_exit (then_exit (then_exit (in_hit (then_normal (wp_seq ?_)))))
     refine at_regq [] { ts:=[4],os:=[3] } [] gamOK hT h (by kernel_rfl) trivial fun a w h=>then_normal (wp_ret ?_)
     exact at_return ((List.map (fun s=>powsL x0 s) (List.take i x1.2)),()) [] h (by kernel_rfl) trivial (congrArg (fun z=>(z,())) (show ((List.map (fun s=>powsL x0 s) (List.take i x1.2)))=hashSyms x0 x1 from by exact hashSyms_end hok0.1 hok0.2 (by first | (left;omega) | (right;intro e;have e1:=e.1;have e2:=e.2.1;have e3:=e.2.2;first | omega | (simp_all;done)))))
   ·refine at_anyq [{}, {}, {}, {}, { hint := some (aB true) }, {}, {}, { hint := some (aB true) }, {}, {}, {}, { hint := some (aB false) }, {}, {}, {}, {}, {}, {}, {}, {}, {}, {}] { ts := [2, 3, 4, 5, 6, 14, 15, 18, 19, 22, 23, 24, 25, 26, 27, 28, 29], os := [1, 2, 3] } [(AV.p (.c (.v (.bool (decide (((i : Nat) : Int) < ((List.length x1.2 : Nat) : Int)))))) = AV.p (.c (.v (.bool true)))), Q_spec_IsValidGeneration x1, (AV.p (.c (.v (.bool ((validG x1))))) = AV.p (.c (.v (.bool true)))), Q_spec_IsValidHashKey x0, (AV.p (.c (.v (.bool ((validK x0))))) = AV.p (.c (.v (.bool false))))] gamOK hT mixed h (by kernel_rfl) ⟨hint_bool (decide_eq_true h1), (by exact hf1), hint_bool (h2), (by exact hf0), hint_bool (h3), trivial⟩ fun a w h => then_normal ?_
    refine at_test false h (by kernel_rfl) (fun hh=>nomatch hh) (fun hh=>?_)
    refine wp_exit (then_exit (then_exit (in_hit (then_normal (wp_seq ?_)))))
    refine at_regq [] { ts:=[4],os:=[3] } [] gamOK hT h (by kernel_rfl) trivial fun a w h=>then_normal (wp_ret ?_)
    exact at_return ((List.map (fun s=>powsL x0 s) (List.take i x1.2)),()) [] h (by kernel_rfl) trivial (congrArg (fun z=>(z,())) (show ((List.map (fun s=>powsL x0 s) (List.take i x1.2)))=hashSyms x0 x1 from by exact hashSyms_end hok0.1 hok0.2 (by first | (left;omega) | (right;intro e;have e1:=e.1;have e2:=e.2.1;have e3:=e.2.2;first | omega | (simp_all;done)))))
  ·refine at_anyq [{}, {}, {}, {}, { hint := some (aB true) }, {}, {}, { hint := some (aB false) }, {}, {}, {}, {}, {}, {}, {}, {}, {}, {}, {}, {}, {}, {}] { ts := [2, 3, 4, 5, 6, 14, 15, 18, 19, 22, 23, 24, 25, 26, 27, 28, 29], os := [1, 2, 3] } [(AV.p (.c (.v (.bool (decide (((i : Nat) : Int) < ((List.length x1.2 : Nat) : Int)))))) = AV.p (.c (.v (.bool true)))), Q_spec_IsValidGeneration x1, (AV.p (.c (.v (.bool ((validG x1))))) = AV.p (.c (.v (.bool false))))] gamOK hT mixed h (by kernel_rfl) ⟨hint_bool (decide_eq_true h1), (by exact hf1), hint_bool (h2), trivial⟩ fun a w h => then_normal ?_
   refine at_test false h (by kernel_rfl) (fun hh=>nomatch hh) (fun hh=>?_)
   refine wp_exit (then_exit (then_exit (in_hit (then_normal (wp_seq ?_)))))
   refine at_regq [] { ts:=[4],os:=[3] } [] gamOK hT h (by kernel_rfl) trivial fun a w h=>then_normal (wp_ret ?_)
   exact at_return ((List.map (fun s=>powsL x0 s) (List.take i x1.2)),()) [] h (by kernel_rfl) trivial (congrArg (fun z=>(z,())) (show ((List.map (fun s=>powsL x0 s) (List.take i x1.2)))=hashSyms x0 x1 from by exact hashSyms_end hok0.1 hok0.2 (by first | (left;omega) | (right;intro e;have e1:=e.1;have e2:=e.2.1;have e3:=e.2.2;first | omega | (simp_all;done)))))
 ·refine at_anyq [{}, {}, {}, {}, { hint := some (aB false) }, {}, {}, {}, {}, {}, {}, {}, {}, {}, {}, {}, {}, {}, {}, {}, {}, {}] { ts := [2, 3, 4, 5, 6, 14, 15, 18, 19, 22, 23, 24, 25, 26, 27, 28, 29], os := [1, 2, 3] } [(AV.p (.c (.v (.bool (decide (((i : Nat) : Int) < ((List.length x1.2 : Nat) : Int)))))) = AV.p (.c (.v (.bool false))))] gamOK hT mixed h (by kernel_rfl) ⟨hint_bool (decide_eq_false h1), trivial⟩ fun a w h => then_normal ?_
  refine at_test false h (by kernel_rfl) (fun hh=>nomatch hh) (fun hh=>?_)
  refine wp_exit (then_exit (then_exit (in_hit (then_normal (wp_seq ?_)))))
  refine at_regq [] { ts:=[4],os:=[3] } [] gamOK hT h (by kernel_rfl) trivial fun a w h=>then_normal (wp_ret ?_)
  exact at_return ((List.map (fun s=>powsL x0 s) (List.take i x1.2)),()) [] h (by kernel_rfl) trivial (congrArg (fun z=>(z,())) (show ((List.map (fun s=>powsL x0 s) (List.take i x1.2)))=hashSyms x0 x1 from by exact hashSyms_end hok0.1 hok0.2 (by first | (left;omega) | (right;intro e;have e1:=e.1;have e2:=e.2.1;have e3:=e.2.2;first | omega | (simp_all;done)))))

abbrev Q_impl_CombineHashes:=(fun (x0:(List Int)) (x1:(List Int))=>Sh.fit s39 x0∧Sh.fit s39 x1)
def S_impl_CombineHashes:Sum:={ fid:=163,dom:=[s39,s39],cod:=[(.int 3)],dp:=true,fz:=false,pre:=fun x=>Q_impl_CombineHashes x.1 x.2.1,g:=fun x=>((combH x.1 x.2.1),()) }
def S_impl_CombineHashes_tab:List (Nat×Sum):=[(64,S_impl_IsValidVector),(131,S_impl_IsGroupElement),(179,S_impl_powers)]
theorem S_impl_CombineHashes_ok:FnOK Tryz.prog 163 S_impl_CombineHashes:=by
 refine at_enter 30 (fun x=>⟨[(0,aF (.int 3) x.1),(1,aF (.int 3) x.2.1)],[]⟩) Tryz.func163 rfl (by kernel_rfl) (fun x=>rfl) ?_
 rintro w0 Z0 ⟨x0,x1,u⟩ a w
 revert x0 x1
 intro (x0:(List Int)) (x1:(List Int)) hpre hlens h
 replace hpre:Q_impl_CombineHashes x0 x1:=hpre
 have hT:TabOK Tryz.prog S_impl_CombineHashes_tab:=(.cons S_impl_IsValidVector_ok (.cons S_impl_IsGroupElement_ok (.cons S_impl_powers_ok .nil)))
 obtain ⟨hf0,hf1⟩:=hpre
 have hn0_1:List.length x0≤1073741824:=hf0.1
 have hn1_2:List.length x1≤1073741824:=hf1.1
 refine wp_seq ?_
 refine at_regq [] { ts:=[0,1,4],os:=[] } [] gamOK hT h (by kernel_rfl) trivial fun a w h=>then_normal (wp_seq (wp_seq ?_))
 rcases Bool.eq_false_or_eq_true (!(validV x1)) with h1 | h1
 ·have hzh1 : (validV x1) = false := notT h1
  refine at_regq [{},{},{ hint:=some (aB true) }] { ts:=[0,1,4,16],os:=[] } [Q_impl_IsValidVector x1,(AV.p (.c (.v (.bool (!(validV x1)))))=AV.p (.c (.v (.bool true))))] gamOK hT h (by kernel_rfl) ⟨(by exact hf1),hint_bool (h1),trivial⟩ fun a w h=>then_normal ?_
  refine at_test true h (by kernel_rfl) (fun hh=>?_) (fun hh=>nomatch hh)
  refine wp_seq ?_
  refine at_regq [] { ts:=[0,1,4],os:=[] } [] gamOK hT h (by kernel_rfl) trivial fun a w h=>then_normal (wp_ret (then_ret ?_))
  exact at_return (0,()) [] h (by kernel_rfl) trivial (congrArg (fun z=>(z,())) (show (0)=combH x0 x1 from by (unfold combH;first | (rw [if_pos ⟨by assumption,by omega,by assumption⟩];done) | (rw [if_neg (fun e=>by have e1:=e.1;have e2:=e.2.1;have e3:=e.2.2;first | omega | (simp_all;done))];done))))
 ·have hzh1 : (validV x1) = true := notF h1
  have hvh1:=validV_t (notF h1)
  refine at_regq [{},{},{ hint:=some (aB false) }] { ts:=[0,1,4,16],os:=[] } [Q_impl_IsValidVector x1,(AV.p (.c (.v (.bool (!(validV x1)))))=AV.p (.c (.v (.bool false))))] gamOK hT h (by kernel_rfl) ⟨(by exact hf1),hint_bool (h1),trivial⟩ fun a w h=>then_normal ?_
  refine at_test (!decide (((List.length x0:Nat):Int)=((List.length x1:Nat):Int))) h (by kernel_rfl) (fun h2=>?_) (fun h2=>?_)
  ·replace h2 : ¬ (((List.length x0 : Nat) : Int) = ((List.length x1 : Nat) : Int)) := of_decide_eq_false (notT h2)
   refine wp_seq ?_
   refine at_regq [] { ts:=[0,1,4],os:=[] } [] gamOK hT h (by kernel_rfl) trivial fun a w h=>then_normal (wp_ret (then_ret ?_))
   exact at_return (0,()) [] h (by kernel_rfl) trivial (congrArg (fun z=>(z,())) (show (0)=combH x0 x1 from by (unfold combH;first | (rw [if_pos ⟨by assumption,by omega,by assumption⟩];done) | (rw [if_neg (fun e=>by have e1:=e.1;have e2:=e.2.1;have e3:=e.2.2;first | omega | (simp_all;done))];done))))
  ·replace h2 : ((List.length x0 : Nat) : Int) = ((List.length x1 : Nat) : Int) := of_decide_eq_true (notF h2)
   refine wp_skip (then_normal (wp_seq (wp_seq ?_)))
   refine at_regq [] { ts:=[0,1,4,17,18,19],os:=[] } [] gamOK hT h (by kernel_rfl) trivial fun a w h=>then_normal (wp_block ?_)
   replace h:=at_out (σ':=⟨[(0,aF (.int 3) x0),(1,aF (.int 3) x1),(4,aI 0),(17,aF (.int 3) x0),(18,aI ((List.length x0:Nat):Int)),(19,aI 0)],[]⟩) { ts:=[0,1,4,17,18,19],os:=[] } h (by kernel_rfl)
   refine at_loop (fun i:Nat=>(⟨[(0,aF (.int 3) x0),(1,aF (.int 3) x1),(4,aI 0),(17,aF (.int 3) x0),(18,aI ((List.length x0:Nat):Int)),(19,aI ((i:Nat):Int))],[]⟩:St)) (fun i=>(i≤List.length x0∧allTo1 isGrp x0 0 i)) (fun i=>List.length x0 - i) (0) h (st_congr1 (fun (d0:Int)=>(⟨[(0,aF (.int 3) x0),(1,aF (.int 3) x1),(4,aI 0),(17,aF (.int 3) x0),(18,aI ((List.length x0:Nat):Int)),(19,aI d0)],[]⟩:St)) (show (0:Int)=(((0):Nat):Int) from by first | with_reducible rfl | (rfl) | rfl)) (by exact ⟨Nat.zero_le _,allTo1_zero⟩) ?_
   intro i a w hok0 h
   refine wp_seq ?_
   refine at_regq [] { ts:=[0,1,4,17,18,19,20],os:=[] } [] gamOK hT h (by kernel_rfl) trivial fun a w h=>then_normal (wp_seq ?_)
   refine at_test (decide (((i:Nat):Int) < ((List.length x0:Nat):Int))) h (by kernel_rfl) (fun h3=>?_) (fun h3=>?_)
   ·replace h3 : ((i : Nat) : Int) < ((List.length x0 : Nat) : Int) := of_decide_eq_true h3
    refine wp_skip (then_normal (wp_seq (wp_block (wp_seq ?_))))
    refine at_regq [] { ts:=[0,1,4,6,17,18,19],os:=[] } [(0:Int)≤((i:Nat):Int)∧((i:Nat):Int) < ((List.length x0:Nat):Int)] gamOK hT h (by kernel_rfl) ⟨(by refine ⟨?_,?_⟩<;>(first | omega | (simp only [lsA];omega) | (simp<;>omega))),trivial⟩ fun a w h=>then_normal (wp_seq ?_)
    refine at_regq [] { ts:=[0,1,4,17,18,19,25],os:=[] } [True] gamOK hT h (by kernel_rfl) ⟨trivial,trivial⟩ fun a w h=>then_normal ?_
    refine at_test (!(isGrp (x0.getD i 0))) h (by kernel_rfl) (fun h4=>?_) (fun h4=>?_)
    ·replace h4 : (isGrp (x0.getD i 0)) = false := notT h4
     refine wp_seq ?_
     refine at_regq [] { ts:=[0,1,4,17,18,19],os:=[] } [] gamOK hT h (by kernel_rfl) trivial fun a w h=>then_normal (wp_ret (in_ret (then_ret ?_)))
     have hs5:(List.all x0 isGrp)=false:=by exact all_at (z:=0) (i:=i) (by omega) (by first | assumption | (simp_all;done))
     refine then_ret (in_ret (then_ret ?_))
     exact at_return (0,()) [] h (by kernel_rfl) trivial (congrArg (fun z=>(z,())) (show (0)=combH x0 x1 from by (unfold combH;first | (rw [if_pos ⟨by assumption,by omega,by assumption⟩];done) | (rw [if_neg (fun e=>by have e1:=e.1;have e2:=e.2.1;have e3:=e.2.2;first | omega | (simp_all;done))];done))))
    ·replace h4 : (isGrp (x0.getD i 0)) = true := notF h4
     have hvh4:=isGrp_t h4
     refine wp_skip (in_normal (then_normal ?_))
     refine at_regq [{ nw:=true }] { ts:=[0,1,4,17,18,19],os:=[] } [I64 (((i:Nat):Int)+1)] gamOK hT h (by kernel_rfl) ⟨⟨by first | omega | (simp only [lsA];omega) | (simp<;>omega),by first | omega | (simp only [lsA];omega) | (simp<;>omega)⟩,trivial⟩ fun a w h=>?_
     replace h:=at_out (σ':=⟨[(0,aF (.int 3) x0),(1,aF (.int 3) x1),(4,aI 0),(17,aF (.int 3) x0),(18,aI ((List.length x0:Nat):Int)),(19,aI (((i:Nat):Int)+1))],[]⟩) { ts:=[0,1,4,17,18,19],os:=[] } h (by kernel_rfl)
     exact ⟨i+1,at_eq h (st_congr1 (fun (d0:Int)=>(⟨[(0,aF (.int 3) x0),(1,aF (.int 3) x1),(4,aI 0),(17,aF (.int 3) x0),(18,aI ((List.length x0:Nat):Int)),(19,aI d0)],[]⟩:St)) (show (((i:Nat):Int)+1:Int)=(((i+1):Nat):Int) from by first | with_reducible rfl | (omega) | rfl)),(by exact ⟨by omega,allTo1_succ hok0.2 (by first | assumption | (simp_all;done))⟩),(by omega)⟩
   ·replace h3 : ¬ (((i : Nat) : Int) < ((List.length x0 : Nat) : Int)) := of_decide_eq_false h3
    refine wp_exit (then_exit ?_)
    have hs6:(List.all x0 isGrp)=true:=by exact all_of (z:=0) (i:=i) (by omega) hok0.2
    refine then_exit (in_hit (then_normal (wp_seq ?_)))
    refine at_regq [] { ts:=[4],os:=[] } [Q_impl_powers x0 x1] gamOK hT h (by kernel_rfl) ⟨(by exact ⟨hf0,hf1,by omega,grp_at (List.all_eq_true.1 (by assumption)),(validV_t (by assumption)).2.2⟩),trivial⟩ fun a w h=>then_normal (wp_ret ?_)
    exact at_return ((powsL x0 x1),()) [] h (by kernel_rfl) trivial (congrArg (fun z=>(z,())) (show ((powsL x0 x1))=combH x0 x1 from by (unfold combH;first | (rw [if_pos ⟨by assumption,by omega,by assumption⟩];done) | (rw [if_neg (fun e=>by have e1:=e.1;have e2:=e.2.1;have e3:=e.2.2;first | omega | (simp_all;done))];done))))

abbrev Q_spec_CombineHashes:=(fun (x0:(List Int)) (x1:(List Int))=>Sh.fit s39 x0∧Sh.fit s39 x1)
def S_spec_CombineHashes:Sum:={ fid:=167,dom:=[s39,s39],cod:=[(.int 3)],dp:=true,fz:=false,pre:=fun x=>Q_spec_CombineHashes x.1 x.2.1,g:=fun x=>((combH x.1 x.2.1),()) }
def S_spec_CombineHashes_tab:List (Nat×Sum):=[(73,S_spec_IsValidVector),(136,S_spec_IsGroupElement),(174,S_spec_PowGroup),(181,S_spec_MulGroup)]
theorem S_spec_CombineHashes_ok:FnOK Tryz.prog 167 S_spec_CombineHashes:=by
 refine at_enter 41 (fun x=>⟨[(0,aF (.int 3) x.1),(1,aF (.int 3) x.2.1)],[]⟩) Tryz.func167 rfl (by kernel_rfl) (fun x=>rfl) ?_
 rintro w0 Z0 ⟨x0,x1,u⟩ a w
 revert x0 x1
 intro (x0:(List Int)) (x1:(List Int)) hpre hlens h
 replace hpre:Q_spec_CombineHashes x0 x1:=hpre
 have hT:TabOK Tryz.prog S_spec_CombineHashes_tab:=(.cons S_spec_IsValidVector_ok (.cons S_spec_IsGroupElement_ok (.cons S_spec_PowGroup_ok (.cons S_spec_MulGroup_ok .nil))))
 obtain ⟨hf0,hf1⟩:=hpre
 have hn0_1:List.length x0≤1073741824:=hf0.1
 have hn1_2:List.length x1≤1073741824:=hf1.1
 refine wp_seq ?_
 refine at_regq [] { ts:=[0,1,4],os:=[] } [] gamOK hT h (by kernel_rfl) trivial fun a w h=>then_normal (wp_seq (wp_seq ?_))
 rcases Bool.eq_false_or_eq_true (!(validV x1)) with h1 | h1
 ·have hzh1 : (validV x1) = false := notT h1
  refine at_regq [{},{},{ hint:=some (aB true) }] { ts:=[0,1,4,16],os:=[] } [Q_spec_IsValidVector x1,(AV.p (.c (.v (.bool (!(validV x1)))))=AV.p (.c (.v (.bool true))))] gamOK hT h (by kernel_rfl) ⟨(by exact hf1),hint_bool (h1),trivial⟩ fun a w h=>then_normal ?_
  refine at_test true h (by kernel_rfl) (fun hh=>?_) (fun hh=>nomatch hh)
  refine wp_seq ?_
  refine at_regq [] { ts:=[0,1,4],os:=[] } [] gamOK hT h (by kernel_rfl) trivial fun a w h=>then_normal (wp_ret (then_ret ?_))
  exact at_return (0,()) [] h (by kernel_rfl) trivial (congrArg (fun z=>(z,())) (show (0)=combH x0 x1 from by (unfold combH;first | (rw [if_pos ⟨by assumption,by omega,all_of (z:=0) (i:=i) (by omega) hok0.2⟩,show powsL x0 x1=hpw x0 x1 (List.length x0) from rfl,show List.length x0=i by omega];done) | (rw [if_neg (fun e=>by have e1:=e.1;have e2:=e.2.1;have e3:=e.2.2;first | omega | (simp_all;done) | (rw [all_at (z:=0) (i:=i) (by omega) (by first | assumption | (simp_all;done))] at e3;cases e3))];done))))
 ·have hzh1 : (validV x1) = true := notF h1
  have hvh1:=validV_t (notF h1)
  refine at_regq [{},{},{ hint:=some (aB false) }] { ts:=[0,1,4,16],os:=[] } [Q_spec_IsValidVector x1,(AV.p (.c (.v (.bool (!(validV x1)))))=AV.p (.c (.v (.bool false))))] gamOK hT h (by kernel_rfl) ⟨(by exact hf1),hint_bool (h1),trivial⟩ fun a w h=>then_normal ?_
  refine at_test (!decide (((List.length x0:Nat):Int)=((List.length x1:Nat):Int))) h (by kernel_rfl) (fun h2=>?_) (fun h2=>?_)
  ·replace h2 : ¬ (((List.length x0 : Nat) : Int) = ((List.length x1 : Nat) : Int)) := of_decide_eq_false (notT h2)
   refine wp_seq ?_
   refine at_regq [] { ts:=[0,1,4],os:=[] } [] gamOK hT h (by kernel_rfl) trivial fun a w h=>then_normal (wp_ret (then_ret ?_))
   exact at_return (0,()) [] h (by kernel_rfl) trivial (congrArg (fun z=>(z,())) (show (0)=combH x0 x1 from by (unfold combH;first | (rw [if_pos ⟨by assumption,by omega,all_of (z:=0) (i:=i) (by omega) hok0.2⟩,show powsL x0 x1=hpw x0 x1 (List.length x0) from rfl,show List.length x0=i by omega];done) | (rw [if_neg (fun e=>by have e1:=e.1;have e2:=e.2.1;have e3:=e.2.2;first | omega | (simp_all;done) | (rw [all_at (z:=0) (i:=i) (by omega) (by first | assumption | (simp_all;done))] at e3;cases e3))];done))))
  ·replace h2 : ((List.length x0 : Nat) : Int) = ((List.length x1 : Nat) : Int) := of_decide_eq_true (notF h2)
   refine wp_skip (then_normal (wp_seq ?_))
   refine at_regq [] { ts:=[0,1,4,5],os:=[] } [] gamOK hT h (by kernel_rfl) trivial fun a w h=>then_normal (wp_seq (wp_seq ?_))
   refine at_regq [] { ts:=[0,1,4,5,6],os:=[] } [] gamOK hT h (by kernel_rfl) trivial fun a w h=>then_normal (wp_block ?_)
   replace h:=at_out (σ':=⟨[(0,aF (.int 3) x0),(1,aF (.int 3) x1),(4,aI 0),(5,aI 1),(6,aI 0)],[]⟩) { ts:=[0,1,4,5,6],os:=[] } h (by kernel_rfl)
   refine at_loop (fun i:Nat=>(⟨[(0,aF (.int 3) x0),(1,aF (.int 3) x1),(4,aI 0),(5,aI (hpw x0 x1 i)),(6,aI ((i:Nat):Int))],[]⟩:St)) (fun i=>(i≤List.length x0∧allTo1 isGrp x0 0 i)) (fun i=>List.length x0 - i) (0) h (st_congr2 (fun (d0:Int) (d1:Int)=>(⟨[(0,aF (.int 3) x0),(1,aF (.int 3) x1),(4,aI 0),(5,aI d0),(6,aI d1)],[]⟩:St)) (show (1:Int)=(hpw x0 x1 (0)) from by first | with_reducible rfl | (rfl) | rfl) (show (0:Int)=(((0):Nat):Int) from by first | with_reducible rfl | (rfl) | rfl)) (by exact ⟨Nat.zero_le _,allTo1_zero⟩) ?_
   intro i a w hok0 h
   refine wp_seq (wp_seq ?_)
   refine at_regq [] { ts:=[0,1,4,5,6,20],os:=[] } [] gamOK hT h (by kernel_rfl) trivial fun a w h=>then_normal ?_
   refine at_test (decide (((i:Nat):Int) < ((List.length x0:Nat):Int))) h (by kernel_rfl) (fun h3=>?_) (fun h3=>?_)
   ·replace h3 : ((i : Nat) : Int) < ((List.length x0 : Nat) : Int) := of_decide_eq_true h3
    have hvr:=(validV_t (v:=x1) (by assumption)).2.2
    refine wp_skip (then_normal (wp_seq (wp_block (wp_seq (wp_seq ?_)))))
    refine at_regq [] { ts:=[0,1,4,5,6,28],os:=[] } [(0:Int)≤((i:Nat):Int)∧((i:Nat):Int) < ((List.length x0:Nat):Int),True] gamOK hT h (by kernel_rfl) ⟨(by refine ⟨?_,?_⟩<;>(first | omega | (simp only [lsA];omega) | (simp<;>omega))),trivial,trivial⟩ fun a w h=>then_normal ?_
    refine at_test (!(isGrp (x0.getD i 0))) h (by kernel_rfl) (fun h4=>?_) (fun h4=>?_)
    ·replace h4 : (isGrp (x0.getD i 0)) = false := notT h4
     refine wp_seq ?_
     refine at_regq [] { ts:=[0,1,4,5,6],os:=[] } [] gamOK hT h (by kernel_rfl) trivial fun a w h=>then_normal (wp_ret (then_ret (in_ret (then_ret (then_ret (in_ret (then_ret ?_)))))))
     exact at_return (0,()) [] h (by kernel_rfl) trivial (congrArg (fun z=>(z,())) (show (0)=combH x0 x1 from by (unfold combH;first | (rw [if_pos ⟨by assumption,by omega,all_of (z:=0) (i:=i) (by omega) hok0.2⟩,show powsL x0 x1=hpw x0 x1 (List.length x0) from rfl,show List.length x0=i by omega];done) | (rw [if_neg (fun e=>by have e1:=e.1;have e2:=e.2.1;have e3:=e.2.2;first | omega | (simp_all;done) | (rw [all_at (z:=0) (i:=i) (by omega) (by first | assumption | (simp_all;done))] at e3;cases e3))];done))))
    ·replace h4 : (isGrp (x0.getD i 0)) = true := notF h4
     have hvh4:=isGrp_t h4
     refine wp_skip (then_normal ?_)
     refine at_anyq [{},{},{},{},{},{},{},{},{},{},{},{}] { ts:=[0,1,4,5,6],os:=[] } [(0:Int)≤((i:Nat):Int)∧((i:Nat):Int) < ((List.length x0:Nat):Int),(0:Int)≤((i:Nat):Int)∧((i:Nat):Int) < ((List.length x1:Nat):Int),True,True] gamOK hT mixed h (by kernel_rfl) ⟨(by refine ⟨?_,?_⟩<;>(first | omega | (simp only [lsA];omega) | (simp<;>omega))),(by refine ⟨?_,?_⟩<;>(first | omega | (simp only [lsA];omega) | (simp<;>omega))),trivial,trivial,trivial⟩ fun a w h=>in_normal (then_normal ?_)
     refine at_regq [{},{ nw:=true }] { ts:=[0,1,4,5,6],os:=[] } [I64 (((i:Nat):Int)+1)] gamOK hT h (by kernel_rfl) ⟨⟨by first | omega | (simp only [lsA];omega) | (simp<;>omega),by first | omega | (simp only [lsA];omega) | (simp<;>omega)⟩,trivial⟩ fun a w h=>?_
     replace h:=at_out (σ':=⟨[(0,aF (.int 3) x0),(1,aF (.int 3) x1),(4,aI 0),(5,aI (mulG (hpw x0 x1 i) (powG (x0.getD i 0) (x1.getD i 0)))),(6,aI (((i:Nat):Int)+1))],[]⟩) { ts:=[0,1,4,5,6],os:=[] } h (by kernel_rfl)
     exact ⟨i+1,at_eq h (st_congr2 (fun (d0:Int) (d1:Int)=>(⟨[(0,aF (.int 3) x0),(1,aF (.int 3) x1),(4,aI 0),(5,aI d0),(6,aI d1)],[]⟩:St)) (show ((mulG (hpw x0 x1 i) (powG (x0.getD i 0) (x1.getD i 0))):Int)=(hpw x0 x1 (i+1)) from by first | with_reducible rfl | (exact hpw_step (hpw_grpTo hok0.2 hvr (by omega)) (by first | assumption | (simp_all;done)) (hvr i)) | rfl) (show (((i:Nat):Int)+1:Int)=(((i+1):Nat):Int) from by first | with_reducible rfl | (omega) | rfl)),(by exact ⟨by omega,allTo1_succ hok0.2 (by first | assumption | (simp_all;done))⟩),(by omega)⟩
   ·replace h3 : ¬ (((i : Nat) : Int) < ((List.length x0 : Nat) : Int)) := of_decide_eq_false h3
    refine wp_exit (then_exit (then_exit (in_hit (then_normal (wp_seq ?_)))))
    refine at_regq [] { ts:=[4],os:=[] } [] gamOK hT h (by kernel_rfl) trivial fun a w h=>then_normal (wp_ret ?_)
    exact at_return ((hpw x0 x1 i),()) [] h (by kernel_rfl) trivial (congrArg (fun z=>(z,())) (show ((hpw x0 x1 i))=combH x0 x1 from by (unfold combH;first | (rw [if_pos ⟨by assumption,by omega,all_of (z:=0) (i:=i) (by omega) hok0.2⟩,show powsL x0 x1=hpw x0 x1 (List.length x0) from rfl,show List.length x0=i by omega];done) | (rw [if_neg (fun e=>by have e1:=e.1;have e2:=e.2.1;have e3:=e.2.2;first | omega | (simp_all;done) | (rw [all_at (z:=0) (i:=i) (by omega) (by first | assumption | (simp_all;done))] at e3;cases e3))];done))))

def verH (x0:(List Int)) (x1:(List Int)) (x2:T41):Bool:=(if (hashV x0 x2.2.2)=0 then false else decide ((hashV x0 x2.2.2)=(combH x1 x2.2.1)))
abbrev Q_impl_VerifyHash:=(fun (x0:(List Int)) (x1:(List Int)) (x2:T41)=>Sh.fit s54 x0∧Sh.fit s39 x1∧Sh.fit s41 x2)
def S_impl_VerifyHash:Sum:={ fid:=133,dom:=[s54,s39,s41],cod:=[(.bool 4)],dp:=true,fz:=false,pre:=fun x=>Q_impl_VerifyHash x.1 x.2.1 x.2.2.1,g:=fun x=>((verH x.1 x.2.1 x.2.2.1),()) }
def S_impl_VerifyHash_tab:List (Nat×Sum):=[(162,S_impl_HashVector),(163,S_impl_CombineHashes)]
theorem S_impl_VerifyHash_ok:FnOK Tryz.prog 133 S_impl_VerifyHash:=by
 refine at_enter 22 (fun x=>⟨[(0,aG [.ro (.int 3) x.1]),(1,aF (.int 3) x.2.1),(2,aG [cI x.2.2.1.1,.ro (.int 3) x.2.2.1.2.1,.ro (.int 3) x.2.2.1.2.2])],[]⟩) Tryz.func133 rfl (by kernel_rfl) (fun x=>rfl) ?_
 rintro w0 Z0 ⟨x0,x1,x2,u⟩ a w
 revert x0 x1 x2
 intro (x0:(List Int)) (x1:(List Int)) (x2:T41) hpre hlens h
 replace hpre:Q_impl_VerifyHash x0 x1 x2:=hpre
 have hT:TabOK Tryz.prog S_impl_VerifyHash_tab:=(.cons S_impl_HashVector_ok (.cons S_impl_CombineHashes_ok .nil))
 obtain ⟨hf0,hf1,hf2⟩:=hpre
 have hn0_1:List.length x0≤1073741824:=hf0.1
 have hn1_2:List.length x1≤1073741824:=hf1.1
 have hn2_3:List.length x2.2.1≤1073741824:=hf2.2.1.1
 have hn2_4:List.length x2.2.2≤1073741824:=hf2.2.2.1
 refine wp_seq ?_
 refine at_regq [{ ids:=[1] },{ ids:=[2] }] { ts:=[1,3,5,6],os:=[1,2] } [] gamOK hT h (by kernel_rfl) trivial fun a w h=>then_normal (wp_seq ?_)
 refine at_regq [] { ts:=[1,5,6,7],os:=[2] } [Q_impl_HashVector x0 x2.2.2] gamOK hT h (by kernel_rfl) ⟨(by exact ⟨hf0,hf2.2.2⟩),trivial⟩ fun a w h=>then_normal (wp_seq ?_)
 by_cases h1:(hashV x0 x2.2.2)=0
 ·refine at_regq [{}, { hint := some (aB false) }] { ts := [6], os := [] } [(AV.p (.c (.v (.bool (!decide ((hashV x0 x2.2.2) = 0))))) = AV.p (.c (.v (.bool false))))] gamOK hT h (by kernel_rfl) ⟨hint_bool (ndT h1), trivial⟩ fun a w h => then_normal (wp_ret ?_)
  exact at_return (false,()) [] h (by kernel_rfl) trivial (congrArg (fun z=>(z,())) (show (false)=verH x0 x1 x2 from by first | rfl | (unfold verH;rw [if_pos h1])))
 ·refine at_regq [{}, { hint := some (aB true) }] { ts := [6], os := [] } [(AV.p (.c (.v (.bool (!decide ((hashV x0 x2.2.2) = 0))))) = AV.p (.c (.v (.bool true)))), Q_impl_CombineHashes x1 x2.2.1] gamOK hT h (by kernel_rfl) ⟨hint_bool (ndF h1), (by exact ⟨hf1, hf2.2.1⟩), trivial⟩ fun a w h => then_normal (wp_ret ?_)
  exact at_return (decide ((hashV x0 x2.2.2)=(combH x1 x2.2.1)),()) [] h (by kernel_rfl) trivial (congrArg (fun z=>(z,())) (show (decide ((hashV x0 x2.2.2)=(combH x1 x2.2.1)))=verH x0 x1 x2 from by first | rfl | (unfold verH;rw [if_neg h1])))

abbrev Q_spec_VerifyHash:=(fun (x0:(List Int)) (x1:(List Int)) (x2:T41)=>Sh.fit s54 x0∧Sh.fit s39 x1∧Sh.fit s41 x2)
def S_spec_VerifyHash:Sum:={ fid:=138,dom:=[s54,s39,s41],cod:=[(.bool 4)],dp:=true,fz:=false,pre:=fun x=>Q_spec_VerifyHash x.1 x.2.1 x.2.2.1,g:=fun x=>((verH x.1 x.2.1 x.2.2.1),()) }
def S_spec_VerifyHash_tab:List (Nat×Sum):=[(166,S_spec_HashVector),(167,S_spec_CombineHashes)]
theorem S_spec_VerifyHash_ok:FnOK Tryz.prog 138 S_spec_VerifyHash:=by
 refine at_enter 22 (fun x=>⟨[(0,aG [.ro (.int 3) x.1]),(1,aF (.int 3) x.2.1),(2,aG [cI x.2.2.1.1,.ro (.int 3) x.2.2.1.2.1,.ro (.int 3) x.2.2.1.2.2])],[]⟩) Tryz.func138 rfl (by kernel_rfl) (fun x=>rfl) ?_
 rintro w0 Z0 ⟨x0,x1,x2,u⟩ a w
 revert x0 x1 x2
 intro (x0:(List Int)) (x1:(List Int)) (x2:T41) hpre hlens h
 replace hpre:Q_spec_VerifyHash x0 x1 x2:=hpre
 have hT:TabOK Tryz.prog S_spec_VerifyHash_tab:=(.cons S_spec_HashVector_ok (.cons S_spec_CombineHashes_ok .nil))
 obtain ⟨hf0,hf1,hf2⟩:=hpre
 have hn0_1:List.length x0≤1073741824:=hf0.1
 have hn1_2:List.length x1≤1073741824:=hf1.1
 have hn2_3:List.length x2.2.1≤1073741824:=hf2.2.1.1
 have hn2_4:List.length x2.2.2≤1073741824:=hf2.2.2.1
 refine wp_seq ?_
 refine at_regq [{ ids:=[1] },{ ids:=[2] }] { ts:=[1,3,5,6],os:=[1,2] } [] gamOK hT h (by kernel_rfl) trivial fun a w h=>then_normal (wp_seq ?_)
 refine at_regq [] { ts:=[1,5,6,7],os:=[2] } [Q_spec_HashVector x0 x2.2.2] gamOK hT h (by kernel_rfl) ⟨(by exact ⟨hf0,hf2.2.2⟩),trivial⟩ fun a w h=>then_normal (wp_seq ?_)
 by_cases h1:(hashV x0 x2.2.2)=0
 ·refine at_regq [{}, { hint := some (aB false) }] { ts := [6], os := [] } [(AV.p (.c (.v (.bool (!decide ((hashV x0 x2.2.2) = 0))))) = AV.p (.c (.v (.bool false))))] gamOK hT h (by kernel_rfl) ⟨hint_bool (ndT h1), trivial⟩ fun a w h => then_normal (wp_ret ?_)
  exact at_return (false,()) [] h (by kernel_rfl) trivial (congrArg (fun z=>(z,())) (show (false)=verH x0 x1 x2 from by first | rfl | (unfold verH;rw [if_pos h1];done) | (unfold verH;simp_all)))
 ·refine at_regq [{}, { hint := some (aB true) }] { ts := [6], os := [] } [(AV.p (.c (.v (.bool (!decide ((hashV x0 x2.2.2) = 0))))) = AV.p (.c (.v (.bool true)))), Q_spec_CombineHashes x1 x2.2.1] gamOK hT h (by kernel_rfl) ⟨hint_bool (ndF h1), (by exact ⟨hf1, hf2.2.1⟩), trivial⟩ fun a w h => then_normal (wp_ret ?_)
  exact at_return (decide ((hashV x0 x2.2.2)=(combH x1 x2.2.1)),()) [] h (by kernel_rfl) trivial (congrArg (fun z=>(z,())) (show (decide ((hashV x0 x2.2.2)=(combH x1 x2.2.1)))=verH x0 x1 x2 from by first | rfl | (unfold verH;rw [if_neg h1];done) | (unfold verH;simp_all)))

def isFmt (x0:Int) (x1:Int) (x2:Int):Bool:=(if (inR x0 0 1000000000000)=true then (if (inR x1 1 8)=true then (inR x2 1 16) else false) else false)
def S_impl_isFormat:Sum:={ fid:=31,dom:=[(.int 3),(.int 3),(.int 3)],cod:=[(.bool 4)],dp:=true,fz:=false,pre:=fun x=>True,g:=fun x=>((isFmt x.1 x.2.1 x.2.2.1),()) }
def S_impl_isFormat_tab:List (Nat×Sum):=[(59,S_impl_InRange)]
theorem S_impl_isFormat_ok:FnOK Tryz.prog 31 S_impl_isFormat:=by
 refine at_enter 17 (fun x=>⟨[(0,aI x.1),(1,aI x.2.1),(2,aI x.2.2.1)],[]⟩) Tryz.func31 rfl (by kernel_rfl) (fun x=>rfl) ?_
 rintro w0 Z0 ⟨x0,x1,x2,u⟩ a w
 revert x0 x1 x2
 intro (x0:Int) (x1:Int) (x2:Int) hpre hlens h
 have hT:TabOK Tryz.prog S_impl_isFormat_tab:=(.cons S_impl_InRange_ok .nil)
 refine wp_seq ?_
 refine at_regq [] { ts:=[0,1,2,6],os:=[] } [] gamOK hT h (by kernel_rfl) trivial fun a w h=>then_normal (wp_seq ?_)
 rcases Bool.eq_false_or_eq_true ((inR x0 0 1000000000000)) with h1 | h1
 ·have hvh1 := inR_t h1
  rcases Bool.eq_false_or_eq_true ((inR x1 1 8)) with h2 | h2
  ·have hvh2 := inR_t h2
   refine at_regq [{},{ hint:=some (aB true) },{},{},{ hint:=some (aB true) }] { ts:=[6],os:=[] } [True,(AV.p (.c (.v (.bool ((inR x0 0 1000000000000)))))=AV.p (.c (.v (.bool true)))),True,(AV.p (.c (.v (.bool ((inR x1 1 8)))))=AV.p (.c (.v (.bool true)))),True] gamOK hT h (by kernel_rfl) ⟨trivial,hint_bool (h1),trivial,hint_bool (h2),trivial,trivial⟩ fun a w h=>then_normal (wp_ret ?_)
   exact at_return ((inR x2 1 16),()) [] h (by kernel_rfl) trivial (congrArg (fun z=>(z,())) (show ((inR x2 1 16))=isFmt x0 x1 x2 from by first | rfl | (unfold isFmt;rw [if_pos h1,if_pos h2])))
  ·have hvh2 := inR_f h2
   refine at_regq [{},{ hint:=some (aB true) },{},{},{ hint:=some (aB false) }] { ts:=[6],os:=[] } [True,(AV.p (.c (.v (.bool ((inR x0 0 1000000000000)))))=AV.p (.c (.v (.bool true)))),True,(AV.p (.c (.v (.bool ((inR x1 1 8)))))=AV.p (.c (.v (.bool false))))] gamOK hT h (by kernel_rfl) ⟨trivial,hint_bool (h1),trivial,hint_bool (h2),trivial⟩ fun a w h=>then_normal (wp_ret ?_)
   exact at_return (false,()) [] h (by kernel_rfl) trivial (congrArg (fun z=>(z,())) (show (false)=isFmt x0 x1 x2 from by first | rfl | (unfold isFmt;rw [if_pos h1,if_neg (neT h2)])))
 ·have hvh1 := inR_f h1
  refine at_regq [{},{ hint:=some (aB false) }] { ts:=[6],os:=[] } [True,(AV.p (.c (.v (.bool ((inR x0 0 1000000000000)))))=AV.p (.c (.v (.bool false))))] gamOK hT h (by kernel_rfl) ⟨trivial,hint_bool (h1),trivial⟩ fun a w h=>then_normal (wp_ret ?_)
  exact at_return (false,()) [] h (by kernel_rfl) trivial (congrArg (fun z=>(z,())) (show (false)=isFmt x0 x1 x2 from by first | rfl | (unfold isFmt;rw [if_neg (neT h1)])))
theorem isFmt_t {g s w:Int} (h:isFmt g s w=true):(0≤g∧g≤1000000000000)∧(1≤s∧s≤8)∧(1≤w∧w≤16):=by
 unfold isFmt at h
 split at h
 ·split at h
  ·exact ⟨inR_t (by assumption),inR_t (by assumption),inR_t h⟩
  ·cases h
 ·cases h

def S_spec_l14Range:Sum:={ fid:=96,dom:=[(.int 3),(.int 3),(.int 3)],cod:=[(.bool 4)],dp:=true,fz:=false,pre:=fun x=>True,g:=fun x=>((isFmt x.1 x.2.1 x.2.2.1),()) }
def S_spec_l14Range_tab:List (Nat×Sum):=[(92,S_spec_l1In)]
theorem S_spec_l14Range_ok:FnOK Tryz.prog 96 S_spec_l14Range:=by
 refine at_enter 17 (fun x=>⟨[(0,aI x.1),(1,aI x.2.1),(2,aI x.2.2.1)],[]⟩) Tryz.func96 rfl (by kernel_rfl) (fun x=>rfl) ?_
 rintro w0 Z0 ⟨x0,x1,x2,u⟩ a w
 revert x0 x1 x2
 intro (x0:Int) (x1:Int) (x2:Int) hpre hlens h
 have hT:TabOK Tryz.prog S_spec_l14Range_tab:=(.cons S_spec_l1In_ok .nil)
 refine wp_seq ?_
 refine at_regq [] { ts:=[0,1,2,6],os:=[] } [] gamOK hT h (by kernel_rfl) trivial fun a w h=>then_normal (wp_seq ?_)
 rcases Bool.eq_false_or_eq_true ((inR x0 0 1000000000000)) with h1 | h1
 ·have hvh1 := inR_t h1
  rcases Bool.eq_false_or_eq_true ((inR x1 1 8)) with h2 | h2
  ·have hvh2 := inR_t h2
   refine at_regq [{},{ hint:=some (aB true) },{},{},{ hint:=some (aB true) }] { ts:=[6],os:=[] } [True,(AV.p (.c (.v (.bool ((inR x0 0 1000000000000)))))=AV.p (.c (.v (.bool true)))),True,(AV.p (.c (.v (.bool ((inR x1 1 8)))))=AV.p (.c (.v (.bool true)))),True] gamOK hT h (by kernel_rfl) ⟨trivial,hint_bool (h1),trivial,hint_bool (h2),trivial,trivial⟩ fun a w h=>then_normal (wp_ret ?_)
   exact at_return ((inR x2 1 16),()) [] h (by kernel_rfl) trivial (congrArg (fun z=>(z,())) (show ((inR x2 1 16))=isFmt x0 x1 x2 from by first | rfl | (unfold isFmt;rw [if_pos h1,if_pos h2];done) | (unfold isFmt;simp_all)))
  ·have hvh2 := inR_f h2
   refine at_regq [{},{ hint:=some (aB true) },{},{},{ hint:=some (aB false) }] { ts:=[6],os:=[] } [True,(AV.p (.c (.v (.bool ((inR x0 0 1000000000000)))))=AV.p (.c (.v (.bool true)))),True,(AV.p (.c (.v (.bool ((inR x1 1 8)))))=AV.p (.c (.v (.bool false))))] gamOK hT h (by kernel_rfl) ⟨trivial,hint_bool (h1),trivial,hint_bool (h2),trivial⟩ fun a w h=>then_normal (wp_ret ?_)
   exact at_return (false,()) [] h (by kernel_rfl) trivial (congrArg (fun z=>(z,())) (show (false)=isFmt x0 x1 x2 from by first | rfl | (unfold isFmt;rw [if_pos h1,if_neg (neT h2)];done) | (unfold isFmt;simp_all)))
 ·have hvh1 := inR_f h1
  refine at_regq [{},{ hint:=some (aB false) }] { ts:=[6],os:=[] } [True,(AV.p (.c (.v (.bool ((inR x0 0 1000000000000)))))=AV.p (.c (.v (.bool false))))] gamOK hT h (by kernel_rfl) ⟨trivial,hint_bool (h1),trivial⟩ fun a w h=>then_normal (wp_ret ?_)
  exact at_return (false,()) [] h (by kernel_rfl) trivial (congrArg (fun z=>(z,())) (show (false)=isFmt x0 x1 x2 from by first | rfl | (unfold isFmt;rw [if_neg (neT h1)];done) | (unfold isFmt;simp_all)))

def validP (x0:T41) (x1:Int) (x2:Int):Bool:=(if (isFmt x0.1 x1 x2)=true then (if ((List.length x0.2.1:Nat):Int)=x1 then (if ((List.length x0.2.2:Nat):Int)=x2 then (if (validV x0.2.1)=true then (validV x0.2.2) else false) else false) else false) else false)
abbrev Q_impl_IsValidPacket:=(fun (x0:T41) (x1:Int) (x2:Int)=>Sh.fit s41 x0)
def S_impl_IsValidPacket:Sum:={ fid:=65,dom:=[s41,(.int 3),(.int 3)],cod:=[(.bool 4)],dp:=true,fz:=false,pre:=fun x=>Q_impl_IsValidPacket x.1 x.2.1 x.2.2.1,g:=fun x=>((validP x.1 x.2.1 x.2.2.1),()) }
def S_impl_IsValidPacket_tab:List (Nat×Sum):=[(31,S_impl_isFormat),(64,S_impl_IsValidVector)]
theorem S_impl_IsValidPacket_ok:FnOK Tryz.prog 65 S_impl_IsValidPacket:=by
 refine at_enter 36 (fun x=>⟨[(0,aG [cI x.1.1,.ro (.int 3) x.1.2.1,.ro (.int 3) x.1.2.2]),(1,aI x.2.1),(2,aI x.2.2.1)],[]⟩) Tryz.func65 rfl (by kernel_rfl) (fun x=>rfl) ?_
 rintro w0 Z0 ⟨x0,x1,x2,u⟩ a w
 revert x0 x1 x2
 intro (x0:T41) (x1:Int) (x2:Int) hpre hlens h
 replace hpre:Q_impl_IsValidPacket x0 x1 x2:=hpre
 have hT:TabOK Tryz.prog S_impl_IsValidPacket_tab:=(.cons S_impl_isFormat_ok (.cons S_impl_IsValidVector_ok .nil))
 have hf0:Sh.fit s41 x0:=hpre
 have hn0_1:List.length x0.2.1≤1073741824:=hf0.2.1.1
 have hn0_2:List.length x0.2.2≤1073741824:=hf0.2.2.1
 refine wp_seq ?_
 refine at_regq [{ ids:=[1] }] { ts:=[1,2,3,6],os:=[1] } [] gamOK hT h (by kernel_rfl) trivial fun a w h=>then_normal (wp_seq ?_)
 rcases Bool.eq_false_or_eq_true ((isFmt x0.1 x1 x2)) with h1 | h1
 ·have hvh1 := isFmt_t h1
  by_cases h2:((List.length x0.2.1:Nat):Int)=x1
  ·by_cases h3 : ((List.length x0.2.2 : Nat) : Int) = x2
   ·rcases Bool.eq_false_or_eq_true ((validV x0.2.1)) with h4 | h4
    ·have hvh4 := validV_t h4
     refine at_regq [{},{},{},{},{ hint:=some (aB true) },{},{},{},{},{},{ hint:=some (aB true) },{},{},{},{},{},{},{ hint:=some (aB true) },{},{},{},{},{ hint:=some (aB true) }] { ts:=[6],os:=[] } [True,(AV.p (.c (.v (.bool ((isFmt x0.1 x1 x2)))))=AV.p (.c (.v (.bool true)))),(AV.p (.c (.v (.bool (decide (((List.length x0.2.1:Nat):Int)=x1)))))=AV.p (.c (.v (.bool true)))),(AV.p (.c (.v (.bool (decide (((List.length x0.2.2:Nat):Int)=x2)))))=AV.p (.c (.v (.bool true)))),Q_impl_IsValidVector x0.2.1,(AV.p (.c (.v (.bool ((validV x0.2.1)))))=AV.p (.c (.v (.bool true)))),Q_impl_IsValidVector x0.2.2] gamOK hT h (by kernel_rfl) ⟨trivial,hint_bool (h1),hint_bool (decide_eq_true h2),hint_bool (decide_eq_true h3),(by exact hf0.2.1),hint_bool (h4),(by exact hf0.2.2),trivial⟩ fun a w h=>then_normal (wp_ret ?_)
     exact at_return ((validV x0.2.2),()) [] h (by kernel_rfl) trivial (congrArg (fun z=>(z,())) (show ((validV x0.2.2))=validP x0 x1 x2 from by first | rfl | (unfold validP;rw [if_pos h1,if_pos h2,if_pos h3,if_pos h4])))
    ·refine at_regq [{}, {}, {}, {}, { hint := some (aB true) }, {}, {}, {}, {}, {}, { hint := some (aB true) }, {}, {}, {}, {}, {}, {}, { hint := some (aB true) }, {}, {}, {}, {}, { hint := some (aB false) }] { ts := [6], os := [] } [True, (AV.p (.c (.v (.bool ((isFmt x0.1 x1 x2))))) = AV.p (.c (.v (.bool true)))), (AV.p (.c (.v (.bool (decide (((List.length x0.2.1 : Nat) : Int) = x1))))) = AV.p (.c (.v (.bool true)))), (AV.p (.c (.v (.bool (decide (((List.length x0.2.2 : Nat) : Int) = x2))))) = AV.p (.c (.v (.bool true)))), Q_impl_IsValidVector x0.2.1, (AV.p (.c (.v (.bool ((validV x0.2.1))))) = AV.p (.c (.v (.bool false))))] gamOK hT h (by kernel_rfl) ⟨trivial, hint_bool (h1), hint_bool (decide_eq_true h2), hint_bool (decide_eq_true h3), (by exact hf0.2.1), hint_bool (h4), trivial⟩ fun a w h => then_normal (wp_ret ?_)
     exact at_return (false,()) [] h (by kernel_rfl) trivial (congrArg (fun z=>(z,())) (show (false)=validP x0 x1 x2 from by first | rfl | (unfold validP;rw [if_pos h1,if_pos h2,if_pos h3,if_neg (neT h4)])))
   ·refine at_regq [{}, {}, {}, {}, { hint := some (aB true) }, {}, {}, {}, {}, {}, { hint := some (aB true) }, {}, {}, {}, {}, {}, {}, { hint := some (aB false) }] { ts := [6], os := [] } [True, (AV.p (.c (.v (.bool ((isFmt x0.1 x1 x2))))) = AV.p (.c (.v (.bool true)))), (AV.p (.c (.v (.bool (decide (((List.length x0.2.1 : Nat) : Int) = x1))))) = AV.p (.c (.v (.bool true)))), (AV.p (.c (.v (.bool (decide (((List.length x0.2.2 : Nat) : Int) = x2))))) = AV.p (.c (.v (.bool false))))] gamOK hT h (by kernel_rfl) ⟨trivial, hint_bool (h1), hint_bool (decide_eq_true h2), hint_bool (decide_eq_false h3), trivial⟩ fun a w h => then_normal (wp_ret ?_)
    exact at_return (false,()) [] h (by kernel_rfl) trivial (congrArg (fun z=>(z,())) (show (false)=validP x0 x1 x2 from by first | rfl | (unfold validP;rw [if_pos h1,if_pos h2,if_neg h3])))
  ·refine at_regq [{}, {}, {}, {}, { hint := some (aB true) }, {}, {}, {}, {}, {}, { hint := some (aB false) }] { ts := [6], os := [] } [True, (AV.p (.c (.v (.bool ((isFmt x0.1 x1 x2))))) = AV.p (.c (.v (.bool true)))), (AV.p (.c (.v (.bool (decide (((List.length x0.2.1 : Nat) : Int) = x1))))) = AV.p (.c (.v (.bool false))))] gamOK hT h (by kernel_rfl) ⟨trivial, hint_bool (h1), hint_bool (decide_eq_false h2), trivial⟩ fun a w h => then_normal (wp_ret ?_)
   exact at_return (false,()) [] h (by kernel_rfl) trivial (congrArg (fun z=>(z,())) (show (false)=validP x0 x1 x2 from by first | rfl | (unfold validP;rw [if_pos h1,if_neg h2])))
 ·refine at_regq [{}, {}, {}, {}, { hint := some (aB false) }] { ts := [6], os := [] } [True, (AV.p (.c (.v (.bool ((isFmt x0.1 x1 x2))))) = AV.p (.c (.v (.bool false))))] gamOK hT h (by kernel_rfl) ⟨trivial, hint_bool (h1), trivial⟩ fun a w h => then_normal (wp_ret ?_)
  exact at_return (false,()) [] h (by kernel_rfl) trivial (congrArg (fun z=>(z,())) (show (false)=validP x0 x1 x2 from by first | rfl | (unfold validP;rw [if_neg (neT h1)])))
theorem validP_t {p:T41} {s w:Int} (h:validP p s w=true):isFmt p.1 s w=true∧((List.length p.2.1:Nat):Int)=s∧((List.length p.2.2:Nat):Int)=w∧validV p.2.1=true∧validV p.2.2=true:=by
 unfold validP at h
 split at h
 ·split at h
  ·split at h
   ·split at h
    ·exact ⟨by assumption,by assumption,by assumption,by assumption,h⟩
    ·cases h
   ·cases h
  ·cases h
 ·cases h
theorem validP_n {p:T41} {s w:Int} (h:validP p s w=true):((0≤p.1∧p.1≤1000000000000)∧(1≤s∧s≤8)∧(1≤w∧w≤16))∧((List.length p.2.1:Nat):Int)=s∧((List.length p.2.2:Nat):Int)=w:=⟨isFmt_t (validP_t h).1,(validP_t h).2.1,(validP_t h).2.2.1⟩
theorem validP_of {p:T41} {s w:Int} (h:isFmt p.1 s w=true∧((List.length p.2.1:Nat):Int)=s∧((List.length p.2.2:Nat):Int)=w∧validV p.2.1=true∧validV p.2.2=true):validP p s w=true:=by
 unfold validP;rw [if_pos h.1,if_pos h.2.1,if_pos h.2.2.1,if_pos h.2.2.2.1];exact h.2.2.2.2

abbrev Q_spec_IsValidPacket:=(fun (x0:T41) (x1:Int) (x2:Int)=>Sh.fit s41 x0)
def S_spec_IsValidPacket:Sum:={ fid:=100,dom:=[s41,(.int 3),(.int 3)],cod:=[(.bool 4)],dp:=true,fz:=false,pre:=fun x=>Q_spec_IsValidPacket x.1 x.2.1 x.2.2.1,g:=fun x=>((validP x.1 x.2.1 x.2.2.1),()) }
def S_spec_IsValidPacket_tab:List (Nat×Sum):=[(92,S_spec_l1In),(73,S_spec_IsValidVector)]
theorem S_spec_IsValidPacket_ok:FnOK Tryz.prog 100 S_spec_IsValidPacket:=by
 refine at_enter 42 (fun x=>⟨[(0,aG [cI x.1.1,.ro (.int 3) x.1.2.1,.ro (.int 3) x.1.2.2]),(1,aI x.2.1),(2,aI x.2.2.1)],[]⟩) Tryz.func100 rfl (by kernel_rfl) (fun x=>rfl) ?_
 rintro w0 Z0 ⟨x0,x1,x2,u⟩ a w
 revert x0 x1 x2
 intro (x0:T41) (x1:Int) (x2:Int) hpre hlens h
 replace hpre:Q_spec_IsValidPacket x0 x1 x2:=hpre
 have hT:TabOK Tryz.prog S_spec_IsValidPacket_tab:=(.cons S_spec_l1In_ok (.cons S_spec_IsValidVector_ok .nil))
 have hf0:Sh.fit s41 x0:=hpre
 have hn0_1:List.length x0.2.1≤1073741824:=hf0.2.1.1
 have hn0_2:List.length x0.2.2≤1073741824:=hf0.2.2.1
 refine wp_seq ?_
 refine at_regq [{ ids:=[1] }] { ts:=[1,2,3,6],os:=[1] } [] gamOK hT h (by kernel_rfl) trivial fun a w h=>then_normal (wp_seq ?_)
 rcases Bool.eq_false_or_eq_true ((inR x0.1 0 1000000000000)) with h1 | h1
 ·have hvh1 := inR_t h1
  rcases Bool.eq_false_or_eq_true ((inR x1 1 8)) with h2 | h2
  ·have hvh2 := inR_t h2
   rcases Bool.eq_false_or_eq_true ((inR x2 1 16)) with h3 | h3
   ·have hvh3 := inR_t h3
    by_cases h4:((List.length x0.2.1:Nat):Int)=x1
    ·by_cases h5 : ((List.length x0.2.2 : Nat) : Int) = x2
     ·rcases Bool.eq_false_or_eq_true ((validV x0.2.1)) with h6 | h6
      ·have hvh6 := validV_t h6
       refine at_regq [{},{},{ hint:=some (aB true) },{},{},{ hint:=some (aB true) },{},{},{},{ hint:=some (aB true) },{},{},{},{},{},{},{ hint:=some (aB true) },{},{},{},{},{},{},{ hint:=some (aB true) },{},{},{},{},{ hint:=some (aB true) }] { ts:=[6],os:=[] } [True,(AV.p (.c (.v (.bool ((inR x0.1 0 1000000000000)))))=AV.p (.c (.v (.bool true)))),True,(AV.p (.c (.v (.bool ((inR x1 1 8)))))=AV.p (.c (.v (.bool true)))),True,(AV.p (.c (.v (.bool ((inR x2 1 16)))))=AV.p (.c (.v (.bool true)))),(AV.p (.c (.v (.bool (decide (((List.length x0.2.1:Nat):Int)=x1)))))=AV.p (.c (.v (.bool true)))),(AV.p (.c (.v (.bool (decide (((List.length x0.2.2:Nat):Int)=x2)))))=AV.p (.c (.v (.bool true)))),Q_spec_IsValidVector x0.2.1,(AV.p (.c (.v (.bool ((validV x0.2.1)))))=AV.p (.c (.v (.bool true)))),Q_spec_IsValidVector x0.2.2] gamOK hT h (by kernel_rfl) ⟨trivial,hint_bool (h1),trivial,hint_bool (h2),trivial,hint_bool (h3),hint_bool (decide_eq_true h4),hint_bool (decide_eq_true h5),(by exact hf0.2.1),hint_bool (h6),(by exact hf0.2.2),trivial⟩ fun a w h=>then_normal (wp_ret ?_)
       exact at_return ((validV x0.2.2),()) [] h (by kernel_rfl) trivial (congrArg (fun z=>(z,())) (show ((validV x0.2.2))=validP x0 x1 x2 from by first | rfl | (unfold validP;rw [if_pos h1,if_pos h2,if_pos h3,if_pos h4,if_pos h5,if_pos h6];done) | (unfold validP;simp_all [isFmt])))
      ·refine at_regq [{}, {}, { hint := some (aB true) }, {}, {}, { hint := some (aB true) }, {}, {}, {}, { hint := some (aB true) }, {}, {}, {}, {}, {}, {}, { hint := some (aB true) }, {}, {}, {}, {}, {}, {}, { hint := some (aB true) }, {}, {}, {}, {}, { hint := some (aB false) }] { ts := [6], os := [] } [True, (AV.p (.c (.v (.bool ((inR x0.1 0 1000000000000))))) = AV.p (.c (.v (.bool true)))), True, (AV.p (.c (.v (.bool ((inR x1 1 8))))) = AV.p (.c (.v (.bool true)))), True, (AV.p (.c (.v (.bool ((inR x2 1 16))))) = AV.p (.c (.v (.bool true)))), (AV.p (.c (.v (.bool (decide (((List.length x0.2.1 : Nat) : Int) = x1))))) = AV.p (.c (.v (.bool true)))), (AV.p (.c (.v (.bool (decide (((List.length x0.2.2 : Nat) : Int) = x2))))) = AV.p (.c (.v (.bool true)))), Q_spec_IsValidVector x0.2.1, (AV.p (.c (.v (.bool ((validV x0.2.1))))) = AV.p (.c (.v (.bool false))))] gamOK hT h (by kernel_rfl) ⟨trivial, hint_bool (h1), trivial, hint_bool (h2), trivial, hint_bool (h3), hint_bool (decide_eq_true h4), hint_bool (decide_eq_true h5), (by exact hf0.2.1), hint_bool (h6), trivial⟩ fun a w h => then_normal (wp_ret ?_)
       exact at_return (false,()) [] h (by kernel_rfl) trivial (congrArg (fun z=>(z,())) (show (false)=validP x0 x1 x2 from by first | rfl | (unfold validP;rw [if_pos h1,if_pos h2,if_pos h3,if_pos h4,if_pos h5,if_neg (neT h6)];done) | (unfold validP;simp_all [isFmt])))
     ·refine at_regq [{}, {}, { hint := some (aB true) }, {}, {}, { hint := some (aB true) }, {}, {}, {}, { hint := some (aB true) }, {}, {}, {}, {}, {}, {}, { hint := some (aB true) }, {}, {}, {}, {}, {}, {}, { hint := some (aB false) }] { ts := [6], os := [] } [True, (AV.p (.c (.v (.bool ((inR x0.1 0 1000000000000))))) = AV.p (.c (.v (.bool true)))), True, (AV.p (.c (.v (.bool ((inR x1 1 8))))) = AV.p (.c (.v (.bool true)))), True, (AV.p (.c (.v (.bool ((inR x2 1 16))))) = AV.p (.c (.v (.bool true)))), (AV.p (.c (.v (.bool (decide (((List.length x0.2.1 : Nat) : Int) = x1))))) = AV.p (.c (.v (.bool true)))), (AV.p (.c (.v (.bool (decide (((List.length x0.2.2 : Nat) : Int) = x2))))) = AV.p (.c (.v (.bool false))))] gamOK hT h (by kernel_rfl) ⟨trivial, hint_bool (h1), trivial, hint_bool (h2), trivial, hint_bool (h3), hint_bool (decide_eq_true h4), hint_bool (decide_eq_false h5), trivial⟩ fun a w h => then_normal (wp_ret ?_)
      exact at_return (false,()) [] h (by kernel_rfl) trivial (congrArg (fun z=>(z,())) (show (false)=validP x0 x1 x2 from by first | rfl | (unfold validP;rw [if_pos h1,if_pos h2,if_pos h3,if_pos h4,if_neg h5];done) | (unfold validP;simp_all [isFmt])))
    ·refine at_regq [{}, {}, { hint := some (aB true) }, {}, {}, { hint := some (aB true) }, {}, {}, {}, { hint := some (aB true) }, {}, {}, {}, {}, {}, {}, { hint := some (aB false) }] { ts := [6], os := [] } [True, (AV.p (.c (.v (.bool ((inR x0.1 0 1000000000000))))) = AV.p (.c (.v (.bool true)))), True, (AV.p (.c (.v (.bool ((inR x1 1 8))))) = AV.p (.c (.v (.bool true)))), True, (AV.p (.c (.v (.bool ((inR x2 1 16))))) = AV.p (.c (.v (.bool true)))), (AV.p (.c (.v (.bool (decide (((List.length x0.2.1 : Nat) : Int) = x1))))) = AV.p (.c (.v (.bool false))))] gamOK hT h (by kernel_rfl) ⟨trivial, hint_bool (h1), trivial, hint_bool (h2), trivial, hint_bool (h3), hint_bool (decide_eq_false h4), trivial⟩ fun a w h => then_normal (wp_ret ?_)
     exact at_return (false,()) [] h (by kernel_rfl) trivial (congrArg (fun z=>(z,())) (show (false)=validP x0 x1 x2 from by first | rfl | (unfold validP;rw [if_pos h1,if_pos h2,if_pos h3,if_neg h4];done) | (unfold validP;simp_all [isFmt])))
   ·have hvh3 := inR_f h3
    refine at_regq [{},{},{ hint:=some (aB true) },{},{},{ hint:=some (aB true) },{},{},{},{ hint:=some (aB false) }] { ts:=[6],os:=[] } [True,(AV.p (.c (.v (.bool ((inR x0.1 0 1000000000000)))))=AV.p (.c (.v (.bool true)))),True,(AV.p (.c (.v (.bool ((inR x1 1 8)))))=AV.p (.c (.v (.bool true)))),True,(AV.p (.c (.v (.bool ((inR x2 1 16)))))=AV.p (.c (.v (.bool false))))] gamOK hT h (by kernel_rfl) ⟨trivial,hint_bool (h1),trivial,hint_bool (h2),trivial,hint_bool (h3),trivial⟩ fun a w h=>then_normal (wp_ret ?_)
    exact at_return (false,()) [] h (by kernel_rfl) trivial (congrArg (fun z=>(z,())) (show (false)=validP x0 x1 x2 from by first | rfl | (unfold validP;rw [if_pos h1,if_pos h2,if_neg (neT h3)];done) | (unfold validP;simp_all [isFmt])))
  ·have hvh2 := inR_f h2
   refine at_regq [{},{},{ hint:=some (aB true) },{},{},{ hint:=some (aB false) }] { ts:=[6],os:=[] } [True,(AV.p (.c (.v (.bool ((inR x0.1 0 1000000000000)))))=AV.p (.c (.v (.bool true)))),True,(AV.p (.c (.v (.bool ((inR x1 1 8)))))=AV.p (.c (.v (.bool false))))] gamOK hT h (by kernel_rfl) ⟨trivial,hint_bool (h1),trivial,hint_bool (h2),trivial⟩ fun a w h=>then_normal (wp_ret ?_)
   exact at_return (false,()) [] h (by kernel_rfl) trivial (congrArg (fun z=>(z,())) (show (false)=validP x0 x1 x2 from by first | rfl | (unfold validP;rw [if_pos h1,if_neg (neT h2)];done) | (unfold validP;simp_all [isFmt])))
 ·have hvh1 := inR_f h1
  refine at_regq [{},{},{ hint:=some (aB false) }] { ts:=[6],os:=[] } [True,(AV.p (.c (.v (.bool ((inR x0.1 0 1000000000000)))))=AV.p (.c (.v (.bool false))))] gamOK hT h (by kernel_rfl) ⟨trivial,hint_bool (h1),trivial⟩ fun a w h=>then_normal (wp_ret ?_)
  exact at_return (false,()) [] h (by kernel_rfl) trivial (congrArg (fun z=>(z,())) (show (false)=validP x0 x1 x2 from by first | rfl | (unfold validP;rw [if_neg (neT h1)];done) | (unfold validP;simp_all [isFmt])))

def D_impl_IsValidManifest_1:=(fun e=>!isGrp e)
def S_impl_IsValidManifest_1:Sum:={ fid:=130,dom:=[(.int 3)],cod:=[(.bool 4)],dp:=true,fz:=false,pre:=fun x=>True,g:=fun x=>((D_impl_IsValidManifest_1 x.1),()) }
def S_impl_IsValidManifest_1_tab:List (Nat×Sum):=[(131,S_impl_IsGroupElement)]
theorem S_impl_IsValidManifest_1_ok:FnOK Tryz.prog 130 S_impl_IsValidManifest_1:=by
 refine at_enter 6 (fun x=>⟨[(0,aI x.1)],[]⟩) Tryz.func130 rfl (by kernel_rfl) (fun x=>rfl) ?_
 rintro w0 Z0 ⟨x0,u⟩ a w
 revert x0
 intro (x0:Int) hpre hlens h
 have hT:TabOK Tryz.prog S_impl_IsValidManifest_1_tab:=(.cons S_impl_IsGroupElement_ok .nil)
 refine wp_seq ?_
 refine at_regq [] { ts:=[0,2],os:=[] } [] gamOK hT h (by kernel_rfl) trivial fun a w h=>then_normal (wp_seq ?_)
 refine at_regq [] { ts:=[2],os:=[] } [True] gamOK hT h (by kernel_rfl) ⟨trivial,trivial⟩ fun a w h=>then_normal (wp_ret ?_)
 exact at_return (!(isGrp x0),()) [] h (by kernel_rfl) trivial (congrArg (fun z=>(z,())) (show (!(isGrp x0))=D_impl_IsValidManifest_1 x0 from by unfold D_impl_IsValidManifest_1;rfl))

def D_slices_IndexFunc_S_int_int__IsValidManifest_1:=(fun (xs:List Int) (cap:Unit)=>idxF (fun e=>!isGrp e) xs)
def S_slices_IndexFunc_S_int_int__IsValidManifest_1:Sum:={ fid:=119,dom:=[s39,(.fn0 130)],cod:=[(.int 3)],dp:=true,fz:=false,pre:=fun x=>True,g:=fun x=>((D_slices_IndexFunc_S_int_int__IsValidManifest_1 x.1 x.2.1),()) }
def S_slices_IndexFunc_S_int_int__IsValidManifest_1_tab:List (Nat×Sum):=[(130,S_impl_IsValidManifest_1)]
theorem S_slices_IndexFunc_S_int_int__IsValidManifest_1_ok:FnOK Tryz.prog 119 S_slices_IndexFunc_S_int_int__IsValidManifest_1:=by
 refine at_enter 19 (fun x=>⟨[(0,aF (.int 3) x.1),(1,.p (.c (.cl 130 .cnil)))],[]⟩) Tryz.func119 rfl (by kernel_rfl) (fun x=>rfl) ?_
 rintro w0 Z0 ⟨x0,x1,u⟩ a w
 revert x0 x1
 intro (x0:(List Int)) (x1:Unit) hpre hlens h
 have hl1:List.length x0≤9223372036854775807:=hlens.1.1
 have hT:TabOK Tryz.prog S_slices_IndexFunc_S_int_int__IsValidManifest_1_tab:=(.cons S_impl_IsValidManifest_1_ok .nil)
 refine wp_seq ?_
 refine at_regq [] { ts:=[0,1,4],os:=[] } [] gamOK hT h (by kernel_rfl) trivial fun a w h=>then_normal (wp_seq (wp_seq ?_))
 refine at_regq [] { ts:=[0,1,4,7,8],os:=[] } [] gamOK hT h (by kernel_rfl) trivial fun a w h=>then_normal (wp_block ?_)
 replace h:=at_out (σ':=⟨[(0,aF (.int 3) x0),(1,.p (.c (.cl 130 .cnil))),(4,aI 0),(7,aI ((List.length x0:Nat):Int)),(8,aI 0)],[]⟩) { ts:=[0,1,4,7,8],os:=[] } h (by kernel_rfl)
 refine at_loop (fun i:Nat=>(⟨[(0,aF (.int 3) x0),(1,.p (.c (.cl 130 .cnil))),(4,aI 0),(7,aI ((List.length x0:Nat):Int)),(8,aI ((i:Nat):Int))],[]⟩:St)) (fun i=>(i≤List.length x0∧noneTo (fun e=>!isGrp e) x0 0 i)) (fun i=>List.length x0 - i) (0) h (st_congr1 (fun (d0:Int)=>(⟨[(0,aF (.int 3) x0),(1,.p (.c (.cl 130 .cnil))),(4,aI 0),(7,aI ((List.length x0:Nat):Int)),(8,aI d0)],[]⟩:St)) (show (0:Int)=(((0):Nat):Int) from by first | with_reducible rfl | (rfl) | rfl)) (by exact ⟨Nat.zero_le _,noneTo_zero⟩) ?_
 intro i a w hok0 h
 refine wp_seq ?_
 refine at_regq [] { ts:=[0,1,4,7,8,9],os:=[] } [] gamOK hT h (by kernel_rfl) trivial fun a w h=>then_normal (wp_seq ?_)
 refine at_test (decide (((i:Nat):Int) < ((List.length x0:Nat):Int))) h (by kernel_rfl) (fun h1=>?_) (fun h1=>?_)
 ·replace h1 : ((i : Nat) : Int) < ((List.length x0 : Nat) : Int) := of_decide_eq_true h1
  refine wp_skip (then_normal (wp_seq (wp_block (wp_seq ?_))))
  refine at_regq [] { ts:=[0,1,4,5,7,8],os:=[] } [] gamOK hT h (by kernel_rfl) trivial fun a w h=>then_normal (wp_seq ?_)
  refine at_regq [] { ts:=[0,1,4,5,7,8,16],os:=[] } [(0:Int)≤((i:Nat):Int)∧((i:Nat):Int) < ((List.length x0:Nat):Int),True] gamOK hT h (by kernel_rfl) ⟨(by refine ⟨?_,?_⟩<;>(first | omega | (simp only [lsA];omega) | (simp<;>omega))),trivial,trivial⟩ fun a w h=>then_normal ?_
  refine at_test ((D_impl_IsValidManifest_1 (x0.getD i 0))) h (by kernel_rfl) (fun h2=>?_) (fun h2=>?_)
  ·refine wp_seq ?_
   refine at_regq [] { ts:=[0,1,4,7,8],os:=[] } [] gamOK hT h (by kernel_rfl) trivial fun a w h=>then_normal (wp_ret (in_ret (then_ret (then_ret (in_ret (then_ret ?_))))))
   exact at_return (((i:Nat):Int),()) [] h (by kernel_rfl) trivial (congrArg (fun z=>(z,())) (show (((i:Nat):Int))=D_slices_IndexFunc_S_int_int__IsValidManifest_1 x0 x1 from by unfold D_slices_IndexFunc_S_int_int__IsValidManifest_1;exact (idxF_at (z:=0) (by omega) hok0.2 h2).symm))
  ·refine wp_skip (in_normal (then_normal ?_))
   refine at_regq [{ nw:=true }] { ts:=[0,1,4,7,8],os:=[] } [I64 (((i:Nat):Int)+1)] gamOK hT h (by kernel_rfl) ⟨⟨by first | omega | (simp only [lsA];omega) | (simp<;>omega),by first | omega | (simp only [lsA];omega) | (simp<;>omega)⟩,trivial⟩ fun a w h=>?_
   replace h:=at_out (σ':=⟨[(0,aF (.int 3) x0),(1,.p (.c (.cl 130 .cnil))),(4,aI 0),(7,aI ((List.length x0:Nat):Int)),(8,aI (((i:Nat):Int)+1))],[]⟩) { ts:=[0,1,4,7,8],os:=[] } h (by kernel_rfl)
   exact ⟨i+1,at_eq h (st_congr1 (fun (d0:Int)=>(⟨[(0,aF (.int 3) x0),(1,.p (.c (.cl 130 .cnil))),(4,aI 0),(7,aI ((List.length x0:Nat):Int)),(8,aI d0)],[]⟩:St)) (show (((i:Nat):Int)+1:Int)=(((i+1):Nat):Int) from by first | with_reducible rfl | (omega) | rfl)),(by exact ⟨by omega,noneTo_succ hok0.2 h2⟩),(by omega)⟩
 ·replace h1 : ¬ (((i : Nat) : Int) < ((List.length x0 : Nat) : Int)) := of_decide_eq_false h1
  refine wp_exit (then_exit (then_exit (in_hit (then_normal (wp_seq ?_)))))
  refine at_regq [] { ts:=[4],os:=[] } [] gamOK hT h (by kernel_rfl) trivial fun a w h=>then_normal (wp_ret ?_)
  exact at_return ((-1),()) [] h (by kernel_rfl) trivial (congrArg (fun z=>(z,())) (show ((-1))=D_slices_IndexFunc_S_int_int__IsValidManifest_1 x0 x1 from by unfold D_slices_IndexFunc_S_int_int__IsValidManifest_1;exact (idxF_none (z:=0) (by omega) hok0.2).symm))

def D_slices_ContainsFunc_S_int_int__IsValidManifest_1:=(fun (xs:List Int) (cap:Unit)=>xs.any fun e=>!isGrp e)
def S_slices_ContainsFunc_S_int_int__IsValidManifest_1:Sum:={ fid:=129,dom:=[s39,(.fn0 130)],cod:=[(.bool 4)],dp:=true,fz:=false,pre:=fun x=>True,g:=fun x=>((D_slices_ContainsFunc_S_int_int__IsValidManifest_1 x.1 x.2.1),()) }
def S_slices_ContainsFunc_S_int_int__IsValidManifest_1_tab:List (Nat×Sum):=[(100005,S_slices_IndexFunc_S_int_int__IsValidManifest_1)]
theorem S_slices_ContainsFunc_S_int_int__IsValidManifest_1_ok:FnOK Tryz.prog 129 S_slices_ContainsFunc_S_int_int__IsValidManifest_1:=by
 refine at_enter 9 (fun x=>⟨[(0,aF (.int 3) x.1),(1,.p (.c (.cl 130 .cnil)))],[]⟩) Tryz.func129 rfl (by kernel_rfl) (fun x=>rfl) ?_
 rintro w0 Z0 ⟨x0,x1,u⟩ a w
 revert x0 x1
 intro (x0:(List Int)) (x1:Unit) hpre hlens h
 have hl1:List.length x0≤9223372036854775807:=hlens.1.1
 have hT:TabOK Tryz.prog S_slices_ContainsFunc_S_int_int__IsValidManifest_1_tab:=(.cons S_slices_IndexFunc_S_int_int__IsValidManifest_1_ok .nil)
 refine wp_seq ?_
 refine at_regq [] { ts:=[0,1,4],os:=[] } [] gamOK hT h (by kernel_rfl) trivial fun a w h=>then_normal (wp_seq ?_)
 refine at_regq [{},{},{ key:=some 100005 }] { ts:=[4],os:=[] } [True] gamOK hT h (by kernel_rfl) ⟨trivial,trivial⟩ fun a w h=>then_normal (wp_ret ?_)
 exact at_return (decide ((D_slices_IndexFunc_S_int_int__IsValidManifest_1 x0 ())≥0),()) [] h (by kernel_rfl) trivial (congrArg (fun z=>(z,())) (show (decide ((D_slices_IndexFunc_S_int_int__IsValidManifest_1 x0 ())≥0))=D_slices_ContainsFunc_S_int_int__IsValidManifest_1 x0 x1 from by unfold D_slices_ContainsFunc_S_int_int__IsValidManifest_1;exact idxF_any))

def validMan (x0:T56):Bool:=(if (inR x0.1 0 7)=true then (if (isFmt x0.2.1 x0.2.2.1 x0.2.2.2.1)=true then (if ((List.length x0.2.2.2.2.1:Nat):Int)=x0.2.2.1 then (if (List.all x0.2.2.2.2.1 isGrp)=true then (inR x0.2.2.2.2.2 0 2147483646) else false) else false) else false) else false)
abbrev Q_spec_IsValidManifest:=(fun (x0:T56)=>Sh.fit s56 x0)
def S_spec_IsValidManifest:Sum:={ fid:=90,dom:=[s56],cod:=[(.bool 4)],dp:=true,fz:=false,pre:=fun x=>Q_spec_IsValidManifest x.1,g:=fun x=>((validMan x.1),()) }
def S_spec_IsValidManifest_tab:List (Nat×Sum):=[(92,S_spec_l1In),(96,S_spec_l14Range),(136,S_spec_IsGroupElement)]
theorem S_spec_IsValidManifest_ok:FnOK Tryz.prog 90 S_spec_IsValidManifest:=by
 refine at_enter 43 (fun x=>⟨[(0,aG [cI x.1.1,cI x.1.2.1,cI x.1.2.2.1,cI x.1.2.2.2.1,.ro (.int 3) x.1.2.2.2.2.1,cI x.1.2.2.2.2.2])],[]⟩) Tryz.func90 rfl (by kernel_rfl) (fun x=>rfl) ?_
 rintro w0 Z0 ⟨x0,u⟩ a w
 revert x0
 intro (x0:T56) hpre hlens h
 replace hpre:Q_spec_IsValidManifest x0:=hpre
 have hT:TabOK Tryz.prog S_spec_IsValidManifest_tab:=(.cons S_spec_l1In_ok (.cons S_spec_l14Range_ok (.cons S_spec_IsGroupElement_ok .nil)))
 have hf0:Sh.fit s56 x0:=hpre
 have hn0_1:List.length x0.2.2.2.2.1≤1073741824:=hf0.2.2.2.2.1.1
 refine wp_seq ?_
 refine at_regq [{ ids:=[1] }] { ts:=[1,2],os:=[1] } [] gamOK hT h (by kernel_rfl) trivial fun a w h=>then_normal (wp_seq (wp_seq ?_))
 rcases Bool.eq_false_or_eq_true (!(inR x0.1 0 7)) with h1 | h1
 ·have hzh1 : (inR x0.1 0 7) = false := notT h1
  have hvh1:=inR_f (notT h1)
  refine at_regq [{},{},{},{ hint:=some (aB true) }] { ts:=[1,2,25],os:=[1] } [True,(AV.p (.c (.v (.bool (!(inR x0.1 0 7)))))=AV.p (.c (.v (.bool true))))] gamOK hT h (by kernel_rfl) ⟨trivial,hint_bool (h1),trivial⟩ fun a w h=>then_normal ?_
  refine at_test true h (by kernel_rfl) (fun hh=>?_) (fun hh=>nomatch hh)
  refine wp_seq ?_
  refine at_regq [] { ts:=[1,2],os:=[1] } [] gamOK hT h (by kernel_rfl) trivial fun a w h=>then_normal (wp_ret (then_ret ?_))
  exact at_return (false,()) [] h (by kernel_rfl) trivial (congrArg (fun z=>(z,())) (show (false)=validMan x0 from by first | rfl | (unfold validMan;rw [if_neg (neT (notT h1))])))
 ·have hzh1 : (inR x0.1 0 7) = true := notF h1
  have hvh1:=inR_t (notF h1)
  rcases Bool.eq_false_or_eq_true (!(isFmt x0.2.1 x0.2.2.1 x0.2.2.2.1)) with h2 | h2
  ·have hzh2 : (isFmt x0.2.1 x0.2.2.1 x0.2.2.2.1) = false := notT h2
   refine at_regq [{},{},{},{ hint:=some (aB false) },{},{},{},{},{},{},{},{},{ hint:=some (aB true) }] { ts:=[1,2,25],os:=[1] } [True,(AV.p (.c (.v (.bool (!(inR x0.1 0 7)))))=AV.p (.c (.v (.bool false)))),True,(AV.p (.c (.v (.bool (!(isFmt x0.2.1 x0.2.2.1 x0.2.2.2.1)))))=AV.p (.c (.v (.bool true))))] gamOK hT h (by kernel_rfl) ⟨trivial,hint_bool (h1),trivial,hint_bool (h2),trivial⟩ fun a w h=>then_normal ?_
   refine at_test true h (by kernel_rfl) (fun hh=>?_) (fun hh=>nomatch hh)
   refine wp_seq ?_
   refine at_regq [] { ts:=[1,2],os:=[1] } [] gamOK hT h (by kernel_rfl) trivial fun a w h=>then_normal (wp_ret (then_ret ?_))
   exact at_return (false,()) [] h (by kernel_rfl) trivial (congrArg (fun z=>(z,())) (show (false)=validMan x0 from by first | rfl | (unfold validMan;rw [if_pos (notF h1),if_neg (neT (notT h2))])))
  ·have hzh2 : (isFmt x0.2.1 x0.2.2.1 x0.2.2.2.1) = true := notF h2
   have hvh2:=isFmt_t (notF h2)
   refine at_regq [{},{},{},{ hint:=some (aB false) },{},{},{},{},{},{},{},{},{ hint:=some (aB false) }] { ts:=[1,2,25],os:=[1] } [True,(AV.p (.c (.v (.bool (!(inR x0.1 0 7)))))=AV.p (.c (.v (.bool false)))),True,(AV.p (.c (.v (.bool (!(isFmt x0.2.1 x0.2.2.1 x0.2.2.2.1)))))=AV.p (.c (.v (.bool false))))] gamOK hT h (by kernel_rfl) ⟨trivial,hint_bool (h1),trivial,hint_bool (h2),trivial⟩ fun a w h=>then_normal ?_
   refine at_test (!decide (((List.length x0.2.2.2.2.1:Nat):Int)=x0.2.2.1)) h (by kernel_rfl) (fun h3=>?_) (fun h3=>?_)
   ·replace h3 : ¬ (((List.length x0.2.2.2.2.1 : Nat) : Int) = x0.2.2.1) := of_decide_eq_false (notT h3)
    refine wp_seq ?_
    refine at_regq [] { ts:=[1,2],os:=[1] } [] gamOK hT h (by kernel_rfl) trivial fun a w h=>then_normal (wp_ret (then_ret ?_))
    exact at_return (false,()) [] h (by kernel_rfl) trivial (congrArg (fun z=>(z,())) (show (false)=validMan x0 from by first | rfl | (unfold validMan;rw [if_pos (notF h1),if_pos (notF h2),if_neg h3])))
   ·replace h3 : ((List.length x0.2.2.2.2.1 : Nat) : Int) = x0.2.2.1 := of_decide_eq_true (notF h3)
    refine wp_skip (then_normal (wp_seq (wp_seq ?_)))
    refine at_regq [] { ts:=[1,2,3],os:=[1] } [] gamOK hT h (by kernel_rfl) trivial fun a w h=>then_normal (wp_block ?_)
    replace h:=at_out (σ':=⟨[(1,aP 1 0),(2,aB false),(3,aI 0)],[(1,oX 56 [cI x0.1,cI x0.2.1,cI x0.2.2.1,cI x0.2.2.2.1,.ro (.int 3) x0.2.2.2.2.1,cI x0.2.2.2.2.2])]⟩) { ts:=[1,2,3],os:=[1] } h (by kernel_rfl)
    refine at_loop (fun i:Nat=>(⟨[(1,aP 1 0),(2,aB false),(3,aI ((i:Nat):Int))],[(1,oX 56 [cI x0.1,cI x0.2.1,cI x0.2.2.1,cI x0.2.2.2.1,.ro (.int 3) x0.2.2.2.2.1,cI x0.2.2.2.2.2])]⟩:St)) (fun i=>(i≤List.length x0.2.2.2.2.1∧allTo1 isGrp x0.2.2.2.2.1 0 i)) (fun i=>List.length x0.2.2.2.2.1 - i) (0) h (st_congr1 (fun (d0:Int)=>(⟨[(1,aP 1 0),(2,aB false),(3,aI d0)],[(1,oX 56 [cI x0.1,cI x0.2.1,cI x0.2.2.1,cI x0.2.2.2.1,.ro (.int 3) x0.2.2.2.2.1,cI x0.2.2.2.2.2])]⟩:St)) (show (0:Int)=(((0):Nat):Int) from by first | with_reducible rfl | (rfl) | rfl)) (by exact ⟨Nat.zero_le _,allTo1_zero⟩) ?_
    intro i a w hok0 h
    refine wp_seq (wp_seq ?_)
    refine at_regq [] { ts:=[1,2,3,30],os:=[1] } [] gamOK hT h (by kernel_rfl) trivial fun a w h=>then_normal ?_
    refine at_test (decide (((i:Nat):Int) < ((List.length x0.2.2.2.2.1:Nat):Int))) h (by kernel_rfl) (fun h4=>?_) (fun h4=>?_)
    ·replace h4 : ((i : Nat) : Int) < ((List.length x0.2.2.2.2.1 : Nat) : Int) := of_decide_eq_true h4
     refine wp_skip (then_normal (wp_seq (wp_block (wp_seq ?_))))
     refine at_regq [] { ts:=[1,2,3,39],os:=[1] } [(0:Int)≤((i:Nat):Int)∧((i:Nat):Int) < ((List.length x0.2.2.2.2.1:Nat):Int),True] gamOK hT h (by kernel_rfl) ⟨(by refine ⟨?_,?_⟩<;>(first | omega | (simp only [lsA];omega) | (simp<;>omega))),trivial,trivial⟩ fun a w h=>then_normal ?_
     refine at_test (!(isGrp (x0.2.2.2.2.1.getD i 0))) h (by kernel_rfl) (fun h5=>?_) (fun h5=>?_)
     ·replace h5 : (isGrp (x0.2.2.2.2.1.getD i 0)) = false := notT h5
      refine wp_seq ?_
      refine at_regq [] { ts:=[1,2,3],os:=[1] } [] gamOK hT h (by kernel_rfl) trivial fun a w h=>then_normal (wp_ret (in_ret (then_ret ?_)))
      have hs6:(List.all x0.2.2.2.2.1 isGrp)=false:=by exact all_at (z:=0) (i:=i) (by omega) (by first | assumption | (simp_all;done))
      refine then_ret (in_ret (then_ret ?_))
      exact at_return (false,()) [] h (by kernel_rfl) trivial (congrArg (fun z=>(z,())) (show (false)=validMan x0 from by first | rfl | (unfold validMan;rw [if_pos (notF h1),if_pos (notF h2),if_pos h3,if_neg (neT hs6)])))
     ·replace h5 : (isGrp (x0.2.2.2.2.1.getD i 0)) = true := notF h5
      have hvh5:=isGrp_t h5
      refine wp_skip (in_normal (then_normal ?_))
      refine at_regq [{},{ nw:=true }] { ts:=[1,2,3],os:=[1] } [I64 (((i:Nat):Int)+1)] gamOK hT h (by kernel_rfl) ⟨⟨by first | omega | (simp only [lsA];omega) | (simp<;>omega),by first | omega | (simp only [lsA];omega) | (simp<;>omega)⟩,trivial⟩ fun a w h=>?_
      replace h:=at_out (σ':=⟨[(1,aP 1 0),(2,aB false),(3,aI (((i:Nat):Int)+1))],[(1,oX 56 [cI x0.1,cI x0.2.1,cI x0.2.2.1,cI x0.2.2.2.1,.ro (.int 3) x0.2.2.2.2.1,cI x0.2.2.2.2.2])]⟩) { ts:=[1,2,3],os:=[1] } h (by kernel_rfl)
      exact ⟨i+1,at_eq h (st_congr1 (fun (d0:Int)=>(⟨[(1,aP 1 0),(2,aB false),(3,aI d0)],[(1,oX 56 [cI x0.1,cI x0.2.1,cI x0.2.2.1,cI x0.2.2.2.1,.ro (.int 3) x0.2.2.2.2.1,cI x0.2.2.2.2.2])]⟩:St)) (show (((i:Nat):Int)+1:Int)=(((i+1):Nat):Int) from by first | with_reducible rfl | (omega) | rfl)),(by exact ⟨by omega,allTo1_succ hok0.2 (by first | assumption | (simp_all;done))⟩),(by omega)⟩
    ·replace h4 : ¬ (((i : Nat) : Int) < ((List.length x0.2.2.2.2.1 : Nat) : Int)) := of_decide_eq_false h4
     refine wp_exit (then_exit ?_)
     have hs7:(List.all x0.2.2.2.2.1 isGrp)=true:=by exact all_of (z:=0) (i:=i) (by omega) hok0.2
     refine then_exit (in_hit (then_normal (wp_seq ?_)))
     refine at_regq [] { ts:=[2],os:=[] } [True] gamOK hT h (by kernel_rfl) ⟨trivial,trivial⟩ fun a w h=>then_normal (wp_ret ?_)
     exact at_return ((inR x0.2.2.2.2.2 0 2147483646),()) [] h (by kernel_rfl) trivial (congrArg (fun z=>(z,())) (show ((inR x0.2.2.2.2.2 0 2147483646))=validMan x0 from by first | rfl | (unfold validMan;rw [if_pos (notF h1),if_pos (notF h2),if_pos h3,if_pos hs7])))
theorem validMan_len {m:T56} (h:validMan m=true):1≤List.length m.2.2.2.2.1:=by
 unfold validMan at h
 repeat' (split at h)
 all_goals first | (cases h;done) | (have:=isFmt_t (by assumption);omega) | (exfalso;revert h;decide) | skip

abbrev Q_impl_IsValidManifest:=(fun (x0:T56)=>Sh.fit s56 x0)
def S_impl_IsValidManifest:Sum:={ fid:=87,dom:=[s56],cod:=[(.bool 4)],dp:=true,fz:=false,pre:=fun x=>Q_impl_IsValidManifest x.1,g:=fun x=>((validMan x.1),()) }
def S_impl_IsValidManifest_tab:List (Nat×Sum):=[(59,S_impl_InRange),(31,S_impl_isFormat),(100006,S_slices_ContainsFunc_S_int_int__IsValidManifest_1)]
theorem S_impl_IsValidManifest_ok:FnOK Tryz.prog 87 S_impl_IsValidManifest:=by
 refine at_enter 35 (fun x=>⟨[(0,aG [cI x.1.1,cI x.1.2.1,cI x.1.2.2.1,cI x.1.2.2.2.1,.ro (.int 3) x.1.2.2.2.2.1,cI x.1.2.2.2.2.2])],[]⟩) Tryz.func87 rfl (by kernel_rfl) (fun x=>rfl) ?_
 rintro w0 Z0 ⟨x0,u⟩ a w
 revert x0
 intro (x0:T56) hpre hlens h
 replace hpre:Q_impl_IsValidManifest x0:=hpre
 have hT:TabOK Tryz.prog S_impl_IsValidManifest_tab:=(.cons S_impl_InRange_ok (.cons S_impl_isFormat_ok (.cons S_slices_ContainsFunc_S_int_int__IsValidManifest_1_ok .nil)))
 have hf0:Sh.fit s56 x0:=hpre
 have hn0_1:List.length x0.2.2.2.2.1≤1073741824:=hf0.2.2.2.2.1.1
 refine wp_seq ?_
 refine at_regq [{ ids:=[1] }] { ts:=[1,2],os:=[1] } [] gamOK hT h (by kernel_rfl) trivial fun a w h=>then_normal (wp_seq (wp_seq ?_))
 rcases Bool.eq_false_or_eq_true (!(inR x0.1 0 7)) with h1 | h1
 ·have hzh1 : (inR x0.1 0 7) = false := notT h1
  have hvh1:=inR_f (notT h1)
  refine at_regq [{},{},{},{ hint:=some (aB true) }] { ts:=[1,2,30],os:=[1] } [True,(AV.p (.c (.v (.bool (!(inR x0.1 0 7)))))=AV.p (.c (.v (.bool true))))] gamOK hT h (by kernel_rfl) ⟨trivial,hint_bool (h1),trivial⟩ fun a w h=>then_normal ?_
  refine at_test true h (by kernel_rfl) (fun hh=>?_) (fun hh=>nomatch hh)
  refine wp_seq ?_
  refine at_regq [] { ts:=[1,2],os:=[1] } [] gamOK hT h (by kernel_rfl) trivial fun a w h=>then_normal (wp_ret (then_ret ?_))
  exact at_return (false,()) [] h (by kernel_rfl) trivial (congrArg (fun z=>(z,())) (show (false)=validMan x0 from by first | rfl | (unfold validMan;rw [if_neg (neT (notT h1))];done) | (unfold validMan;(repeat (first | rfl | split))<;>(first | rfl | omega | (simp_all [-List.all_eq_true,-List.any_eq_true,-List.all_eq_false,-List.any_eq_false,D_slices_ContainsFunc_S_int_int__IsValidManifest_1,any_not];done) | (simp_all [-List.all_eq_true,-List.any_eq_true,-List.all_eq_false,-List.any_eq_false,D_slices_ContainsFunc_S_int_int__IsValidManifest_1,any_not];omega) | (exfalso;simp_all [-List.all_eq_true,-List.any_eq_true,-List.all_eq_false,-List.any_eq_false,D_slices_ContainsFunc_S_int_int__IsValidManifest_1,any_not];omega)))))
 ·have hzh1 : (inR x0.1 0 7) = true := notF h1
  have hvh1:=inR_t (notF h1)
  rcases Bool.eq_false_or_eq_true (!(isFmt x0.2.1 x0.2.2.1 x0.2.2.2.1)) with h2 | h2
  ·have hzh2 : (isFmt x0.2.1 x0.2.2.1 x0.2.2.2.1) = false := notT h2
   refine at_regq [{},{},{},{ hint:=some (aB false) },{},{},{},{},{},{},{},{},{ hint:=some (aB true) }] { ts:=[1,2,30],os:=[1] } [True,(AV.p (.c (.v (.bool (!(inR x0.1 0 7)))))=AV.p (.c (.v (.bool false)))),True,(AV.p (.c (.v (.bool (!(isFmt x0.2.1 x0.2.2.1 x0.2.2.2.1)))))=AV.p (.c (.v (.bool true))))] gamOK hT h (by kernel_rfl) ⟨trivial,hint_bool (h1),trivial,hint_bool (h2),trivial⟩ fun a w h=>then_normal ?_
   refine at_test true h (by kernel_rfl) (fun hh=>?_) (fun hh=>nomatch hh)
   refine wp_seq ?_
   refine at_regq [] { ts:=[1,2],os:=[1] } [] gamOK hT h (by kernel_rfl) trivial fun a w h=>then_normal (wp_ret (then_ret ?_))
   exact at_return (false,()) [] h (by kernel_rfl) trivial (congrArg (fun z=>(z,())) (show (false)=validMan x0 from by first | rfl | (unfold validMan;rw [if_pos (notF h1),if_neg (neT (notT h2))];done) | (unfold validMan;(repeat (first | rfl | split))<;>(first | rfl | omega | (simp_all [-List.all_eq_true,-List.any_eq_true,-List.all_eq_false,-List.any_eq_false,D_slices_ContainsFunc_S_int_int__IsValidManifest_1,any_not];done) | (simp_all [-List.all_eq_true,-List.any_eq_true,-List.all_eq_false,-List.any_eq_false,D_slices_ContainsFunc_S_int_int__IsValidManifest_1,any_not];omega) | (exfalso;simp_all [-List.all_eq_true,-List.any_eq_true,-List.all_eq_false,-List.any_eq_false,D_slices_ContainsFunc_S_int_int__IsValidManifest_1,any_not];omega)))))
  ·have hzh2 : (isFmt x0.2.1 x0.2.2.1 x0.2.2.2.1) = true := notF h2
   have hvh2:=isFmt_t (notF h2)
   by_cases h3:((List.length x0.2.2.2.2.1:Nat):Int)=x0.2.2.1
   ·refine at_regq [{}, {}, {}, { hint := some (aB false) }, {}, {}, {}, {}, {}, {}, {}, {}, { hint := some (aB false) }, {}, {}, {}, {}, {}, {}, {}, { hint := some (aB false) }] { ts := [1, 2, 30], os := [1] } [True, (AV.p (.c (.v (.bool (!(inR x0.1 0 7))))) = AV.p (.c (.v (.bool false)))), True, (AV.p (.c (.v (.bool (!(isFmt x0.2.1 x0.2.2.1 x0.2.2.2.1))))) = AV.p (.c (.v (.bool false)))), (AV.p (.c (.v (.bool (!decide (((List.length x0.2.2.2.2.1 : Nat) : Int) = x0.2.2.1))))) = AV.p (.c (.v (.bool false)))), True] gamOK hT h (by kernel_rfl) ⟨trivial, hint_bool (h1), trivial, hint_bool (h2), hint_bool (ndT h3), trivial, trivial⟩ fun a w h => then_normal ?_
    refine at_test (!(inR x0.2.2.2.2.2 0 2147483646)) h (by kernel_rfl) (fun h4=>?_) (fun h4=>?_)
    ·replace h4 : (inR x0.2.2.2.2.2 0 2147483646) = false := notT h4
     have hvh4:=inR_f h4
     refine wp_seq ?_
     refine at_regq [] { ts:=[1,2],os:=[1] } [] gamOK hT h (by kernel_rfl) trivial fun a w h=>then_normal (wp_ret (then_ret ?_))
     exact at_return (false,()) [] h (by kernel_rfl) trivial (congrArg (fun z=>(z,())) (show (false)=validMan x0 from by first | rfl | (unfold validMan;rw [if_pos (notF h1),if_pos (notF h2),if_pos h3,if_neg (neT h4)];done) | (unfold validMan;(repeat (first | rfl | split))<;>(first | rfl | omega | (simp_all [-List.all_eq_true,-List.any_eq_true,-List.all_eq_false,-List.any_eq_false,D_slices_ContainsFunc_S_int_int__IsValidManifest_1,any_not];done) | (simp_all [-List.all_eq_true,-List.any_eq_true,-List.all_eq_false,-List.any_eq_false,D_slices_ContainsFunc_S_int_int__IsValidManifest_1,any_not];omega) | (exfalso;simp_all [-List.all_eq_true,-List.any_eq_true,-List.all_eq_false,-List.any_eq_false,D_slices_ContainsFunc_S_int_int__IsValidManifest_1,any_not];omega)))))
    ·replace h4 : (inR x0.2.2.2.2.2 0 2147483646) = true := notF h4
     have hvh4:=inR_t h4
     refine wp_skip (then_normal (wp_seq ?_))
     refine at_regq [{},{},{ key:=some 100006 }] { ts:=[2],os:=[] } [True] gamOK hT h (by kernel_rfl) ⟨trivial,trivial⟩ fun a w h=>then_normal (wp_ret ?_)
     exact at_return (!(D_slices_ContainsFunc_S_int_int__IsValidManifest_1 x0.2.2.2.2.1 ()),()) [] h (by kernel_rfl) trivial (congrArg (fun z=>(z,())) (show (!(D_slices_ContainsFunc_S_int_int__IsValidManifest_1 x0.2.2.2.2.1 ()))=validMan x0 from by first | rfl | (unfold validMan;rw [if_pos (notF h1),if_pos (notF h2),if_pos h3,if_pos h4];done) | (unfold validMan;(repeat (first | rfl | split))<;>(first | rfl | omega | (simp_all [-List.all_eq_true,-List.any_eq_true,-List.all_eq_false,-List.any_eq_false,D_slices_ContainsFunc_S_int_int__IsValidManifest_1,any_not];done) | (simp_all [-List.all_eq_true,-List.any_eq_true,-List.all_eq_false,-List.any_eq_false,D_slices_ContainsFunc_S_int_int__IsValidManifest_1,any_not];omega) | (exfalso;simp_all [-List.all_eq_true,-List.any_eq_true,-List.all_eq_false,-List.any_eq_false,D_slices_ContainsFunc_S_int_int__IsValidManifest_1,any_not];omega)))))
   ·refine at_regq [{}, {}, {}, { hint := some (aB false) }, {}, {}, {}, {}, {}, {}, {}, {}, { hint := some (aB false) }, {}, {}, {}, {}, {}, {}, {}, { hint := some (aB true) }] { ts := [1, 2, 30], os := [1] } [True, (AV.p (.c (.v (.bool (!(inR x0.1 0 7))))) = AV.p (.c (.v (.bool false)))), True, (AV.p (.c (.v (.bool (!(isFmt x0.2.1 x0.2.2.1 x0.2.2.2.1))))) = AV.p (.c (.v (.bool false)))), (AV.p (.c (.v (.bool (!decide (((List.length x0.2.2.2.2.1 : Nat) : Int) = x0.2.2.1))))) = AV.p (.c (.v (.bool true))))] gamOK hT h (by kernel_rfl) ⟨trivial, hint_bool (h1), trivial, hint_bool (h2), hint_bool (ndF h3), trivial⟩ fun a w h => then_normal ?_
    refine at_test true h (by kernel_rfl) (fun hh=>?_) (fun hh=>nomatch hh)
    refine wp_seq ?_
    refine at_regq [] { ts:=[1,2],os:=[1] } [] gamOK hT h (by kernel_rfl) trivial fun a w h=>then_normal (wp_ret (then_ret ?_))
    exact at_return (false,()) [] h (by kernel_rfl) trivial (congrArg (fun z=>(z,())) (show (false)=validMan x0 from by first | rfl | (unfold validMan;rw [if_pos (notF h1),if_pos (notF h2),if_neg h3];done) | (unfold validMan;(repeat (first | rfl | split))<;>(first | rfl | omega | (simp_all [-List.all_eq_true,-List.any_eq_true,-List.all_eq_false,-List.any_eq_false,D_slices_ContainsFunc_S_int_int__IsValidManifest_1,any_not];done) | (simp_all [-List.all_eq_true,-List.any_eq_true,-List.all_eq_false,-List.any_eq_false,D_slices_ContainsFunc_S_int_int__IsValidManifest_1,any_not];omega) | (exfalso;simp_all [-List.all_eq_true,-List.any_eq_true,-List.all_eq_false,-List.any_eq_false,D_slices_ContainsFunc_S_int_int__IsValidManifest_1,any_not];omega)))))
def mkMan (s src:Int) (k:(List Int)) (g:T26):T56:=signMan s (src,g.1,((List.length g.2:Nat):Int),colsOf g.2,hashSyms k g,0)
def makeMan (s src:Int) (k:(List Int)) (g:T26):T56×Bool:=if (isKey s=true∧hsOK k g)∧validMan (mkMan s src k g)=true then (mkMan s src k g,true) else ((0,0,0,0,[],0),false)
theorem mkMan_no {s src:Int} {k:(List Int)} {g:T26} (h:¬ hsOK k g):validMan (mkMan s src k g)=false:=by
 rw [Bool.eq_false_iff];intro e
 have:=validMan_len e
 unfold mkMan signMan hashSyms at this
 rw [if_neg h] at this
 exact absurd this (by simp)
theorem makeMan_no {s src:Int} {k:(List Int)} {g:T26} (h:isKey s=false∨List.length (hashSyms k g)=0∨validMan (mkMan s src k g)=false∨¬ hsOK k g):((0,0,0,0,[],0),false)=makeMan s src k g:=by
 unfold makeMan
 rw [if_neg]
 rintro ⟨⟨h1,h2⟩,h3⟩
 rcases h with h | h | h | h
 ·rw [h1] at h;cases h
 ·exact hashSyms_nil h h2
 ·rw [h3] at h;cases h
 ·exact h h2
theorem makeMan_yes {s src:Int} {k:(List Int)} {g:T26} (h1:isKey s=true) (h2:validMan (mkMan s src k g)=true):(mkMan s src k g,true)=makeMan s src k g:=by
 unfold makeMan
 rw [if_pos]
 refine ⟨⟨h1,Decidable.byContradiction fun h=>?_⟩,h2⟩
 rw [mkMan_no h] at h2;cases h2

def checkP (x0:(List Int)) (x1:T56) (x2:T41):Int:=(if (validMan x1)=true then (if (validK x0)=true then (if x1.2.2.2.1=((List.length x0:Nat):Int) then (if (validP x2 x1.2.2.1 x1.2.2.2.1)=true then (if x2.1=x1.2.1 then (if (verH x0 x1.2.2.2.2.1 x2)=true then 0 else 3) else 2) else 1) else 1) else 1) else 1)
abbrev Q_impl_CheckPacket:=(fun (x0:(List Int)) (x1:T56) (x2:T41)=>Sh.fit s54 x0∧Sh.fit s56 x1∧Sh.fit s41 x2)
def S_impl_CheckPacket:Sum:={ fid:=88,dom:=[s54,s56,s41],cod:=[(.int 3)],dp:=true,fz:=false,pre:=fun x=>Q_impl_CheckPacket x.1 x.2.1 x.2.2.1,g:=fun x=>((checkP x.1 x.2.1 x.2.2.1),()) }
def S_impl_CheckPacket_tab:List (Nat×Sum):=[(87,S_impl_IsValidManifest),(132,S_impl_IsValidHashKey),(65,S_impl_IsValidPacket),(133,S_impl_VerifyHash)]
theorem S_impl_CheckPacket_ok:FnOK Tryz.prog 88 S_impl_CheckPacket:=by
 refine at_enter 46 (fun x=>⟨[(0,aG [.ro (.int 3) x.1]),(1,aG [cI x.2.1.1,cI x.2.1.2.1,cI x.2.1.2.2.1,cI x.2.1.2.2.2.1,.ro (.int 3) x.2.1.2.2.2.2.1,cI x.2.1.2.2.2.2.2]),(2,aG [cI x.2.2.1.1,.ro (.int 3) x.2.2.1.2.1,.ro (.int 3) x.2.2.1.2.2])],[]⟩) Tryz.func88 rfl (by kernel_rfl) (fun x=>rfl) ?_
 rintro w0 Z0 ⟨x0,x1,x2,u⟩ a w
 revert x0 x1 x2
 intro (x0:(List Int)) (x1:T56) (x2:T41) hpre hlens h
 replace hpre:Q_impl_CheckPacket x0 x1 x2:=hpre
 have hT:TabOK Tryz.prog S_impl_CheckPacket_tab:=(.cons S_impl_IsValidManifest_ok (.cons S_impl_IsValidHashKey_ok (.cons S_impl_IsValidPacket_ok (.cons S_impl_VerifyHash_ok .nil))))
 obtain ⟨hf0,hf1,hf2⟩:=hpre
 have hn0_1:List.length x0≤1073741824:=hf0.1
 have hn1_2:List.length x1.2.2.2.2.1≤1073741824:=hf1.2.2.2.2.1.1
 have hn2_3:List.length x2.2.1≤1073741824:=hf2.2.1.1
 have hn2_4:List.length x2.2.2≤1073741824:=hf2.2.2.1
 refine wp_seq ?_
 refine at_regq [{ ids:=[1] },{ ids:=[2] },{ ids:=[3] }] { ts:=[3,4,5,6],os:=[1,2,3] } [] gamOK hT h (by kernel_rfl) trivial fun a w h=>then_normal (wp_seq (wp_block (wp_seq ?_)))
 rcases Bool.eq_false_or_eq_true (!(validMan x1)) with h1 | h1
 ·have hzh1 : (validMan x1) = false := notT h1
  refine at_regq [{},{},{ hint:=some (aB true) }] { ts:=[3,4,5,6,7],os:=[1,2,3] } [Q_impl_IsValidManifest x1,(AV.p (.c (.v (.bool (!(validMan x1)))))=AV.p (.c (.v (.bool true))))] gamOK hT h (by kernel_rfl) ⟨(by exact hf1),hint_bool (h1),trivial⟩ fun a w h=>then_normal ?_
  refine at_test true h (by kernel_rfl) (fun hh=>?_) (fun hh=>nomatch hh)
  refine wp_seq ?_
  refine at_regq [] { ts:=[6],os:=[] } [] gamOK hT h (by kernel_rfl) trivial fun a w h=>then_normal (wp_ret (in_ret (then_ret ?_)))
  exact at_return (1,()) [] h (by kernel_rfl) trivial (congrArg (fun z=>(z,())) (show (1)=checkP x0 x1 x2 from by first | rfl | (unfold checkP;rw [if_neg (neT (notT h1))])))
 ·have hzh1 : (validMan x1) = true := notF h1
  rcases Bool.eq_false_or_eq_true (!(validK x0)) with h2 | h2
  ·have hzh2 : (validK x0) = false := notT h2
   refine at_regq [{},{},{ hint:=some (aB false) },{},{},{},{ hint:=some (aB true) }] { ts:=[3,4,5,6,7],os:=[1,2,3] } [Q_impl_IsValidManifest x1,(AV.p (.c (.v (.bool (!(validMan x1)))))=AV.p (.c (.v (.bool false)))),Q_impl_IsValidHashKey x0,(AV.p (.c (.v (.bool (!(validK x0)))))=AV.p (.c (.v (.bool true))))] gamOK hT h (by kernel_rfl) ⟨(by exact hf1),hint_bool (h1),(by exact hf0),hint_bool (h2),trivial⟩ fun a w h=>then_normal ?_
   refine at_test true h (by kernel_rfl) (fun hh=>?_) (fun hh=>nomatch hh)
   refine wp_seq ?_
   refine at_regq [] { ts:=[6],os:=[] } [] gamOK hT h (by kernel_rfl) trivial fun a w h=>then_normal (wp_ret (in_ret (then_ret ?_)))
   exact at_return (1,()) [] h (by kernel_rfl) trivial (congrArg (fun z=>(z,())) (show (1)=checkP x0 x1 x2 from by first | rfl | (unfold checkP;rw [if_pos (notF h1),if_neg (neT (notT h2))])))
  ·have hzh2 : (validK x0) = true := notF h2
   have hvh2:=validK_t (notF h2)
   by_cases h3:x1.2.2.2.1=((List.length x0:Nat):Int)
   ·refine at_regq [{}, {}, { hint := some (aB false) }, {}, {}, {}, { hint := some (aB false) }, {}, {}, {}, {}, {}, {}, {}, { hint := some (aB false) }] { ts := [3, 4, 5, 6, 7], os := [1, 2, 3] } [Q_impl_IsValidManifest x1, (AV.p (.c (.v (.bool (!(validMan x1))))) = AV.p (.c (.v (.bool false)))), Q_impl_IsValidHashKey x0, (AV.p (.c (.v (.bool (!(validK x0))))) = AV.p (.c (.v (.bool false)))), (AV.p (.c (.v (.bool (!decide (x1.2.2.2.1 = ((List.length x0 : Nat) : Int)))))) = AV.p (.c (.v (.bool false)))), Q_impl_IsValidPacket x2 x1.2.2.1 x1.2.2.2.1] gamOK hT h (by kernel_rfl) ⟨(by exact hf1), hint_bool (h1), (by exact hf0), hint_bool (h2), hint_bool (ndT h3), (by exact hf2), trivial⟩ fun a w h => then_normal ?_
    refine at_test (!(validP x2 x1.2.2.1 x1.2.2.2.1)) h (by kernel_rfl) (fun h4=>?_) (fun h4=>?_)
    ·replace h4 : (validP x2 x1.2.2.1 x1.2.2.2.1) = false := notT h4
     refine wp_seq ?_
     refine at_regq [] { ts:=[6],os:=[] } [] gamOK hT h (by kernel_rfl) trivial fun a w h=>then_normal (wp_ret (in_ret (then_ret ?_)))
     exact at_return (1,()) [] h (by kernel_rfl) trivial (congrArg (fun z=>(z,())) (show (1)=checkP x0 x1 x2 from by first | rfl | (unfold checkP;rw [if_pos (notF h1),if_pos (notF h2),if_pos h3,if_neg (neT h4)])))
    ·replace h4 : (validP x2 x1.2.2.1 x1.2.2.2.1) = true := notF h4
     have hvh4:=validP_n h4
     refine wp_seq ?_
     refine at_regq [] { ts:=[3,4,5,6,33],os:=[1,2,3] } [] gamOK hT h (by kernel_rfl) trivial fun a w h=>then_normal ?_
     refine at_test (!decide (x2.1=x1.2.1)) h (by kernel_rfl) (fun h5=>?_) (fun h5=>?_)
     ·replace h5 : ¬ (x2.1 = x1.2.1) := of_decide_eq_false (notT h5)
      refine wp_seq ?_
      refine at_regq [] { ts:=[6],os:=[] } [] gamOK hT h (by kernel_rfl) trivial fun a w h=>then_normal (wp_ret (in_ret (then_ret ?_)))
      exact at_return (2,()) [] h (by kernel_rfl) trivial (congrArg (fun z=>(z,())) (show (2)=checkP x0 x1 x2 from by first | rfl | (unfold checkP;rw [if_pos (notF h1),if_pos (notF h2),if_pos h3,if_pos h4,if_neg h5])))
     ·replace h5 : x2.1 = x1.2.1 := of_decide_eq_true (notF h5)
      refine wp_seq ?_
      refine at_regq [] { ts:=[6,39],os:=[] } [Q_impl_VerifyHash x0 x1.2.2.2.2.1 x2] gamOK hT h (by kernel_rfl) ⟨(by exact ⟨hf0,hf1.2.2.2.2.1,hf2⟩),trivial⟩ fun a w h=>then_normal ?_
      refine at_test (!(verH x0 x1.2.2.2.2.1 x2)) h (by kernel_rfl) (fun h6=>?_) (fun h6=>?_)
      ·replace h6 : (verH x0 x1.2.2.2.2.1 x2) = false := notT h6
       refine wp_seq ?_
       refine at_regq [] { ts:=[6],os:=[] } [] gamOK hT h (by kernel_rfl) trivial fun a w h=>then_normal (wp_ret (in_ret (then_ret ?_)))
       exact at_return (3,()) [] h (by kernel_rfl) trivial (congrArg (fun z=>(z,())) (show (3)=checkP x0 x1 x2 from by first | rfl | (unfold checkP;rw [if_pos (notF h1),if_pos (notF h2),if_pos h3,if_pos h4,if_pos h5,if_neg (neT h6)])))
      ·replace h6 : (verH x0 x1.2.2.2.2.1 x2) = true := notF h6
       refine wp_skip (in_normal (then_normal (wp_seq ?_)))
       refine at_regq [] { ts:=[6],os:=[] } [] gamOK hT h (by kernel_rfl) trivial fun a w h=>then_normal (wp_ret ?_)
       exact at_return (0,()) [] h (by kernel_rfl) trivial (congrArg (fun z=>(z,())) (show (0)=checkP x0 x1 x2 from by first | rfl | (unfold checkP;rw [if_pos (notF h1),if_pos (notF h2),if_pos h3,if_pos h4,if_pos h5,if_pos h6])))
   ·refine at_regq [{}, {}, { hint := some (aB false) }, {}, {}, {}, { hint := some (aB false) }, {}, {}, {}, {}, {}, {}, {}, { hint := some (aB true) }] { ts := [3, 4, 5, 6, 7], os := [1, 2, 3] } [Q_impl_IsValidManifest x1, (AV.p (.c (.v (.bool (!(validMan x1))))) = AV.p (.c (.v (.bool false)))), Q_impl_IsValidHashKey x0, (AV.p (.c (.v (.bool (!(validK x0))))) = AV.p (.c (.v (.bool false)))), (AV.p (.c (.v (.bool (!decide (x1.2.2.2.1 = ((List.length x0 : Nat) : Int)))))) = AV.p (.c (.v (.bool true))))] gamOK hT h (by kernel_rfl) ⟨(by exact hf1), hint_bool (h1), (by exact hf0), hint_bool (h2), hint_bool (ndF h3), trivial⟩ fun a w h => then_normal ?_
    refine at_test true h (by kernel_rfl) (fun hh=>?_) (fun hh=>nomatch hh)
    refine wp_seq ?_
    refine at_regq [] { ts:=[6],os:=[] } [] gamOK hT h (by kernel_rfl) trivial fun a w h=>then_normal (wp_ret (in_ret (then_ret ?_)))
    exact at_return (1,()) [] h (by kernel_rfl) trivial (congrArg (fun z=>(z,())) (show (1)=checkP x0 x1 x2 from by first | rfl | (unfold checkP;rw [if_pos (notF h1),if_pos (notF h2),if_neg h3])))

abbrev Q_spec_CheckPacket:=(fun (x0:(List Int)) (x1:T56) (x2:T41)=>Sh.fit s54 x0∧Sh.fit s56 x1∧Sh.fit s41 x2)
def S_spec_CheckPacket:Sum:={ fid:=91,dom:=[s54,s56,s41],cod:=[(.int 3)],dp:=true,fz:=false,pre:=fun x=>Q_spec_CheckPacket x.1 x.2.1 x.2.2.1,g:=fun x=>((checkP x.1 x.2.1 x.2.2.1),()) }
def S_spec_CheckPacket_tab:List (Nat×Sum):=[(90,S_spec_IsValidManifest),(137,S_spec_IsValidHashKey),(100,S_spec_IsValidPacket),(138,S_spec_VerifyHash)]
theorem S_spec_CheckPacket_ok:FnOK Tryz.prog 91 S_spec_CheckPacket:=by
 refine at_enter 46 (fun x=>⟨[(0,aG [.ro (.int 3) x.1]),(1,aG [cI x.2.1.1,cI x.2.1.2.1,cI x.2.1.2.2.1,cI x.2.1.2.2.2.1,.ro (.int 3) x.2.1.2.2.2.2.1,cI x.2.1.2.2.2.2.2]),(2,aG [cI x.2.2.1.1,.ro (.int 3) x.2.2.1.2.1,.ro (.int 3) x.2.2.1.2.2])],[]⟩) Tryz.func91 rfl (by kernel_rfl) (fun x=>rfl) ?_
 rintro w0 Z0 ⟨x0,x1,x2,u⟩ a w
 revert x0 x1 x2
 intro (x0:(List Int)) (x1:T56) (x2:T41) hpre hlens h
 replace hpre:Q_spec_CheckPacket x0 x1 x2:=hpre
 have hT:TabOK Tryz.prog S_spec_CheckPacket_tab:=(.cons S_spec_IsValidManifest_ok (.cons S_spec_IsValidHashKey_ok (.cons S_spec_IsValidPacket_ok (.cons S_spec_VerifyHash_ok .nil))))
 obtain ⟨hf0,hf1,hf2⟩:=hpre
 have hn0_1:List.length x0≤1073741824:=hf0.1
 have hn1_2:List.length x1.2.2.2.2.1≤1073741824:=hf1.2.2.2.2.1.1
 have hn2_3:List.length x2.2.1≤1073741824:=hf2.2.1.1
 have hn2_4:List.length x2.2.2≤1073741824:=hf2.2.2.1
 refine wp_seq ?_
 refine at_regq [{ ids:=[1] },{ ids:=[2] },{ ids:=[3] }] { ts:=[3,4,5,6],os:=[1,2,3] } [] gamOK hT h (by kernel_rfl) trivial fun a w h=>then_normal (wp_seq (wp_block (wp_seq ?_)))
 rcases Bool.eq_false_or_eq_true (!(validMan x1)) with h1 | h1
 ·have hzh1 : (validMan x1) = false := notT h1
  refine at_regq [{},{},{ hint:=some (aB true) }] { ts:=[3,4,5,6,7],os:=[1,2,3] } [Q_spec_IsValidManifest x1,(AV.p (.c (.v (.bool (!(validMan x1)))))=AV.p (.c (.v (.bool true))))] gamOK hT h (by kernel_rfl) ⟨(by exact hf1),hint_bool (h1),trivial⟩ fun a w h=>then_normal ?_
  refine at_test true h (by kernel_rfl) (fun hh=>?_) (fun hh=>nomatch hh)
  refine wp_seq ?_
  refine at_regq [] { ts:=[6],os:=[] } [] gamOK hT h (by kernel_rfl) trivial fun a w h=>then_normal (wp_ret (in_ret (then_ret ?_)))
  exact at_return (1,()) [] h (by kernel_rfl) trivial (congrArg (fun z=>(z,())) (show (1)=checkP x0 x1 x2 from by first | rfl | (unfold checkP;rw [if_neg (neT (notT h1))];done) | (unfold checkP;simp_all)))
 ·have hzh1 : (validMan x1) = true := notF h1
  rcases Bool.eq_false_or_eq_true (!(validK x0)) with h2 | h2
  ·have hzh2 : (validK x0) = false := notT h2
   refine at_regq [{},{},{ hint:=some (aB false) },{},{},{},{ hint:=some (aB true) }] { ts:=[3,4,5,6,7],os:=[1,2,3] } [Q_spec_IsValidManifest x1,(AV.p (.c (.v (.bool (!(validMan x1)))))=AV.p (.c (.v (.bool false)))),Q_spec_IsValidHashKey x0,(AV.p (.c (.v (.bool (!(validK x0)))))=AV.p (.c (.v (.bool true))))] gamOK hT h (by kernel_rfl) ⟨(by exact hf1),hint_bool (h1),(by exact hf0),hint_bool (h2),trivial⟩ fun a w h=>then_normal ?_
   refine at_test true h (by kernel_rfl) (fun hh=>?_) (fun hh=>nomatch hh)
   refine wp_seq ?_
   refine at_regq [] { ts:=[6],os:=[] } [] gamOK hT h (by kernel_rfl) trivial fun a w h=>then_normal (wp_ret (in_ret (then_ret ?_)))
   exact at_return (1,()) [] h (by kernel_rfl) trivial (congrArg (fun z=>(z,())) (show (1)=checkP x0 x1 x2 from by first | rfl | (unfold checkP;rw [if_pos (notF h1),if_neg (neT (notT h2))];done) | (unfold checkP;simp_all)))
  ·have hzh2 : (validK x0) = true := notF h2
   have hvh2:=validK_t (notF h2)
   by_cases h3:x1.2.2.2.1=((List.length x0:Nat):Int)
   ·refine at_regq [{}, {}, { hint := some (aB false) }, {}, {}, {}, { hint := some (aB false) }, {}, {}, {}, {}, {}, {}, {}, { hint := some (aB false) }] { ts := [3, 4, 5, 6, 7], os := [1, 2, 3] } [Q_spec_IsValidManifest x1, (AV.p (.c (.v (.bool (!(validMan x1))))) = AV.p (.c (.v (.bool false)))), Q_spec_IsValidHashKey x0, (AV.p (.c (.v (.bool (!(validK x0))))) = AV.p (.c (.v (.bool false)))), (AV.p (.c (.v (.bool (!decide (x1.2.2.2.1 = ((List.length x0 : Nat) : Int)))))) = AV.p (.c (.v (.bool false)))), Q_spec_IsValidPacket x2 x1.2.2.1 x1.2.2.2.1] gamOK hT h (by kernel_rfl) ⟨(by exact hf1), hint_bool (h1), (by exact hf0), hint_bool (h2), hint_bool (ndT h3), (by exact hf2), trivial⟩ fun a w h => then_normal ?_
    refine at_test (!(validP x2 x1.2.2.1 x1.2.2.2.1)) h (by kernel_rfl) (fun h4=>?_) (fun h4=>?_)
    ·replace h4 : (validP x2 x1.2.2.1 x1.2.2.2.1) = false := notT h4
     refine wp_seq ?_
     refine at_regq [] { ts:=[6],os:=[] } [] gamOK hT h (by kernel_rfl) trivial fun a w h=>then_normal (wp_ret (in_ret (then_ret ?_)))
     exact at_return (1,()) [] h (by kernel_rfl) trivial (congrArg (fun z=>(z,())) (show (1)=checkP x0 x1 x2 from by first | rfl | (unfold checkP;rw [if_pos (notF h1),if_pos (notF h2),if_pos h3,if_neg (neT h4)];done) | (unfold checkP;simp_all)))
    ·replace h4 : (validP x2 x1.2.2.1 x1.2.2.2.1) = true := notF h4
     have hvh4:=validP_n h4
     refine wp_seq ?_
     refine at_regq [] { ts:=[3,4,5,6,33],os:=[1,2,3] } [] gamOK hT h (by kernel_rfl) trivial fun a w h=>then_normal ?_
     refine at_test (!decide (x2.1=x1.2.1)) h (by kernel_rfl) (fun h5=>?_) (fun h5=>?_)
     ·replace h5 : ¬ (x2.1 = x1.2.1) := of_decide_eq_false (notT h5)
      refine wp_seq ?_
      refine at_regq [] { ts:=[6],os:=[] } [] gamOK hT h (by kernel_rfl) trivial fun a w h=>then_normal (wp_ret (in_ret (then_ret ?_)))
      exact at_return (2,()) [] h (by kernel_rfl) trivial (congrArg (fun z=>(z,())) (show (2)=checkP x0 x1 x2 from by first | rfl | (unfold checkP;rw [if_pos (notF h1),if_pos (notF h2),if_pos h3,if_pos h4,if_neg h5];done) | (unfold checkP;simp_all)))
     ·replace h5 : x2.1 = x1.2.1 := of_decide_eq_true (notF h5)
      refine wp_seq ?_
      refine at_regq [] { ts:=[6,39],os:=[] } [Q_spec_VerifyHash x0 x1.2.2.2.2.1 x2] gamOK hT h (by kernel_rfl) ⟨(by exact ⟨hf0,hf1.2.2.2.2.1,hf2⟩),trivial⟩ fun a w h=>then_normal ?_
      refine at_test (!(verH x0 x1.2.2.2.2.1 x2)) h (by kernel_rfl) (fun h6=>?_) (fun h6=>?_)
      ·replace h6 : (verH x0 x1.2.2.2.2.1 x2) = false := notT h6
       refine wp_seq ?_
       refine at_regq [] { ts:=[6],os:=[] } [] gamOK hT h (by kernel_rfl) trivial fun a w h=>then_normal (wp_ret (in_ret (then_ret ?_)))
       exact at_return (3,()) [] h (by kernel_rfl) trivial (congrArg (fun z=>(z,())) (show (3)=checkP x0 x1 x2 from by first | rfl | (unfold checkP;rw [if_pos (notF h1),if_pos (notF h2),if_pos h3,if_pos h4,if_pos h5,if_neg (neT h6)];done) | (unfold checkP;simp_all)))
      ·replace h6 : (verH x0 x1.2.2.2.2.1 x2) = true := notF h6
       refine wp_skip (in_normal (then_normal (wp_seq ?_)))
       refine at_regq [] { ts:=[6],os:=[] } [] gamOK hT h (by kernel_rfl) trivial fun a w h=>then_normal (wp_ret ?_)
       exact at_return (0,()) [] h (by kernel_rfl) trivial (congrArg (fun z=>(z,())) (show (0)=checkP x0 x1 x2 from by first | rfl | (unfold checkP;rw [if_pos (notF h1),if_pos (notF h2),if_pos h3,if_pos h4,if_pos h5,if_pos h6];done) | (unfold checkP;simp_all)))
   ·refine at_regq [{}, {}, { hint := some (aB false) }, {}, {}, {}, { hint := some (aB false) }, {}, {}, {}, {}, {}, {}, {}, { hint := some (aB true) }] { ts := [3, 4, 5, 6, 7], os := [1, 2, 3] } [Q_spec_IsValidManifest x1, (AV.p (.c (.v (.bool (!(validMan x1))))) = AV.p (.c (.v (.bool false)))), Q_spec_IsValidHashKey x0, (AV.p (.c (.v (.bool (!(validK x0))))) = AV.p (.c (.v (.bool false)))), (AV.p (.c (.v (.bool (!decide (x1.2.2.2.1 = ((List.length x0 : Nat) : Int)))))) = AV.p (.c (.v (.bool true))))] gamOK hT h (by kernel_rfl) ⟨(by exact hf1), hint_bool (h1), (by exact hf0), hint_bool (h2), hint_bool (ndF h3), trivial⟩ fun a w h => then_normal ?_
    refine at_test true h (by kernel_rfl) (fun hh=>?_) (fun hh=>nomatch hh)
    refine wp_seq ?_
    refine at_regq [] { ts:=[6],os:=[] } [] gamOK hT h (by kernel_rfl) trivial fun a w h=>then_normal (wp_ret (in_ret (then_ret ?_)))
    exact at_return (1,()) [] h (by kernel_rfl) trivial (congrArg (fun z=>(z,())) (show (1)=checkP x0 x1 x2 from by first | rfl | (unfold checkP;rw [if_pos (notF h1),if_pos (notF h2),if_neg h3];done) | (unfold checkP;simp_all)))
def filterP (k:(List Int)) (m:T56) (xs:List T41):List T41:=List.filter (fun p=>decide (checkP k m p=0)) xs

abbrev Q_spec_MakeManifest:=(fun (x0:Int) (x1:Int) (x2:(List Int)) (x3:T26)=>Sh.fit s54 x2∧Sh.fit s26 x3)
def S_spec_MakeManifest:Sum:={ fid:=156,dom:=[(.int 3),(.int 3),s54,s26],cod:=[s56,(.bool 4)],dp:=true,fz:=false,pre:=fun x=>Q_spec_MakeManifest x.1 x.2.1 x.2.2.1 x.2.2.2.1,g:=fun x=>((makeMan x.1 x.2.1 x.2.2.1 x.2.2.2.1).1,((makeMan x.1 x.2.1 x.2.2.1 x.2.2.2.1).2,())) }
def S_spec_MakeManifest_tab:List (Nat×Sum):=[(176,S_spec_IsValidKey),(72,S_spec_IsValidGeneration),(137,S_spec_IsValidHashKey),(8,S_spec_ColumnsOf),(178,S_spec_HashSymbols),(177,S_spec_SignManifest),(90,S_spec_IsValidManifest)]
theorem S_spec_MakeManifest_ok:FnOK Tryz.prog 156 S_spec_MakeManifest:=by
 refine at_enter 54 (fun x=>⟨[(0,aI x.1),(1,aI x.2.1),(2,aG [.ro (.int 3) x.2.2.1]),(3,aG [cI x.2.2.2.1.1,.ro s39 x.2.2.2.1.2])],[]⟩) Tryz.func156 rfl (by kernel_rfl) (fun x=>rfl) ?_
 rintro w0 Z0 ⟨x0,x1,x2,x3,u⟩ a w
 revert x0 x1 x2 x3
 intro (x0:Int) (x1:Int) (x2:(List Int)) (x3:T26) hpre hlens h
 replace hpre:Q_spec_MakeManifest x0 x1 x2 x3:=hpre
 have hT:TabOK Tryz.prog S_spec_MakeManifest_tab:=(.cons S_spec_IsValidKey_ok (.cons S_spec_IsValidGeneration_ok (.cons S_spec_IsValidHashKey_ok (.cons S_spec_ColumnsOf_ok (.cons S_spec_HashSymbols_ok (.cons S_spec_SignManifest_ok (.cons S_spec_IsValidManifest_ok .nil)))))))
 obtain ⟨hf2,hf3⟩:=hpre
 have hn2_1:List.length x2≤1073741824:=hf2.1
 have hn3_2:List.length x3.2≤1073741824:=hf3.2.1
 refine wp_seq ?_
 refine at_regq [{ ids:=[1] },{ ids:=[2] },{ ids:=[3] }] { ts:=[0,1,6,7,8,9],os:=[1,2,3] } [] gamOK hT h (by kernel_rfl) trivial fun a w h=>then_normal (wp_seq (wp_seq ?_))
 rcases Bool.eq_false_or_eq_true (!(isKey x0)) with h1 | h1
 ·have hzh1 : (isKey x0) = false := notT h1
  refine at_anyq [{},{},{ hint:=some (aB true) },{},{},{},{},{},{},{},{},{},{},{},{},{},{},{},{},{},{},{}] { ts:=[0,1,6,7,8,9,32],os:=[1,2,3] } [True,(AV.p (.c (.v (.bool (!(isKey x0)))))=AV.p (.c (.v (.bool true))))] gamOK hT mixed h (by kernel_rfl) ⟨trivial,hint_bool (h1),trivial⟩ fun a w h=>then_normal ?_
  refine at_test true h (by kernel_rfl) (fun hh=>?_) (fun hh=>nomatch hh)
  refine wp_seq ?_
  refine at_regq [] { ts:=[0,1,6,7,8,9],os:=[1,2,3] } [] gamOK hT h (by kernel_rfl) trivial fun a w h=>then_normal (wp_ret (then_ret ?_))
  exact at_return ((0,(0,(0,(0,(([]:List Int),0))))),(false,())) [] h (by kernel_rfl) trivial (congrArg (fun z=>(z.1,z.2,())) (show (((0,(0,(0,(0,(([]:List Int),0))))),false))=makeMan x0 x1 x2 x3 from by first | exact makeMan_no (by first | (left;assumption) | (right;left;assumption) | (right;right;left;assumption) | (right;right;right;intro e;have e1:=e.1;have e2:=e.2.1;have e3:=e.2.2;first | omega | (simp_all;done))) | exact makeMan_yes (by assumption) (by assumption)))
 ·have hzh1 : (isKey x0) = true := notF h1
  have hvh1:=isKey_t (notF h1)
  rcases Bool.eq_false_or_eq_true (!(validG x3)) with h2 | h2
  ·have hzh2 : (validG x3) = false := notT h2
   refine at_anyq [{},{},{ hint:=some (aB false) },{},{},{},{ hint:=some (aB true) },{},{},{},{},{},{},{},{},{},{},{},{},{},{},{}] { ts:=[0,1,6,7,8,9,32],os:=[1,2,3] } [True,(AV.p (.c (.v (.bool (!(isKey x0)))))=AV.p (.c (.v (.bool false)))),Q_spec_IsValidGeneration x3,(AV.p (.c (.v (.bool (!(validG x3)))))=AV.p (.c (.v (.bool true))))] gamOK hT mixed h (by kernel_rfl) ⟨trivial,hint_bool (h1),(by exact hf3),hint_bool (h2),trivial⟩ fun a w h=>then_normal ?_
   refine at_test true h (by kernel_rfl) (fun hh=>?_) (fun hh=>nomatch hh)
   refine wp_seq ?_
   refine at_regq [] { ts:=[0,1,6,7,8,9],os:=[1,2,3] } [] gamOK hT h (by kernel_rfl) trivial fun a w h=>then_normal (wp_ret (then_ret ?_))
   exact at_return ((0,(0,(0,(0,(([]:List Int),0))))),(false,())) [] h (by kernel_rfl) trivial (congrArg (fun z=>(z.1,z.2,())) (show (((0,(0,(0,(0,(([]:List Int),0))))),false))=makeMan x0 x1 x2 x3 from by first | exact makeMan_no (by first | (left;assumption) | (right;left;assumption) | (right;right;left;assumption) | (right;right;right;intro e;have e1:=e.1;have e2:=e.2.1;have e3:=e.2.2;first | omega | (simp_all;done))) | exact makeMan_yes (by assumption) (by assumption)))
  ·have hzh2 : (validG x3) = true := notF h2
   have hvh2:=validG_t (notF h2)
   rcases Bool.eq_false_or_eq_true (!(validK x2)) with h3 | h3
   ·have hzh3 : (validK x2) = false := notT h3
    refine at_anyq [{},{},{ hint:=some (aB false) },{},{},{},{ hint:=some (aB false) },{},{},{},{},{ hint:=some (aB true) },{},{},{},{},{},{},{},{},{},{}] { ts:=[0,1,6,7,8,9,32],os:=[1,2,3] } [True,(AV.p (.c (.v (.bool (!(isKey x0)))))=AV.p (.c (.v (.bool false)))),Q_spec_IsValidGeneration x3,(AV.p (.c (.v (.bool (!(validG x3)))))=AV.p (.c (.v (.bool false)))),Q_spec_IsValidHashKey x2,(AV.p (.c (.v (.bool (!(validK x2)))))=AV.p (.c (.v (.bool true))))] gamOK hT mixed h (by kernel_rfl) ⟨trivial,hint_bool (h1),(by exact hf3),hint_bool (h2),(by exact hf2),hint_bool (h3),trivial⟩ fun a w h=>then_normal ?_
    refine at_test true h (by kernel_rfl) (fun hh=>?_) (fun hh=>nomatch hh)
    refine wp_seq ?_
    refine at_regq [] { ts:=[0,1,6,7,8,9],os:=[1,2,3] } [] gamOK hT h (by kernel_rfl) trivial fun a w h=>then_normal (wp_ret (then_ret ?_))
    exact at_return ((0,(0,(0,(0,(([]:List Int),0))))),(false,())) [] h (by kernel_rfl) trivial (congrArg (fun z=>(z.1,z.2,())) (show (((0,(0,(0,(0,(([]:List Int),0))))),false))=makeMan x0 x1 x2 x3 from by first | exact makeMan_no (by first | (left;assumption) | (right;left;assumption) | (right;right;left;assumption) | (right;right;right;intro e;have e1:=e.1;have e2:=e.2.1;have e3:=e.2.2;first | omega | (simp_all;done))) | exact makeMan_yes (by assumption) (by assumption)))
   ·have hzh3 : (validK x2) = true := notF h3
    have hvh3:=validK_t (notF h3)
    refine at_anyq [{},{},{ hint:=some (aB false) },{},{},{},{ hint:=some (aB false) },{},{},{},{},{ hint:=some (aB false) },{},{},{},{},{},{},{},{},{},{}] { ts:=[0,1,6,7,8,9,32],os:=[1,2,3] } [True,(AV.p (.c (.v (.bool (!(isKey x0)))))=AV.p (.c (.v (.bool false)))),Q_spec_IsValidGeneration x3,(AV.p (.c (.v (.bool (!(validG x3)))))=AV.p (.c (.v (.bool false)))),Q_spec_IsValidHashKey x2,(AV.p (.c (.v (.bool (!(validK x2)))))=AV.p (.c (.v (.bool false)))),Q_spec_ColumnsOf x3.2] gamOK hT mixed h (by kernel_rfl) ⟨trivial,hint_bool (h1),(by exact hf3),hint_bool (h2),(by exact hf2),hint_bool (h3),(by exact hf3.2),trivial⟩ fun a w h=>then_normal ?_
    refine at_test (!decide ((colsOf x3.2)=((List.length x2:Nat):Int))) h (by kernel_rfl) (fun h4=>?_) (fun h4=>?_)
    ·replace h4 : ¬ ((colsOf x3.2) = ((List.length x2 : Nat) : Int)) := of_decide_eq_false (notT h4)
     refine wp_seq ?_
     refine at_regq [] { ts:=[0,1,6,7,8,9],os:=[1,2,3] } [] gamOK hT h (by kernel_rfl) trivial fun a w h=>then_normal (wp_ret (then_ret ?_))
     exact at_return ((0,(0,(0,(0,(([]:List Int),0))))),(false,())) [] h (by kernel_rfl) trivial (congrArg (fun z=>(z.1,z.2,())) (show (((0,(0,(0,(0,(([]:List Int),0))))),false))=makeMan x0 x1 x2 x3 from by first | exact makeMan_no (by first | (left;assumption) | (right;left;assumption) | (right;right;left;assumption) | (right;right;right;intro e;have e1:=e.1;have e2:=e.2.1;have e3:=e.2.2;first | omega | (simp_all;done))) | exact makeMan_yes (by assumption) (by assumption)))
    ·replace h4 : (colsOf x3.2) = ((List.length x2 : Nat) : Int) := of_decide_eq_true (notF h4)
     refine wp_skip (then_normal (wp_seq ?_))
     refine at_anyq [{},{},{},{},{},{},{},{},{},{},{},{},{ ids:=[4] },{},{ ids:=[5] },{ ids:=[6] },{}] { ts:=[8,9,10],os:=[3,5,6] } [Q_spec_ColumnsOf x3.2,Q_spec_HashSymbols x2 x3,Q_spec_SignManifest x0 (x1,(x3.1,(((List.length x3.2:Nat):Int),((colsOf x3.2),((hashSyms x2 x3),0)))))] gamOK hT mixed h (by kernel_rfl) ⟨(by exact hf3.2),(by exact ⟨hf2,hf3⟩),(by exact ⟨trivial,⟨hf3.1,⟨trivial,⟨trivial,⟨(Sh.fit_len (t:=39) (s:=.int 3) rfl (Nat.le_trans hashSyms_len (hf3).2.1)),trivial⟩⟩⟩⟩⟩),trivial⟩ fun a w h=>then_normal (wp_seq (wp_seq ?_))
     refine at_regq [] { ts:=[8,9,10,51],os:=[3,5,6] } [Q_spec_IsValidManifest (signMan x0 (x1,(x3.1,(((List.length x3.2:Nat):Int),((colsOf x3.2),((hashSyms x2 x3),0))))))] gamOK hT h (by kernel_rfl) ⟨(by exact (show Sh.fit s56 (signMan x0 (x1,(x3.1,(((List.length x3.2:Nat):Int),((colsOf x3.2),((hashSyms x2 x3),0)))))) from (⟨trivial,⟨hf3.1,⟨trivial,⟨trivial,⟨(Sh.fit_len (t:=39) (s:=.int 3) rfl (Nat.le_trans hashSyms_len (hf3).2.1)),trivial⟩⟩⟩⟩⟩))),trivial⟩ fun a w h=>then_normal ?_
     refine at_test (!(validMan (signMan x0 (x1,(x3.1,(((List.length x3.2:Nat):Int),((colsOf x3.2),((hashSyms x2 x3),0)))))))) h (by kernel_rfl) (fun h5=>?_) (fun h5=>?_)
     ·replace h5 : (validMan (signMan x0 (x1, (x3.1, (((List.length x3.2 : Nat) : Int), ((colsOf x3.2), ((hashSyms x2 x3), 0))))))) = false := notT h5
      refine wp_seq ?_
      refine at_regq [] { ts:=[8,9,10],os:=[3,5,6] } [] gamOK hT h (by kernel_rfl) trivial fun a w h=>then_normal (wp_ret (then_ret ?_))
      exact at_return ((0,(0,(0,(0,(([]:List Int),0))))),(false,())) [] h (by kernel_rfl) trivial (congrArg (fun z=>(z.1,z.2,())) (show (((0,(0,(0,(0,(([]:List Int),0))))),false))=makeMan x0 x1 x2 x3 from by first | exact makeMan_no (by first | (left;assumption) | (right;left;assumption) | (right;right;left;assumption) | (right;right;right;intro e;have e1:=e.1;have e2:=e.2.1;have e3:=e.2.2;first | omega | (simp_all;done))) | exact makeMan_yes (by assumption) (by assumption)))
     ·replace h5 : (validMan (signMan x0 (x1, (x3.1, (((List.length x3.2 : Nat) : Int), ((colsOf x3.2), ((hashSyms x2 x3), 0))))))) = true := notF h5
      refine wp_skip (then_normal (wp_seq ?_))
      refine at_regq [] { ts:=[8,9],os:=[3,5] } [] gamOK hT h (by kernel_rfl) trivial fun a w h=>then_normal (wp_ret ?_)
      exact at_return ((signMan x0 (x1,(x3.1,(((List.length x3.2:Nat):Int),((colsOf x3.2),((hashSyms x2 x3),0)))))),(true,())) [] h (by kernel_rfl) trivial (congrArg (fun z=>(z.1,z.2,())) (show (((signMan x0 (x1,(x3.1,(((List.length x3.2:Nat):Int),((colsOf x3.2),((hashSyms x2 x3),0)))))),true))=makeMan x0 x1 x2 x3 from by first | exact makeMan_no (by first | (left;assumption) | (right;left;assumption) | (right;right;left;assumption) | (right;right;right;intro e;have e1:=e.1;have e2:=e.2.1;have e3:=e.2.2;first | omega | (simp_all;done))) | exact makeMan_yes (by assumption) (by assumption)))

def cofs (ps:List T41):List (List Int):=ps.map fun p=>p.2.1
def okPkt (r:T35) (p:T41):Bool:=validP p r.2.1 r.2.2.1 && decide (p.1=r.1)
def recB (r:T35) (i:Nat):Bool:=okPkt r (r.2.2.2.1.getD i (0,([],[]))) && LA.insOk (cofs r.2.2.2.1) i
def validR (r:T35):Bool:=(isFmt r.1 r.2.1 r.2.2.1 && (decide (List.length r.2.2.2.1≤8) && inR r.2.2.2.2 0 1000000000000)) && allN (recB r) (List.length r.2.2.2.1)
def validLg (x0:(List T102)):Bool:=(if (allN (fun i=>(inR (x0.getD i (0,(0,0))).1 0 7 && inR (x0.getD i (0,(0,0))).2.1 0 1000000000000) && !(List.any (List.take i x0) fun e=>Sh.eqB s102 (x0.getD i (0,(0,0))) e)) (List.length x0))=true then decide (((List.length x0:Nat):Int)≤40) else false)
abbrev Q_impl_IsValidLedger:=(fun (x0:(List T102))=>Sh.fit s52 x0)
def S_impl_IsValidLedger:Sum:={ fid:=27,dom:=[s52],cod:=[(.bool 4)],dp:=true,fz:=false,pre:=fun x=>Q_impl_IsValidLedger x.1,g:=fun x=>((validLg x.1),()) }
def S_impl_IsValidLedger_tab:List (Nat×Sum):=[(59,S_impl_InRange),(58,S_slices_Contains_S_impl_Proof_impl_Proof_)]
theorem S_impl_IsValidLedger_ok:FnOK Tryz.prog 27 S_impl_IsValidLedger:=by
 refine at_enter 36 (fun x=>⟨[(0,aG [.ro s102 x.1])],[]⟩) Tryz.func27 rfl (by kernel_rfl) (fun x=>rfl) ?_
 rintro w0 Z0 ⟨x0,u⟩ a w
 revert x0
 intro (x0:(List T102)) hpre hlens h
 replace hpre:Q_impl_IsValidLedger x0:=hpre
 have hT:TabOK Tryz.prog S_impl_IsValidLedger_tab:=(.cons S_impl_InRange_ok (.cons S_slices_Contains_S_impl_Proof_impl_Proof__ok .nil))
 have hf0:Sh.fit s52 x0:=hpre
 have hn0_1:List.length x0≤1073741824:=hf0.1
 refine wp_seq ?_
 refine at_regq [{ ids:=[1] }] { ts:=[1,2],os:=[1] } [] gamOK hT h (by kernel_rfl) trivial fun a w h=>then_normal (wp_seq (wp_seq ?_))
 refine at_regq [] { ts:=[1,2,6,7,8],os:=[1] } [] gamOK hT h (by kernel_rfl) trivial fun a w h=>then_normal (wp_block ?_)
 replace h:=at_out (σ':=⟨[(1,aP 1 0),(2,aB false),(6,aF s102 x0),(7,aI ((List.length x0:Nat):Int)),(8,aI 0)],[(1,oX 52 [.ro s102 x0])]⟩) { ts:=[1,2,6,7,8],os:=[1] } h (by kernel_rfl)
 refine at_loop (fun i:Nat=>(⟨[(1,aP 1 0),(2,aB false),(6,aF s102 x0),(7,aI ((List.length x0:Nat):Int)),(8,aI ((i:Nat):Int))],[(1,oX 52 [.ro s102 x0])]⟩:St)) (fun i=>(i≤(List.length x0)∧allN (fun i=>(inR (x0.getD i (0,(0,0))).1 0 7 && inR (x0.getD i (0,(0,0))).2.1 0 1000000000000) && !(List.any (List.take i x0) fun e=>Sh.eqB s102 (x0.getD i (0,(0,0))) e)) i=true)) (fun i=>(List.length x0) - i) (0) h (st_congr1 (fun (d0:Int)=>(⟨[(1,aP 1 0),(2,aB false),(6,aF s102 x0),(7,aI ((List.length x0:Nat):Int)),(8,aI d0)],[(1,oX 52 [.ro s102 x0])]⟩:St)) (show (0:Int)=(((0):Nat):Int) from by first | with_reducible rfl | (rfl) | rfl)) (by exact ⟨Nat.zero_le _,rfl⟩) ?_
 intro i a w hok0 h
 refine wp_seq ?_
 refine at_regq [] { ts:=[1,2,6,7,8,9],os:=[1] } [] gamOK hT h (by kernel_rfl) trivial fun a w h=>then_normal (wp_seq ?_)
 refine at_test (decide (((i:Nat):Int) < ((List.length x0:Nat):Int))) h (by kernel_rfl) (fun h1=>?_) (fun h1=>?_)
 ·replace h1 : ((i : Nat) : Int) < ((List.length x0 : Nat) : Int) := of_decide_eq_true h1
  refine wp_skip (then_normal (wp_seq (wp_block (wp_seq ?_))))
  refine at_regq [{},{},{},{ ids:=[2] }] { ts:=[1,2,3,4,6,7,8],os:=[1,2] } [(0:Int)≤((i:Nat):Int)∧((i:Nat):Int) < ((List.length x0:Nat):Int)] gamOK hT h (by kernel_rfl) ⟨(by refine ⟨?_,?_⟩<;>(first | omega | (simp only [lsA];omega) | (simp<;>omega))),trivial⟩ fun a w h=>then_normal (wp_seq ?_)
  rcases Bool.eq_false_or_eq_true (!(inR (x0.getD i (0,(0,0))).1 0 7)) with h2 | h2
  ·have hzh2 : (inR (x0.getD i (0, (0, 0))).1 0 7) = false := notT h2
   have hvh2:=inR_f (notT h2)
   refine at_anyq [{},{},{},{ hint:=some (aB true) },{},{},{},{},{},{},{},{},{},{},{},{},{},{}] { ts:=[1,2,6,7,8,18,19,20,21,24,25,26,27,28,29,30],os:=[1] } [True,(AV.p (.c (.v (.bool (!(inR (x0.getD i (0,(0,0))).1 0 7)))))=AV.p (.c (.v (.bool true))))] gamOK hT mixed h (by kernel_rfl) ⟨trivial,hint_bool (h2),trivial⟩ fun a w h=>then_normal ?_
   refine at_test true h (by kernel_rfl) (fun hh=>?_) (fun hh=>nomatch hh)
   refine wp_seq ?_
   refine at_regq [] { ts:=[1,2,6,7,8,18,19,20,21,24,25,26,27,28,29],os:=[1] } [] gamOK hT h (by kernel_rfl) trivial fun a w h=>then_normal (wp_ret (in_ret (then_ret ?_)))
   have hs3:(allN (fun i=>(inR (x0.getD i (0,(0,0))).1 0 7 && inR (x0.getD i (0,(0,0))).2.1 0 1000000000000) && !(List.any (List.take i x0) fun e=>Sh.eqB s102 (x0.getD i (0,(0,0))) e)) (List.length x0))=false:=by exact allN_at (i:=i) (by omega) (by (show ((inR _ 0 7 && inR _ 0 1000000000000) && !(List.any _ _))=false;first | (rw [show inR (x0.getD i (0,(0,0))).1 0 7=false by assumption];rfl) | (rw [show inR (x0.getD i (0,(0,0))).2.1 0 1000000000000=false by assumption,Bool.and_false];rfl) | (rw [Bool.and_eq_false_iff];right;simp only [Bool.not_eq_false'];assumption)))
   refine then_ret (in_ret (then_ret ?_))
   exact at_return (false,()) [] h (by kernel_rfl) trivial (congrArg (fun z=>(z,())) (show (false)=validLg x0 from by first | rfl | (unfold validLg;rw [if_neg (neT hs3)])))
  ·have hzh2 : (inR (x0.getD i (0, (0, 0))).1 0 7) = true := notF h2
   have hvh2:=inR_t (notF h2)
   rcases Bool.eq_false_or_eq_true (!(inR (x0.getD i (0,(0,0))).2.1 0 1000000000000)) with h4 | h4
   ·have hzh4 : (inR (x0.getD i (0, (0, 0))).2.1 0 1000000000000) = false := notT h4
    have hvh4:=inR_f (notT h4)
    refine at_anyq [{},{},{},{ hint:=some (aB false) },{},{},{},{},{ hint:=some (aB true) },{},{},{},{},{},{},{},{},{}] { ts:=[1,2,6,7,8,18,19,20,21,24,25,26,27,28,29,30],os:=[1,2] } [True,(AV.p (.c (.v (.bool (!(inR (x0.getD i (0,(0,0))).1 0 7)))))=AV.p (.c (.v (.bool false)))),True,(AV.p (.c (.v (.bool (!(inR (x0.getD i (0,(0,0))).2.1 0 1000000000000)))))=AV.p (.c (.v (.bool true))))] gamOK hT mixed h (by kernel_rfl) ⟨trivial,hint_bool (h2),trivial,hint_bool (h4),trivial⟩ fun a w h=>then_normal ?_
    refine at_test true h (by kernel_rfl) (fun hh=>?_) (fun hh=>nomatch hh)
    refine wp_seq ?_
    refine at_regq [] { ts:=[1,2,6,7,8,18,19,20,21,24,25,26,27,28,29],os:=[1,2] } [] gamOK hT h (by kernel_rfl) trivial fun a w h=>then_normal (wp_ret (in_ret (then_ret ?_)))
    have hs5:(allN (fun i=>(inR (x0.getD i (0,(0,0))).1 0 7 && inR (x0.getD i (0,(0,0))).2.1 0 1000000000000) && !(List.any (List.take i x0) fun e=>Sh.eqB s102 (x0.getD i (0,(0,0))) e)) (List.length x0))=false:=by exact allN_at (i:=i) (by omega) (by (show ((inR _ 0 7 && inR _ 0 1000000000000) && !(List.any _ _))=false;first | (rw [show inR (x0.getD i (0,(0,0))).1 0 7=false by assumption];rfl) | (rw [show inR (x0.getD i (0,(0,0))).2.1 0 1000000000000=false by assumption,Bool.and_false];rfl) | (rw [Bool.and_eq_false_iff];right;simp only [Bool.not_eq_false'];assumption)))
    refine then_ret (in_ret (then_ret ?_))
    exact at_return (false,()) [] h (by kernel_rfl) trivial (congrArg (fun z=>(z,())) (show (false)=validLg x0 from by first | rfl | (unfold validLg;rw [if_neg (neT hs5)])))
   ·have hzh4 : (inR (x0.getD i (0, (0, 0))).2.1 0 1000000000000) = true := notF h4
    have hvh4:=inR_t (notF h4)
    refine at_anyq [{},{},{},{ hint:=some (aB false) },{},{},{},{},{ hint:=some (aB false) },{},{},{},{},{},{},{},{},{}] { ts:=[1,2,6,7,8,18,19,20,21,24,25,26,27,28,29,30],os:=[1,2] } [True,(AV.p (.c (.v (.bool (!(inR (x0.getD i (0,(0,0))).1 0 7)))))=AV.p (.c (.v (.bool false)))),True,(AV.p (.c (.v (.bool (!(inR (x0.getD i (0,(0,0))).2.1 0 1000000000000)))))=AV.p (.c (.v (.bool false)))),(0:Int)≤0∧0≤((i:Nat):Int)∧((i:Nat):Int)≤((List.length x0:Nat):Int),True] gamOK hT mixed h (by kernel_rfl) ⟨trivial,hint_bool (h2),trivial,hint_bool (h4),(by refine ⟨?_,?_,?_⟩<;>(first | omega | (simp only [lsA];omega) | (simp<;>omega))),trivial,trivial⟩ fun a w h=>then_normal ?_
    refine at_test ((D_slices_Contains_S_impl_Proof_impl_Proof_ (List.drop 0 (List.take i x0)) (x0.getD i (0,(0,0))))) h (by kernel_rfl) (fun h6=>?_) (fun h6=>?_)
    ·refine wp_seq ?_
     refine at_regq [] { ts:=[1,2,6,7,8,18,19,20,21,24,25,26,27,28,29],os:=[1,2] } [] gamOK hT h (by kernel_rfl) trivial fun a w h=>then_normal (wp_ret (in_ret (then_ret ?_)))
     have hs7:(allN (fun i=>(inR (x0.getD i (0,(0,0))).1 0 7 && inR (x0.getD i (0,(0,0))).2.1 0 1000000000000) && !(List.any (List.take i x0) fun e=>Sh.eqB s102 (x0.getD i (0,(0,0))) e)) (List.length x0))=false:=by exact allN_at (i:=i) (by omega) (by (show ((inR _ 0 7 && inR _ 0 1000000000000) && !(List.any _ _))=false;first | (rw [show inR (x0.getD i (0,(0,0))).1 0 7=false by assumption];rfl) | (rw [show inR (x0.getD i (0,(0,0))).2.1 0 1000000000000=false by assumption,Bool.and_false];rfl) | (rw [Bool.and_eq_false_iff];right;simp only [Bool.not_eq_false'];assumption)))
     refine then_ret (in_ret (then_ret ?_))
     exact at_return (false,()) [] h (by kernel_rfl) trivial (congrArg (fun z=>(z,())) (show (false)=validLg x0 from by first | rfl | (unfold validLg;rw [if_neg (neT hs7)])))
    ·refine wp_skip (in_normal (then_normal ?_))
     refine at_regq [{ nw:=true }] { ts:=[1,2,6,7,8,18,19,20,21,24,25,26,27,28,29],os:=[1,2] } [I64 (((i:Nat):Int)+1)] gamOK hT h (by kernel_rfl) ⟨⟨by first | omega | (simp only [lsA];omega) | (simp<;>omega),by first | omega | (simp only [lsA];omega) | (simp<;>omega)⟩,trivial⟩ fun a w h=>?_
     replace h:=at_out (σ':=⟨[(1,aP 1 0),(2,aB false),(6,aF s102 x0),(7,aI ((List.length x0:Nat):Int)),(8,aI (((i:Nat):Int)+1))],[(1,oX 52 [.ro s102 x0])]⟩) { ts:=[1,2,6,7,8],os:=[1] } h (by kernel_rfl)
     exact ⟨i+1,at_eq h (st_congr1 (fun (d0:Int)=>(⟨[(1,aP 1 0),(2,aB false),(6,aF s102 x0),(7,aI ((List.length x0:Nat):Int)),(8,aI d0)],[(1,oX 52 [.ro s102 x0])]⟩:St)) (show (((i:Nat):Int)+1:Int)=(((i+1):Nat):Int) from by first | with_reducible rfl | (omega) | rfl)),(by exact ⟨by omega,allN_succ hok0.2 (by (show ((inR _ 0 7 && inR _ 0 1000000000000) && !(List.any _ _))=true;rw [show inR (x0.getD i (0,(0,0))).1 0 7=true by assumption,show inR (x0.getD i (0,(0,0))).2.1 0 1000000000000=true by assumption];simp only [Bool.true_and,Bool.not_eq_true'];assumption))⟩),(by omega)⟩
 ·replace h1 : ¬ (((i : Nat) : Int) < ((List.length x0 : Nat) : Int)) := of_decide_eq_false h1
  refine wp_exit (then_exit ?_)
  have hs8:(allN (fun i=>(inR (x0.getD i (0,(0,0))).1 0 7 && inR (x0.getD i (0,(0,0))).2.1 0 1000000000000) && !(List.any (List.take i x0) fun e=>Sh.eqB s102 (x0.getD i (0,(0,0))) e)) (List.length x0))=true:=by exact allN_eq (by omega) hok0.1 hok0.2
  refine then_exit (in_hit (then_normal (wp_seq ?_)))
  refine at_regq [] { ts:=[2],os:=[] } [] gamOK hT h (by kernel_rfl) trivial fun a w h=>then_normal (wp_ret ?_)
  exact at_return (decide (((List.length x0:Nat):Int)≤40),()) [] h (by kernel_rfl) trivial (congrArg (fun z=>(z,())) (show (decide (((List.length x0:Nat):Int)≤40))=validLg x0 from by first | rfl | (unfold validLg;rw [if_pos hs8])))

abbrev Q_spec_IsValidLedger:=(fun (x0:(List T102))=>Sh.fit s52 x0)
def S_spec_IsValidLedger:Sum:={ fid:=51,dom:=[s52],cod:=[(.bool 4)],dp:=true,fz:=false,pre:=fun x=>Q_spec_IsValidLedger x.1,g:=fun x=>((validLg x.1),()) }
def S_spec_IsValidLedger_tab:List (Nat×Sum):=[(92,S_spec_l1In),(83,S_spec_l29Has)]
theorem S_spec_IsValidLedger_ok:FnOK Tryz.prog 51 S_spec_IsValidLedger:=by
 refine at_enter 39 (fun x=>⟨[(0,aG [.ro s102 x.1])],[]⟩) Tryz.func51 rfl (by kernel_rfl) (fun x=>rfl) ?_
 rintro w0 Z0 ⟨x0,u⟩ a w
 revert x0
 intro (x0:(List T102)) hpre hlens h
 replace hpre:Q_spec_IsValidLedger x0:=hpre
 have hT:TabOK Tryz.prog S_spec_IsValidLedger_tab:=(.cons S_spec_l1In_ok (.cons S_spec_l29Has_ok .nil))
 have hf0:Sh.fit s52 x0:=hpre
 have hn0_1:List.length x0≤1073741824:=hf0.1
 refine wp_seq ?_
 refine at_regq [{ ids:=[1] }] { ts:=[1,2],os:=[1] } [] gamOK hT h (by kernel_rfl) trivial fun a w h=>then_normal (wp_seq (wp_seq ?_))
 refine at_regq [] { ts:=[1,2,3],os:=[1] } [] gamOK hT h (by kernel_rfl) trivial fun a w h=>then_normal (wp_block ?_)
 replace h:=at_out (σ':=⟨[(1,aP 1 0),(2,aB false),(3,aI 0)],[(1,oX 52 [.ro s102 x0])]⟩) { ts:=[1,2,3],os:=[1] } h (by kernel_rfl)
 refine at_loop (fun i:Nat=>(⟨[(1,aP 1 0),(2,aB false),(3,aI ((i:Nat):Int))],[(1,oX 52 [.ro s102 x0])]⟩:St)) (fun i=>(i≤(List.length x0)∧allN (fun i=>(inR (x0.getD i (0,(0,0))).1 0 7 && inR (x0.getD i (0,(0,0))).2.1 0 1000000000000) && !(List.any (List.take i x0) fun e=>Sh.eqB s102 (x0.getD i (0,(0,0))) e)) i=true)) (fun i=>(List.length x0) - i) (0) h (st_congr1 (fun (d0:Int)=>(⟨[(1,aP 1 0),(2,aB false),(3,aI d0)],[(1,oX 52 [.ro s102 x0])]⟩:St)) (show (0:Int)=(((0):Nat):Int) from by first | with_reducible rfl | (rfl) | rfl)) (by exact ⟨Nat.zero_le _,rfl⟩) ?_
 intro i a w hok0 h
 refine wp_seq (wp_seq ?_)
 refine at_regq [] { ts:=[1,2,3,9],os:=[1] } [] gamOK hT h (by kernel_rfl) trivial fun a w h=>then_normal ?_
 refine at_test (decide (((i:Nat):Int) < ((List.length x0:Nat):Int))) h (by kernel_rfl) (fun h1=>?_) (fun h1=>?_)
 ·replace h1 : ((i : Nat) : Int) < ((List.length x0 : Nat) : Int) := of_decide_eq_true h1
  refine wp_skip (then_normal (wp_seq (wp_block (wp_seq ?_))))
  refine at_regq [{},{},{},{},{},{ ids:=[2] }] { ts:=[1,2,3,4],os:=[1,2] } [(0:Int)≤((i:Nat):Int)∧((i:Nat):Int) < ((List.length x0:Nat):Int)] gamOK hT h (by kernel_rfl) ⟨(by refine ⟨?_,?_⟩<;>(first | omega | (simp only [lsA];omega) | (simp<;>omega))),trivial⟩ fun a w h=>then_normal (wp_seq ?_)
  rcases Bool.eq_false_or_eq_true (!(inR (x0.getD i (0,(0,0))).1 0 7)) with h2 | h2
  ·have hzh2 : (inR (x0.getD i (0, (0, 0))).1 0 7) = false := notT h2
   have hvh2:=inR_f (notT h2)
   refine at_anyq [{},{},{},{ hint:=some (aB true) },{},{},{},{},{},{},{},{},{},{},{},{},{},{}] { ts:=[1,2,3,22,23,24,25,28,29,30,31,32,33,34],os:=[1] } [True,(AV.p (.c (.v (.bool (!(inR (x0.getD i (0,(0,0))).1 0 7)))))=AV.p (.c (.v (.bool true))))] gamOK hT mixed h (by kernel_rfl) ⟨trivial,hint_bool (h2),trivial⟩ fun a w h=>then_normal ?_
   refine at_test true h (by kernel_rfl) (fun hh=>?_) (fun hh=>nomatch hh)
   refine wp_seq ?_
   refine at_regq [] { ts:=[1,2,3,22,23,24,25,28,29,30,31,32,33],os:=[1] } [] gamOK hT h (by kernel_rfl) trivial fun a w h=>then_normal (wp_ret (in_ret (then_ret ?_)))
   have hs3:(allN (fun i=>(inR (x0.getD i (0,(0,0))).1 0 7 && inR (x0.getD i (0,(0,0))).2.1 0 1000000000000) && !(List.any (List.take i x0) fun e=>Sh.eqB s102 (x0.getD i (0,(0,0))) e)) (List.length x0))=false:=by exact allN_at (i:=i) (by omega) (by (show ((inR _ 0 7 && inR _ 0 1000000000000) && !(List.any _ _))=false;first | (rw [show inR (x0.getD i (0,(0,0))).1 0 7=false by assumption];rfl) | (rw [show inR (x0.getD i (0,(0,0))).2.1 0 1000000000000=false by assumption,Bool.and_false];rfl) | (rw [Bool.and_eq_false_iff];right;simp only [Bool.not_eq_false'];assumption)))
   refine then_ret (in_ret (then_ret ?_))
   exact at_return (false,()) [] h (by kernel_rfl) trivial (congrArg (fun z=>(z,())) (show (false)=validLg x0 from by first | rfl | (unfold validLg;rw [if_neg (neT hs3)];done) | (unfold validLg;simp_all)))
  ·have hzh2 : (inR (x0.getD i (0, (0, 0))).1 0 7) = true := notF h2
   have hvh2:=inR_t (notF h2)
   rcases Bool.eq_false_or_eq_true (!(inR (x0.getD i (0,(0,0))).2.1 0 1000000000000)) with h4 | h4
   ·have hzh4 : (inR (x0.getD i (0, (0, 0))).2.1 0 1000000000000) = false := notT h4
    have hvh4:=inR_f (notT h4)
    refine at_anyq [{},{},{},{ hint:=some (aB false) },{},{},{},{},{ hint:=some (aB true) },{},{},{},{},{},{},{},{},{}] { ts:=[1,2,3,22,23,24,25,28,29,30,31,32,33,34],os:=[1,2] } [True,(AV.p (.c (.v (.bool (!(inR (x0.getD i (0,(0,0))).1 0 7)))))=AV.p (.c (.v (.bool false)))),True,(AV.p (.c (.v (.bool (!(inR (x0.getD i (0,(0,0))).2.1 0 1000000000000)))))=AV.p (.c (.v (.bool true))))] gamOK hT mixed h (by kernel_rfl) ⟨trivial,hint_bool (h2),trivial,hint_bool (h4),trivial⟩ fun a w h=>then_normal ?_
    refine at_test true h (by kernel_rfl) (fun hh=>?_) (fun hh=>nomatch hh)
    refine wp_seq ?_
    refine at_regq [] { ts:=[1,2,3,22,23,24,25,28,29,30,31,32,33],os:=[1,2] } [] gamOK hT h (by kernel_rfl) trivial fun a w h=>then_normal (wp_ret (in_ret (then_ret ?_)))
    have hs5:(allN (fun i=>(inR (x0.getD i (0,(0,0))).1 0 7 && inR (x0.getD i (0,(0,0))).2.1 0 1000000000000) && !(List.any (List.take i x0) fun e=>Sh.eqB s102 (x0.getD i (0,(0,0))) e)) (List.length x0))=false:=by exact allN_at (i:=i) (by omega) (by (show ((inR _ 0 7 && inR _ 0 1000000000000) && !(List.any _ _))=false;first | (rw [show inR (x0.getD i (0,(0,0))).1 0 7=false by assumption];rfl) | (rw [show inR (x0.getD i (0,(0,0))).2.1 0 1000000000000=false by assumption,Bool.and_false];rfl) | (rw [Bool.and_eq_false_iff];right;simp only [Bool.not_eq_false'];assumption)))
    refine then_ret (in_ret (then_ret ?_))
    exact at_return (false,()) [] h (by kernel_rfl) trivial (congrArg (fun z=>(z,())) (show (false)=validLg x0 from by first | rfl | (unfold validLg;rw [if_neg (neT hs5)];done) | (unfold validLg;simp_all)))
   ·have hzh4 : (inR (x0.getD i (0, (0, 0))).2.1 0 1000000000000) = true := notF h4
    have hvh4:=inR_t (notF h4)
    refine at_anyq [{},{},{},{ hint:=some (aB false) },{},{},{},{},{ hint:=some (aB false) },{},{},{},{},{},{},{},{},{}] { ts:=[1,2,3,22,23,24,25,28,29,30,31,32,33,34],os:=[1,2] } [True,(AV.p (.c (.v (.bool (!(inR (x0.getD i (0,(0,0))).1 0 7)))))=AV.p (.c (.v (.bool false)))),True,(AV.p (.c (.v (.bool (!(inR (x0.getD i (0,(0,0))).2.1 0 1000000000000)))))=AV.p (.c (.v (.bool false)))),(0:Int)≤0∧0≤((i:Nat):Int)∧((i:Nat):Int)≤((List.length x0:Nat):Int),True] gamOK hT mixed h (by kernel_rfl) ⟨trivial,hint_bool (h2),trivial,hint_bool (h4),(by refine ⟨?_,?_,?_⟩<;>(first | omega | (simp only [lsA];omega) | (simp<;>omega))),trivial,trivial⟩ fun a w h=>then_normal ?_
    refine at_test ((D_spec_l29Has (List.drop 0 (List.take i x0)) (x0.getD i (0,(0,0))))) h (by kernel_rfl) (fun h6=>?_) (fun h6=>?_)
    ·refine wp_seq ?_
     refine at_regq [] { ts:=[1,2,3,22,23,24,25,28,29,30,31,32,33],os:=[1,2] } [] gamOK hT h (by kernel_rfl) trivial fun a w h=>then_normal (wp_ret (in_ret (then_ret ?_)))
     have hs7:(allN (fun i=>(inR (x0.getD i (0,(0,0))).1 0 7 && inR (x0.getD i (0,(0,0))).2.1 0 1000000000000) && !(List.any (List.take i x0) fun e=>Sh.eqB s102 (x0.getD i (0,(0,0))) e)) (List.length x0))=false:=by exact allN_at (i:=i) (by omega) (by (show ((inR _ 0 7 && inR _ 0 1000000000000) && !(List.any _ _))=false;first | (rw [show inR (x0.getD i (0,(0,0))).1 0 7=false by assumption];rfl) | (rw [show inR (x0.getD i (0,(0,0))).2.1 0 1000000000000=false by assumption,Bool.and_false];rfl) | (rw [Bool.and_eq_false_iff];right;simp only [Bool.not_eq_false'];assumption)))
     refine then_ret (in_ret (then_ret ?_))
     exact at_return (false,()) [] h (by kernel_rfl) trivial (congrArg (fun z=>(z,())) (show (false)=validLg x0 from by first | rfl | (unfold validLg;rw [if_neg (neT hs7)];done) | (unfold validLg;simp_all)))
    ·refine wp_skip (in_normal (then_normal ?_))
     refine at_regq [{},{ nw:=true }] { ts:=[1,2,3,22,23,24,25,28,29,30,31,32,33],os:=[1,2] } [I64 (((i:Nat):Int)+1)] gamOK hT h (by kernel_rfl) ⟨⟨by first | omega | (simp only [lsA];omega) | (simp<;>omega),by first | omega | (simp only [lsA];omega) | (simp<;>omega)⟩,trivial⟩ fun a w h=>?_
     replace h:=at_out (σ':=⟨[(1,aP 1 0),(2,aB false),(3,aI (((i:Nat):Int)+1))],[(1,oX 52 [.ro s102 x0])]⟩) { ts:=[1,2,3],os:=[1] } h (by kernel_rfl)
     exact ⟨i+1,at_eq h (st_congr1 (fun (d0:Int)=>(⟨[(1,aP 1 0),(2,aB false),(3,aI d0)],[(1,oX 52 [.ro s102 x0])]⟩:St)) (show (((i:Nat):Int)+1:Int)=(((i+1):Nat):Int) from by first | with_reducible rfl | (omega) | rfl)),(by exact ⟨by omega,allN_succ hok0.2 (by (show ((inR _ 0 7 && inR _ 0 1000000000000) && !(List.any _ _))=true;rw [show inR (x0.getD i (0,(0,0))).1 0 7=true by assumption,show inR (x0.getD i (0,(0,0))).2.1 0 1000000000000=true by assumption];simp only [Bool.true_and,Bool.not_eq_true'];assumption))⟩),(by omega)⟩
 ·replace h1 : ¬ (((i : Nat) : Int) < ((List.length x0 : Nat) : Int)) := of_decide_eq_false h1
  refine wp_exit (then_exit ?_)
  have hs8:(allN (fun i=>(inR (x0.getD i (0,(0,0))).1 0 7 && inR (x0.getD i (0,(0,0))).2.1 0 1000000000000) && !(List.any (List.take i x0) fun e=>Sh.eqB s102 (x0.getD i (0,(0,0))) e)) (List.length x0))=true:=by exact allN_eq (by omega) hok0.1 hok0.2
  refine then_exit (in_hit (then_normal (wp_seq ?_)))
  refine at_regq [] { ts:=[2],os:=[] } [] gamOK hT h (by kernel_rfl) trivial fun a w h=>then_normal (wp_ret ?_)
  exact at_return (decide (((List.length x0:Nat):Int)≤40),()) [] h (by kernel_rfl) trivial (congrArg (fun z=>(z,())) (show (decide (((List.length x0:Nat):Int)≤40))=validLg x0 from by first | rfl | (unfold validLg;rw [if_pos hs8];done) | (unfold validLg;simp_all)))

def signedL (x0:Int) (x1:T58):Bool:=decide (x1.2.2.2.2=(linkMAC (nodeKey x0 x1.1) x1))
abbrev Q_impl_IsSignedBySender:=(fun (x0:Int) (x1:T58)=>Sh.fit s58 x1)
def S_impl_IsSignedBySender:Sum:={ fid:=86,dom:=[(.int 3),s58],cod:=[(.bool 4)],dp:=true,fz:=false,pre:=fun x=>Q_impl_IsSignedBySender x.1 x.2.1,g:=fun x=>((signedL x.1 x.2.1),()) }
def S_impl_IsSignedBySender_tab:List (Nat×Sum):=[(128,S_impl_NodeKey),(127,S_impl_LinkMAC)]
theorem S_impl_IsSignedBySender_ok:FnOK Tryz.prog 86 S_impl_IsSignedBySender:=by
 refine at_enter 14 (fun x=>⟨[(0,aI x.1),(1,aG [cI x.2.1.1,cI x.2.1.2.1,cI x.2.1.2.2.1,cI x.2.1.2.2.2.1.1,.ro (.int 3) x.2.1.2.2.2.1.2.1,.ro (.int 3) x.2.1.2.2.2.1.2.2,cI x.2.1.2.2.2.2])],[]⟩) Tryz.func86 rfl (by kernel_rfl) (fun x=>rfl) ?_
 rintro w0 Z0 ⟨x0,x1,u⟩ a w
 revert x0 x1
 intro (x0:Int) (x1:T58) hpre hlens h
 replace hpre:Q_impl_IsSignedBySender x0 x1:=hpre
 have hT:TabOK Tryz.prog S_impl_IsSignedBySender_tab:=(.cons S_impl_NodeKey_ok (.cons S_impl_LinkMAC_ok .nil))
 have hf1:Sh.fit s58 x1:=hpre
 have hn1_1:List.length x1.2.2.2.1.2.1≤1073741824:=hf1.2.2.2.1.2.1.1
 have hn1_2:List.length x1.2.2.2.1.2.2≤1073741824:=hf1.2.2.2.1.2.2.1
 refine wp_seq ?_
 refine at_regq [{ ids:=[1] }] { ts:=[0,3,4],os:=[1] } [] gamOK hT h (by kernel_rfl) trivial fun a w h=>then_normal (wp_seq ?_)
 refine at_anyq [{},{},{},{},{},{},{},{},{},{}] { ts:=[4],os:=[] } [True,Q_impl_LinkMAC (nodeKey x0 x1.1) x1] gamOK hT mixed h (by kernel_rfl) ⟨trivial,(by exact hf1),trivial⟩ fun a w h=>then_normal (wp_ret ?_)
 exact at_return (decide (x1.2.2.2.2=(linkMAC (nodeKey x0 x1.1) x1)),()) [] h (by kernel_rfl) trivial (congrArg (fun z=>(z,())) (show (decide (x1.2.2.2.2=(linkMAC (nodeKey x0 x1.1) x1)))=signedL x0 x1 from by rfl))

abbrev Q_spec_IsSignedBySender:=(fun (x0:Int) (x1:T58)=>Sh.fit s58 x1)
def S_spec_IsSignedBySender:Sum:={ fid:=89,dom:=[(.int 3),s58],cod:=[(.bool 4)],dp:=true,fz:=false,pre:=fun x=>Q_spec_IsSignedBySender x.1 x.2.1,g:=fun x=>((signedL x.1 x.2.1),()) }
def S_spec_IsSignedBySender_tab:List (Nat×Sum):=[(135,S_spec_NodeKey),(134,S_spec_LinkMAC)]
theorem S_spec_IsSignedBySender_ok:FnOK Tryz.prog 89 S_spec_IsSignedBySender:=by
 refine at_enter 14 (fun x=>⟨[(0,aI x.1),(1,aG [cI x.2.1.1,cI x.2.1.2.1,cI x.2.1.2.2.1,cI x.2.1.2.2.2.1.1,.ro (.int 3) x.2.1.2.2.2.1.2.1,.ro (.int 3) x.2.1.2.2.2.1.2.2,cI x.2.1.2.2.2.2])],[]⟩) Tryz.func89 rfl (by kernel_rfl) (fun x=>rfl) ?_
 rintro w0 Z0 ⟨x0,x1,u⟩ a w
 revert x0 x1
 intro (x0:Int) (x1:T58) hpre hlens h
 replace hpre:Q_spec_IsSignedBySender x0 x1:=hpre
 have hT:TabOK Tryz.prog S_spec_IsSignedBySender_tab:=(.cons S_spec_NodeKey_ok (.cons S_spec_LinkMAC_ok .nil))
 have hf1:Sh.fit s58 x1:=hpre
 have hn1_1:List.length x1.2.2.2.1.2.1≤1073741824:=hf1.2.2.2.1.2.1.1
 have hn1_2:List.length x1.2.2.2.1.2.2≤1073741824:=hf1.2.2.2.1.2.2.1
 refine wp_seq ?_
 refine at_regq [{ ids:=[1] }] { ts:=[0,3,4],os:=[1] } [] gamOK hT h (by kernel_rfl) trivial fun a w h=>then_normal (wp_seq ?_)
 refine at_anyq [{},{},{},{},{},{},{},{},{},{}] { ts:=[4],os:=[] } [True,Q_spec_LinkMAC (nodeKey x0 x1.1) x1] gamOK hT mixed h (by kernel_rfl) ⟨trivial,(by exact hf1),trivial⟩ fun a w h=>then_normal (wp_ret ?_)
 exact at_return (decide (x1.2.2.2.2=(linkMAC (nodeKey x0 x1.1) x1)),()) [] h (by kernel_rfl) trivial (congrArg (fun z=>(z,())) (show (decide (x1.2.2.2.2=(linkMAC (nodeKey x0 x1.1) x1)))=signedL x0 x1 from by first | rfl | (unfold signedL;rfl;done) | (unfold signedL;simp_all)))

def isProof (x0:Int) (x1:(List Int)) (x2:T56) (x3:T58):Bool:=(if (signedL x0 x3)=true then (if (validMan x2)=true then decide ((checkP x1 x2 x3.2.2.2.1)=3) else false) else false)
abbrev Q_impl_IsProof:=(fun (x0:Int) (x1:(List Int)) (x2:T56) (x3:T58)=>Sh.fit s54 x1∧Sh.fit s56 x2∧Sh.fit s58 x3)
def S_impl_IsProof:Sum:={ fid:=48,dom:=[(.int 3),s54,s56,s58],cod:=[(.bool 4)],dp:=true,fz:=false,pre:=fun x=>Q_impl_IsProof x.1 x.2.1 x.2.2.1 x.2.2.2.1,g:=fun x=>((isProof x.1 x.2.1 x.2.2.1 x.2.2.2.1),()) }
def S_impl_IsProof_tab:List (Nat×Sum):=[(86,S_impl_IsSignedBySender),(87,S_impl_IsValidManifest),(88,S_impl_CheckPacket)]
theorem S_impl_IsProof_ok:FnOK Tryz.prog 48 S_impl_IsProof:=by
 refine at_enter 24 (fun x=>⟨[(0,aI x.1),(1,aG [.ro (.int 3) x.2.1]),(2,aG [cI x.2.2.1.1,cI x.2.2.1.2.1,cI x.2.2.1.2.2.1,cI x.2.2.1.2.2.2.1,.ro (.int 3) x.2.2.1.2.2.2.2.1,cI x.2.2.1.2.2.2.2.2]),(3,aG [cI x.2.2.2.1.1,cI x.2.2.2.1.2.1,cI x.2.2.2.1.2.2.1,cI x.2.2.2.1.2.2.2.1.1,.ro (.int 3) x.2.2.2.1.2.2.2.1.2.1,.ro (.int 3) x.2.2.2.1.2.2.2.1.2.2,cI x.2.2.2.1.2.2.2.2])],[]⟩) Tryz.func48 rfl (by kernel_rfl) (fun x=>rfl) ?_
 rintro w0 Z0 ⟨x0,x1,x2,x3,u⟩ a w
 revert x0 x1 x2 x3
 intro (x0:Int) (x1:(List Int)) (x2:T56) (x3:T58) hpre hlens h
 replace hpre:Q_impl_IsProof x0 x1 x2 x3:=hpre
 have hT:TabOK Tryz.prog S_impl_IsProof_tab:=(.cons S_impl_IsSignedBySender_ok (.cons S_impl_IsValidManifest_ok (.cons S_impl_CheckPacket_ok .nil)))
 obtain ⟨hf1,hf2,hf3⟩:=hpre
 have hn1_1:List.length x1≤1073741824:=hf1.1
 have hn2_2:List.length x2.2.2.2.2.1≤1073741824:=hf2.2.2.2.2.1.1
 have hn3_3:List.length x3.2.2.2.1.2.1≤1073741824:=hf3.2.2.2.1.2.1.1
 have hn3_4:List.length x3.2.2.2.1.2.2≤1073741824:=hf3.2.2.2.1.2.2.1
 refine wp_seq ?_
 refine at_regq [{ ids:=[1] },{ ids:=[2] },{ ids:=[3] }] { ts:=[0,5,6,7,8],os:=[1,2,3] } [] gamOK hT h (by kernel_rfl) trivial fun a w h=>then_normal (wp_seq ?_)
 rcases Bool.eq_false_or_eq_true ((signedL x0 x3)) with h1 | h1
 ·rcases Bool.eq_false_or_eq_true ((validMan x2)) with h2 | h2
  ·refine at_regq [{}, {}, { hint := some (aB true) }, {}, {}, { hint := some (aB true) }] { ts := [8], os := [] } [Q_impl_IsSignedBySender x0 x3, (AV.p (.c (.v (.bool ((signedL x0 x3))))) = AV.p (.c (.v (.bool true)))), Q_impl_IsValidManifest x2, (AV.p (.c (.v (.bool ((validMan x2))))) = AV.p (.c (.v (.bool true)))), Q_impl_CheckPacket x1 x2 x3.2.2.2.1] gamOK hT h (by kernel_rfl) ⟨(by exact hf3), hint_bool (h1), (by exact hf2), hint_bool (h2), (by exact ⟨hf1, hf2, hf3.2.2.2.1⟩), trivial⟩ fun a w h => then_normal (wp_ret ?_)
   exact at_return (decide ((checkP x1 x2 x3.2.2.2.1)=3),()) [] h (by kernel_rfl) trivial (congrArg (fun z=>(z,())) (show (decide ((checkP x1 x2 x3.2.2.2.1)=3))=isProof x0 x1 x2 x3 from by first | rfl | (unfold isProof;rw [if_pos h1,if_pos h2])))
  ·refine at_regq [{}, {}, { hint := some (aB true) }, {}, {}, { hint := some (aB false) }] { ts := [8], os := [] } [Q_impl_IsSignedBySender x0 x3, (AV.p (.c (.v (.bool ((signedL x0 x3))))) = AV.p (.c (.v (.bool true)))), Q_impl_IsValidManifest x2, (AV.p (.c (.v (.bool ((validMan x2))))) = AV.p (.c (.v (.bool false))))] gamOK hT h (by kernel_rfl) ⟨(by exact hf3), hint_bool (h1), (by exact hf2), hint_bool (h2), trivial⟩ fun a w h => then_normal (wp_ret ?_)
   exact at_return (false,()) [] h (by kernel_rfl) trivial (congrArg (fun z=>(z,())) (show (false)=isProof x0 x1 x2 x3 from by first | rfl | (unfold isProof;rw [if_pos h1,if_neg (neT h2)])))
 ·refine at_regq [{}, {}, { hint := some (aB false) }] { ts := [8], os := [] } [Q_impl_IsSignedBySender x0 x3, (AV.p (.c (.v (.bool ((signedL x0 x3))))) = AV.p (.c (.v (.bool false))))] gamOK hT h (by kernel_rfl) ⟨(by exact hf3), hint_bool (h1), trivial⟩ fun a w h => then_normal (wp_ret ?_)
  exact at_return (false,()) [] h (by kernel_rfl) trivial (congrArg (fun z=>(z,())) (show (false)=isProof x0 x1 x2 x3 from by first | rfl | (unfold isProof;rw [if_neg (neT h1)])))
def pfOf (p:T58):T102:=(p.1,p.2.2.1,p.2.2.2.2)
def recPf (l:List T102) (ms:Int) (k:(List Int)) (m:T56) (p:T58):List T102×Bool:=if isProof ms k m p=true∧validLg (l++[pfOf p])=true then (l++[pfOf p],true) else (l,false)
theorem recPf_y {l:List T102} {ms:Int} {k:(List Int)} {m:T56} {p:T58} (h:isProof ms k m p=true) (h2:validLg (l++[pfOf p])=true):(l++[pfOf p],true)=recPf l ms k m p:=by unfold recPf;rw [if_pos ⟨h,h2⟩]
theorem recPf_n {l:List T102} {ms:Int} {k:(List Int)} {m:T56} {p:T58} (h:isProof ms k m p=false∨validLg (l++[pfOf p])=false):(l,false)=recPf l ms k m p:=by
 unfold recPf;rw [if_neg]
 rintro ⟨h1,h2⟩
 rcases h with h | h
 ·rw [h1] at h;cases h
 ·rw [h2] at h;cases h
theorem recPf_len (l:List T102) (ms:Int) (k:(List Int)) (m:T56) (p:T58):List.length (recPf l ms k m p).1≤List.length l+1:=by
 unfold recPf;split
 ·simp
 ·show List.length l≤_;omega

abbrev Q_spec_IsProof:=(fun (x0:Int) (x1:(List Int)) (x2:T56) (x3:T58)=>Sh.fit s54 x1∧Sh.fit s56 x2∧Sh.fit s58 x3)
def S_spec_IsProof:Sum:={ fid:=50,dom:=[(.int 3),s54,s56,s58],cod:=[(.bool 4)],dp:=true,fz:=false,pre:=fun x=>Q_spec_IsProof x.1 x.2.1 x.2.2.1 x.2.2.2.1,g:=fun x=>((isProof x.1 x.2.1 x.2.2.1 x.2.2.2.1),()) }
def S_spec_IsProof_tab:List (Nat×Sum):=[(89,S_spec_IsSignedBySender),(90,S_spec_IsValidManifest),(91,S_spec_CheckPacket)]
theorem S_spec_IsProof_ok:FnOK Tryz.prog 50 S_spec_IsProof:=by
 refine at_enter 24 (fun x=>⟨[(0,aI x.1),(1,aG [.ro (.int 3) x.2.1]),(2,aG [cI x.2.2.1.1,cI x.2.2.1.2.1,cI x.2.2.1.2.2.1,cI x.2.2.1.2.2.2.1,.ro (.int 3) x.2.2.1.2.2.2.2.1,cI x.2.2.1.2.2.2.2.2]),(3,aG [cI x.2.2.2.1.1,cI x.2.2.2.1.2.1,cI x.2.2.2.1.2.2.1,cI x.2.2.2.1.2.2.2.1.1,.ro (.int 3) x.2.2.2.1.2.2.2.1.2.1,.ro (.int 3) x.2.2.2.1.2.2.2.1.2.2,cI x.2.2.2.1.2.2.2.2])],[]⟩) Tryz.func50 rfl (by kernel_rfl) (fun x=>rfl) ?_
 rintro w0 Z0 ⟨x0,x1,x2,x3,u⟩ a w
 revert x0 x1 x2 x3
 intro (x0:Int) (x1:(List Int)) (x2:T56) (x3:T58) hpre hlens h
 replace hpre:Q_spec_IsProof x0 x1 x2 x3:=hpre
 have hT:TabOK Tryz.prog S_spec_IsProof_tab:=(.cons S_spec_IsSignedBySender_ok (.cons S_spec_IsValidManifest_ok (.cons S_spec_CheckPacket_ok .nil)))
 obtain ⟨hf1,hf2,hf3⟩:=hpre
 have hn1_1:List.length x1≤1073741824:=hf1.1
 have hn2_2:List.length x2.2.2.2.2.1≤1073741824:=hf2.2.2.2.2.1.1
 have hn3_3:List.length x3.2.2.2.1.2.1≤1073741824:=hf3.2.2.2.1.2.1.1
 have hn3_4:List.length x3.2.2.2.1.2.2≤1073741824:=hf3.2.2.2.1.2.2.1
 refine wp_seq ?_
 refine at_regq [{ ids:=[1] },{ ids:=[2] },{ ids:=[3] }] { ts:=[0,5,6,7,8],os:=[1,2,3] } [] gamOK hT h (by kernel_rfl) trivial fun a w h=>then_normal (wp_seq ?_)
 rcases Bool.eq_false_or_eq_true ((signedL x0 x3)) with h1 | h1
 ·rcases Bool.eq_false_or_eq_true ((validMan x2)) with h2 | h2
  ·refine at_regq [{}, {}, { hint := some (aB true) }, {}, {}, { hint := some (aB true) }] { ts := [8], os := [] } [Q_spec_IsSignedBySender x0 x3, (AV.p (.c (.v (.bool ((signedL x0 x3))))) = AV.p (.c (.v (.bool true)))), Q_spec_IsValidManifest x2, (AV.p (.c (.v (.bool ((validMan x2))))) = AV.p (.c (.v (.bool true)))), Q_spec_CheckPacket x1 x2 x3.2.2.2.1] gamOK hT h (by kernel_rfl) ⟨(by exact hf3), hint_bool (h1), (by exact hf2), hint_bool (h2), (by exact ⟨hf1, hf2, hf3.2.2.2.1⟩), trivial⟩ fun a w h => then_normal (wp_ret ?_)
   exact at_return (decide ((checkP x1 x2 x3.2.2.2.1)=3),()) [] h (by kernel_rfl) trivial (congrArg (fun z=>(z,())) (show (decide ((checkP x1 x2 x3.2.2.2.1)=3))=isProof x0 x1 x2 x3 from by first | rfl | (unfold isProof;rw [if_pos h1,if_pos h2];done) | (unfold isProof;simp_all)))
  ·refine at_regq [{}, {}, { hint := some (aB true) }, {}, {}, { hint := some (aB false) }] { ts := [8], os := [] } [Q_spec_IsSignedBySender x0 x3, (AV.p (.c (.v (.bool ((signedL x0 x3))))) = AV.p (.c (.v (.bool true)))), Q_spec_IsValidManifest x2, (AV.p (.c (.v (.bool ((validMan x2))))) = AV.p (.c (.v (.bool false))))] gamOK hT h (by kernel_rfl) ⟨(by exact hf3), hint_bool (h1), (by exact hf2), hint_bool (h2), trivial⟩ fun a w h => then_normal (wp_ret ?_)
   exact at_return (false,()) [] h (by kernel_rfl) trivial (congrArg (fun z=>(z,())) (show (false)=isProof x0 x1 x2 x3 from by first | rfl | (unfold isProof;rw [if_pos h1,if_neg (neT h2)];done) | (unfold isProof;simp_all)))
 ·refine at_regq [{}, {}, { hint := some (aB false) }] { ts := [8], os := [] } [Q_spec_IsSignedBySender x0 x3, (AV.p (.c (.v (.bool ((signedL x0 x3))))) = AV.p (.c (.v (.bool false))))] gamOK hT h (by kernel_rfl) ⟨(by exact hf3), hint_bool (h1), trivial⟩ fun a w h => then_normal (wp_ret ?_)
  exact at_return (false,()) [] h (by kernel_rfl) trivial (congrArg (fun z=>(z,())) (show (false)=isProof x0 x1 x2 x3 from by first | rfl | (unfold isProof;rw [if_neg (neT h1)];done) | (unfold isProof;simp_all)))

abbrev Q_impl_RecordProof:=(fun (x0:(List T102)) (x1:Int) (x2:(List Int)) (x3:T56) (x4:T58)=>Sh.fit s52 x0∧Sh.fit s54 x2∧Sh.fit s56 x3∧Sh.fit s58 x4∧List.length x0≤1073741823)
def S_impl_RecordProof:Sum:={ fid:=17,dom:=[s52,(.int 3),s54,s56,s58],cod:=[s52,(.bool 4)],dp:=true,fz:=false,pre:=fun x=>Q_impl_RecordProof x.1 x.2.1 x.2.2.1 x.2.2.2.1 x.2.2.2.2.1,g:=fun x=>((recPf x.1 x.2.1 x.2.2.1 x.2.2.2.1 x.2.2.2.2.1).1,((recPf x.1 x.2.1 x.2.2.1 x.2.2.2.1 x.2.2.2.2.1).2,())) }
def S_impl_RecordProof_tab:List (Nat×Sum):=[(47,S__impl_Ledger_clone),(48,S_impl_IsProof),(27,S_impl_IsValidLedger)]
theorem S_impl_RecordProof_ok:FnOK Tryz.prog 17 S_impl_RecordProof:=by
 refine at_enter 40 (fun x=>⟨[(0,aG [.ro s102 x.1]),(1,aI x.2.1),(2,aG [.ro (.int 3) x.2.2.1]),(3,aG [cI x.2.2.2.1.1,cI x.2.2.2.1.2.1,cI x.2.2.2.1.2.2.1,cI x.2.2.2.1.2.2.2.1,.ro (.int 3) x.2.2.2.1.2.2.2.2.1,cI x.2.2.2.1.2.2.2.2.2]),(4,aG [cI x.2.2.2.2.1.1,cI x.2.2.2.2.1.2.1,cI x.2.2.2.2.1.2.2.1,cI x.2.2.2.2.1.2.2.2.1.1,.ro (.int 3) x.2.2.2.2.1.2.2.2.1.2.1,.ro (.int 3) x.2.2.2.2.1.2.2.2.1.2.2,cI x.2.2.2.2.1.2.2.2.2])],[]⟩) Tryz.func17 rfl (by kernel_rfl) (fun x=>rfl) ?_
 rintro w0 Z0 ⟨x0,x1,x2,x3,x4,u⟩ a w
 revert x0 x1 x2 x3 x4
 intro (x0:(List T102)) (x1:Int) (x2:(List Int)) (x3:T56) (x4:T58) hpre hlens h
 replace hpre:Q_impl_RecordProof x0 x1 x2 x3 x4:=hpre
 have hT:TabOK Tryz.prog S_impl_RecordProof_tab:=(.cons S__impl_Ledger_clone_ok (.cons S_impl_IsProof_ok (.cons S_impl_IsValidLedger_ok .nil)))
 obtain ⟨hf0,hf2,hf3,hf4,hpx⟩:=hpre
 have hn0_1:List.length x0≤1073741824:=hf0.1
 have hn2_2:List.length x2≤1073741824:=hf2.1
 have hn3_3:List.length x3.2.2.2.2.1≤1073741824:=hf3.2.2.2.2.1.1
 have hn4_4:List.length x4.2.2.2.1.2.1≤1073741824:=hf4.2.2.2.1.2.1.1
 have hn4_5:List.length x4.2.2.2.1.2.2≤1073741824:=hf4.2.2.2.1.2.2.1
 refine wp_seq ?_
 refine at_regq [{ ids:=[1] },{ ids:=[2] },{ ids:=[3] },{ ids:=[4] },{ ids:=[5] }] { ts:=[1,5,7,8,9,10,11],os:=[1,2,3,4,5] } [] gamOK hT h (by kernel_rfl) trivial fun a w h=>then_normal (wp_seq ?_)
 refine at_regq [{},{ ids:=[6] },{ ids:=[7] }] { ts:=[1,5,7,8,9,10,11,12],os:=[1,2,3,4,5,6,7] } [(lenOK (α:=T102)) x0] gamOK hT h (by kernel_rfl) ⟨(by first | assumption | trivial | (first | omega | (simp only [lsA];omega) | (simp<;>omega))),trivial⟩ fun a w h=>then_normal (wp_seq (wp_seq ?_))
 refine at_regq [] { ts:=[5,9,10,11,12,20],os:=[1,4,5,6,7] } [Q_impl_IsProof x1 x2 x3 x4] gamOK hT h (by kernel_rfl) ⟨(by exact ⟨hf2,hf3,hf4⟩),trivial⟩ fun a w h=>then_normal ?_
 refine at_test (!(isProof x1 x2 x3 x4)) h (by kernel_rfl) (fun h1=>?_) (fun h1=>?_)
 ·replace h1 : (isProof x1 x2 x3 x4) = false := notT h1
  refine wp_seq ?_
  refine at_regq [] { ts:=[5,9,10,11,12],os:=[1,4,5,6,7] } [] gamOK hT h (by kernel_rfl) trivial fun a w h=>then_normal (wp_ret (then_ret ?_))
  exact at_return (x0,(false,())) [] h (by kernel_rfl) trivial (congrArg (fun z=>(z.1,z.2,())) (show ((x0,false))=recPf x0 x1 x2 x3 x4 from by first | exact recPf_y (by assumption) (by assumption) | exact recPf_n (by first | (left;assumption) | (right;assumption))))
 ·replace h1 : (isProof x1 x2 x3 x4) = true := notF h1
  refine wp_skip (then_normal (wp_seq ?_))
  refine at_regq [{},{},{},{},{},{},{},{},{},{ ids:=[8] },{ ids:=[9] }] { ts:=[5,10,11,12],os:=[1,5,7,9] } [(List.length x0+List.length ([(x4.1,(x4.2.2.1,x4.2.2.2.2))]))*24≤140737488355328] gamOK hT h (by kernel_rfl) ⟨(by first | omega | (simp only [lsA];omega) | (simp<;>omega)),trivial⟩ fun a w h=>then_normal (wp_seq (wp_seq ?_))
  refine at_regq [] { ts:=[5,10,11,12,36],os:=[1,5,7,9] } [Q_impl_IsValidLedger (x0++([(x4.1,(x4.2.2.1,x4.2.2.2.2))]))] gamOK hT h (by kernel_rfl) ⟨(by first | exact hf0 | exact Sh.fit_len (t:=50) (s:=s102) rfl (by rw [List.length_append,List.length_singleton];omega)),trivial⟩ fun a w h=>then_normal ?_
  refine at_test (!(validLg (x0++([(x4.1,(x4.2.2.1,x4.2.2.2.2))])))) h (by kernel_rfl) (fun h2=>?_) (fun h2=>?_)
  ·replace h2 : (validLg (x0 ++ ([(x4.1, (x4.2.2.1, x4.2.2.2.2))]))) = false := notT h2
   refine wp_seq ?_
   refine at_regq [{},{ ids:=[10] }] { ts:=[10,11,12],os:=[5,7,9,10] } [(lenOK (α:=T102)) x0] gamOK hT h (by kernel_rfl) ⟨(by first | assumption | trivial | (first | omega | (simp only [lsA];omega) | (simp<;>omega))),trivial⟩ fun a w h=>then_normal (wp_ret (then_ret ?_))
   exact at_return (x0,(false,())) [] h (by kernel_rfl) trivial (congrArg (fun z=>(z.1,z.2,())) (show ((x0,false))=recPf x0 x1 x2 x3 x4 from by first | exact recPf_y (by assumption) (by assumption) | exact recPf_n (by first | (left;assumption) | (right;assumption))))
  ·replace h2 : (validLg (x0 ++ ([(x4.1, (x4.2.2.1, x4.2.2.2.2))]))) = true := notF h2
   refine wp_skip (then_normal (wp_seq ?_))
   refine at_regq [] { ts:=[10,11],os:=[5,9] } [] gamOK hT h (by kernel_rfl) trivial fun a w h=>then_normal (wp_ret ?_)
   exact at_return ((x0++([(x4.1,(x4.2.2.1,x4.2.2.2.2))])),(true,())) [] h (by kernel_rfl) trivial (congrArg (fun z=>(z.1,z.2,())) (show (((x0++([(x4.1,(x4.2.2.1,x4.2.2.2.2))])),true))=recPf x0 x1 x2 x3 x4 from by first | exact recPf_y (by assumption) (by assumption) | exact recPf_n (by first | (left;assumption) | (right;assumption))))

abbrev Q_spec_RecordProof:=(fun (x0:(List T102)) (x1:Int) (x2:(List Int)) (x3:T56) (x4:T58)=>Sh.fit s52 x0∧Sh.fit s54 x2∧Sh.fit s56 x3∧Sh.fit s58 x4∧List.length x0≤1073741823)
def S_spec_RecordProof:Sum:={ fid:=18,dom:=[s52,(.int 3),s54,s56,s58],cod:=[s52,(.bool 4)],dp:=true,fz:=false,pre:=fun x=>Q_spec_RecordProof x.1 x.2.1 x.2.2.1 x.2.2.2.1 x.2.2.2.2.1,g:=fun x=>((recPf x.1 x.2.1 x.2.2.1 x.2.2.2.1 x.2.2.2.2.1).1,((recPf x.1 x.2.1 x.2.2.1 x.2.2.2.1 x.2.2.2.2.1).2,())) }
def S_spec_RecordProof_tab:List (Nat×Sum):=[(49,S_spec_l29Copy),(50,S_spec_IsProof),(51,S_spec_IsValidLedger)]
theorem S_spec_RecordProof_ok:FnOK Tryz.prog 18 S_spec_RecordProof:=by
 refine at_enter 41 (fun x=>⟨[(0,aG [.ro s102 x.1]),(1,aI x.2.1),(2,aG [.ro (.int 3) x.2.2.1]),(3,aG [cI x.2.2.2.1.1,cI x.2.2.2.1.2.1,cI x.2.2.2.1.2.2.1,cI x.2.2.2.1.2.2.2.1,.ro (.int 3) x.2.2.2.1.2.2.2.2.1,cI x.2.2.2.1.2.2.2.2.2]),(4,aG [cI x.2.2.2.2.1.1,cI x.2.2.2.2.1.2.1,cI x.2.2.2.2.1.2.2.1,cI x.2.2.2.2.1.2.2.2.1.1,.ro (.int 3) x.2.2.2.2.1.2.2.2.1.2.1,.ro (.int 3) x.2.2.2.2.1.2.2.2.1.2.2,cI x.2.2.2.2.1.2.2.2.2])],[]⟩) Tryz.func18 rfl (by kernel_rfl) (fun x=>rfl) ?_
 rintro w0 Z0 ⟨x0,x1,x2,x3,x4,u⟩ a w
 revert x0 x1 x2 x3 x4
 intro (x0:(List T102)) (x1:Int) (x2:(List Int)) (x3:T56) (x4:T58) hpre hlens h
 replace hpre:Q_spec_RecordProof x0 x1 x2 x3 x4:=hpre
 have hT:TabOK Tryz.prog S_spec_RecordProof_tab:=(.cons S_spec_l29Copy_ok (.cons S_spec_IsProof_ok (.cons S_spec_IsValidLedger_ok .nil)))
 obtain ⟨hf0,hf2,hf3,hf4,hpx⟩:=hpre
 have hn0_1:List.length x0≤1073741824:=hf0.1
 have hn2_2:List.length x2≤1073741824:=hf2.1
 have hn3_3:List.length x3.2.2.2.2.1≤1073741824:=hf3.2.2.2.2.1.1
 have hn4_4:List.length x4.2.2.2.1.2.1≤1073741824:=hf4.2.2.2.1.2.1.1
 have hn4_5:List.length x4.2.2.2.1.2.2≤1073741824:=hf4.2.2.2.1.2.2.1
 refine wp_seq ?_
 refine at_regq [{ ids:=[1] },{ ids:=[2] },{ ids:=[3] },{ ids:=[4] },{ ids:=[5] }] { ts:=[1,5,7,8,9,10,11],os:=[1,2,3,4,5] } [] gamOK hT h (by kernel_rfl) trivial fun a w h=>then_normal (wp_seq ?_)
 refine at_regq [{},{ ids:=[6] },{ ids:=[7] }] { ts:=[1,5,7,8,9,10,11,12],os:=[1,2,3,4,5,6,7] } [(lenOK (α:=T102)) x0] gamOK hT h (by kernel_rfl) ⟨(by first | assumption | trivial | (first | omega | (simp only [lsA];omega) | (simp<;>omega))),trivial⟩ fun a w h=>then_normal (wp_seq ?_)
 refine at_regq [{},{},{},{},{},{},{},{},{},{ ids:=[8] },{ ids:=[9] }] { ts:=[1,5,7,8,9,10,11,12],os:=[1,2,3,4,5,7,9] } [(List.length x0+List.length ([(x4.1,(x4.2.2.1,x4.2.2.2.2))]))*24≤140737488355328] gamOK hT h (by kernel_rfl) ⟨(by first | omega | (simp only [lsA];omega) | (simp<;>omega)),trivial⟩ fun a w h=>then_normal (wp_seq (wp_seq ?_))
 rcases Bool.eq_false_or_eq_true (!(isProof x1 x2 x3 x4)) with h1 | h1
 ·have hzh1 : (isProof x1 x2 x3 x4) = false := notT h1
  refine at_regq [{},{},{},{},{},{ hint:=some (aB true) }] { ts:=[5,10,11,12,37],os:=[1,5,7,9] } [Q_spec_IsProof x1 x2 x3 x4,(AV.p (.c (.v (.bool (!(isProof x1 x2 x3 x4)))))=AV.p (.c (.v (.bool true))))] gamOK hT h (by kernel_rfl) ⟨(by exact ⟨hf2,hf3,hf4⟩),hint_bool (h1),trivial⟩ fun a w h=>then_normal ?_
  refine at_test true h (by kernel_rfl) (fun hh=>?_) (fun hh=>nomatch hh)
  refine wp_seq ?_
  refine at_regq [{},{ ids:=[10] }] { ts:=[10,11,12],os:=[5,7,9,10] } [(lenOK (α:=T102)) x0] gamOK hT h (by kernel_rfl) ⟨(by first | assumption | trivial | (first | omega | (simp only [lsA];omega) | (simp<;>omega))),trivial⟩ fun a w h=>then_normal (wp_ret (then_ret ?_))
  exact at_return (x0,(false,())) [] h (by kernel_rfl) trivial (congrArg (fun z=>(z.1,z.2,())) (show ((x0,false))=recPf x0 x1 x2 x3 x4 from by first | exact recPf_y (by assumption) (by assumption) | exact recPf_n (by first | (left;assumption) | (right;assumption))))
 ·have hzh1 : (isProof x1 x2 x3 x4) = true := notF h1
  refine at_regq [{},{},{},{},{},{ hint:=some (aB false) }] { ts:=[5,10,11,12,37],os:=[1,5,7,9] } [Q_spec_IsProof x1 x2 x3 x4,(AV.p (.c (.v (.bool (!(isProof x1 x2 x3 x4)))))=AV.p (.c (.v (.bool false)))),Q_spec_IsValidLedger (x0++([(x4.1,(x4.2.2.1,x4.2.2.2.2))]))] gamOK hT h (by kernel_rfl) ⟨(by exact ⟨hf2,hf3,hf4⟩),hint_bool (h1),(by first | exact hf0 | exact Sh.fit_len (t:=50) (s:=s102) rfl (by rw [List.length_append,List.length_singleton];omega)),trivial⟩ fun a w h=>then_normal ?_
  refine at_test (!(validLg (x0++([(x4.1,(x4.2.2.1,x4.2.2.2.2))])))) h (by kernel_rfl) (fun h2=>?_) (fun h2=>?_)
  ·replace h2 : (validLg (x0 ++ ([(x4.1, (x4.2.2.1, x4.2.2.2.2))]))) = false := notT h2
   refine wp_seq ?_
   refine at_regq [{},{ ids:=[10] }] { ts:=[10,11,12],os:=[5,7,9,10] } [(lenOK (α:=T102)) x0] gamOK hT h (by kernel_rfl) ⟨(by first | assumption | trivial | (first | omega | (simp only [lsA];omega) | (simp<;>omega))),trivial⟩ fun a w h=>then_normal (wp_ret (then_ret ?_))
   exact at_return (x0,(false,())) [] h (by kernel_rfl) trivial (congrArg (fun z=>(z.1,z.2,())) (show ((x0,false))=recPf x0 x1 x2 x3 x4 from by first | exact recPf_y (by assumption) (by assumption) | exact recPf_n (by first | (left;assumption) | (right;assumption))))
  ·replace h2 : (validLg (x0 ++ ([(x4.1, (x4.2.2.1, x4.2.2.2.2))]))) = true := notF h2
   refine wp_skip (then_normal (wp_seq ?_))
   refine at_regq [] { ts:=[10,11],os:=[5,9] } [] gamOK hT h (by kernel_rfl) trivial fun a w h=>then_normal (wp_ret ?_)
   exact at_return ((x0++([(x4.1,(x4.2.2.1,x4.2.2.2.2))])),(true,())) [] h (by kernel_rfl) trivial (congrArg (fun z=>(z.1,z.2,())) (show (((x0++([(x4.1,(x4.2.2.1,x4.2.2.2.2))])),true))=recPf x0 x1 x2 x3 x4 from by first | exact recPf_y (by assumption) (by assumption) | exact recPf_n (by first | (left;assumption) | (right;assumption))))

def rndN (x0:Int) (x1:Int) (x2:Int):Int:=(if (inR x2 1 1000000000000)=true then (Int.tmod (Int.tmod ((keyed x0 ([x1,71]))*(keyed x0 ([x1,71]))) 2147483647) x2) else 0)
def S_impl_RandomNumber:Sum:={ fid:=111,dom:=[(.int 3),(.int 3),(.int 3)],cod:=[(.int 3)],dp:=true,fz:=false,pre:=fun x=>True,g:=fun x=>((rndN x.1 x.2.1 x.2.2.1),()) }
def S_impl_RandomNumber_tab:List (Nat×Sum):=[(59,S_impl_InRange),(112,S_impl_KeyedHash)]
theorem S_impl_RandomNumber_ok:FnOK Tryz.prog 111 S_impl_RandomNumber:=by
 refine at_enter 21 (fun x=>⟨[(0,aI x.1),(1,aI x.2.1),(2,aI x.2.2.1)],[]⟩) Tryz.func111 rfl (by kernel_rfl) (fun x=>rfl) ?_
 rintro w0 Z0 ⟨x0,x1,x2,u⟩ a w
 revert x0 x1 x2
 intro (x0:Int) (x1:Int) (x2:Int) hpre hlens h
 have hT:TabOK Tryz.prog S_impl_RandomNumber_tab:=(.cons S_impl_InRange_ok (.cons S_impl_KeyedHash_ok .nil))
 have hkb:=keyed_bd x0 ([x1,71])
 refine wp_seq ?_
 refine at_regq [] { ts:=[0,1,2,6],os:=[] } [] gamOK hT h (by kernel_rfl) trivial fun a w h=>then_normal (wp_seq (wp_seq ?_))
 refine at_regq [] { ts:=[0,1,2,6,10],os:=[] } [True] gamOK hT h (by kernel_rfl) ⟨trivial,trivial⟩ fun a w h=>then_normal ?_
 refine at_test (!(inR x2 1 1000000000000)) h (by kernel_rfl) (fun h1=>?_) (fun h1=>?_)
 ·replace h1 : (inR x2 1 1000000000000) = false := notT h1
  have hvh1:=inR_f h1
  refine wp_seq ?_
  refine at_regq [] { ts:=[0,1,2,6],os:=[] } [] gamOK hT h (by kernel_rfl) trivial fun a w h=>then_normal (wp_ret (then_ret ?_))
  exact at_return (0,()) [] h (by kernel_rfl) trivial (congrArg (fun z=>(z,())) (show (0)=rndN x0 x1 x2 from by first | rfl | (unfold rndN;rw [if_neg (neT h1)])))
 ·replace h1 : (inR x2 1 1000000000000) = true := notF h1
  have hvh1:=inR_t h1
  refine wp_skip (then_normal (wp_seq ?_))
  refine at_regq [{},{},{ ids:=[1] }] { ts:=[2,6,7],os:=[] } [pKey x0 ([x1,71])] gamOK hT h (by kernel_rfl) ⟨(by (show _≤_;simp)),trivial⟩ fun a w h=>then_normal (wp_seq ?_)
  refine at_regq [{},{},{ nw:=true }] { ts:=[6],os:=[] } [I64 ((keyed x0 ([x1,71]))*(keyed x0 ([x1,71]))),(2147483647:Int)≠0,(x2:Int)≠0] gamOK hT h (by kernel_rfl) ⟨⟨by (have hA0:=mul_f (keyed x0 ([x1,71])) (keyed x0 ([x1,71]));first | omega | (simp only [lsA];omega) | (simp<;>omega)),by (have hA0:=mul_f (keyed x0 ([x1,71])) (keyed x0 ([x1,71]));first | omega | (simp only [lsA];omega) | (simp<;>omega))⟩,(by first | omega | (simp only [lsA];omega) | (simp<;>omega)),(by first | omega | (simp only [lsA];omega) | (simp<;>omega)),trivial⟩ fun a w h=>then_normal (wp_ret ?_)
  exact at_return ((Int.tmod (Int.tmod ((keyed x0 ([x1,71]))*(keyed x0 ([x1,71]))) 2147483647) x2),()) [] h (by kernel_rfl) trivial (congrArg (fun z=>(z,())) (show ((Int.tmod (Int.tmod ((keyed x0 ([x1,71]))*(keyed x0 ([x1,71]))) 2147483647) x2))=rndN x0 x1 x2 from by first | rfl | (unfold rndN;rw [if_pos h1])))
theorem rndN_el (s i:Int):LA.El (rndN s i 1019):=by
 have hkb:=keyed_bd s ([i,71])
 have hm:=mul_f (keyed s ([i,71])) (keyed s ([i,71]))
 have h1:=tmod_f (keyed s ([i,71])*keyed s ([i,71])) 2147483647 (by decide)
 have h2:=tmod_f ((keyed s ([i,71])*keyed s ([i,71])).tmod 2147483647) 1019 (by decide)
 unfold rndN LA.El
 rw [if_pos (show inR 1019 1 1000000000000=true from rfl)]
 omega
def unitL (n:Nat) (k:Int):List Int:=(List.range n).map fun (j:Nat)=>if (j:Int)=k then 1 else 0
theorem unitL_snoc (n:Nat) (k:Int):unitL (n+1) k=unitL n k++[if (n:Int)=k then 1 else 0]:=by unfold unitL;rw [List.range_succ,List.map_append];rfl
theorem unitL_len (n:Nat) (k:Int):(unitL n k).length=n:=by simp [unitL]
theorem unitL_set {n:Nat} {k:Int} (h0:0≤k) (h:k < n):List.set (List.replicate n (0:Int)) k.toNat 1=unitL n k:=by
 apply List.ext_getElem
 ·simp [unitL]
 ·intro i h1 h2
  rw [List.getElem_set]
  simp only [unitL,List.getElem_map,List.getElem_range,List.getElem_replicate]
  by_cases e:k.toNat=i
  ·rw [if_pos e,if_pos (by omega)]
  ·rw [if_neg e,if_neg (by omega)]
def unitV (w i:Int):List Int:=if inR w 0 40=true∧inR i 0 (w - 1)=true then unitL w.toNat i else []
theorem unitV_y {w i:Int} (h:inR w 0 40=true) (h2:inR i 0 (w - 1)=true):unitL w.toNat i=unitV w i:=(if_pos ⟨h,h2⟩).symm
theorem unitV_n {w i:Int} (h:inR w 0 40=false∨inR i 0 (w - 1)=false):[]=unitV w i:=by
 unfold unitV;rw [if_neg]
 rintro ⟨h1,h2⟩
 rcases h with h | h
 ·rw [h1] at h;cases h
 ·rw [h2] at h;cases h
theorem unitV_len (w i:Int):(unitV w i).length≤40:=by
 unfold unitV;split
 ·rename_i h;rw [unitL_len];have:=inR_t h.1;omega
 ·exact Nat.zero_le _
theorem unitL_ok (n:Nat) (k:Int):LA.VokB n (unitL n k):=⟨unitL_len n k,fun x hx=>by
 obtain ⟨j,_,rfl⟩:=List.mem_map.1 hx
 unfold LA.El;split<;>omega⟩
def rndL (s:Int) (n:Nat):List Int:=(List.range n).map fun (j:Nat)=>rndN s (j:Int) 1019
theorem rndL_snoc (s:Int) (n:Nat):rndL s (n+1)=rndL s n++[rndN s (n:Int) 1019]:=by unfold rndL;rw [List.range_succ,List.map_append];rfl
theorem rndL_len (s:Int) (n:Nat):(rndL s n).length=n:=by simp [rndL]
theorem rndL_at {s:Int} {n i:Nat} (h:i < n):(rndL s n).getD i 0=rndN s (i:Int) 1019:=by rw [getD_of_lt (by rw [rndL_len];exact h)];simp [rndL]
theorem rndL_zero (s:Int) (n:Nat):List.replicate n (0:Int)=copyTo 0 (rndL s n) 0:=by
 have e:=copyTo_zero (z:=(0:Int)) (xs:=rndL s n)
 rw [rndL_len] at e;exact e
theorem rndL_set {s:Int} {n i:Nat} (h:i < n):(copyTo 0 (rndL s n) i).set i (rndN s (i:Int) 1019)=copyTo 0 (rndL s n) (i+1):=by
 rw [← rndL_at h];exact copyTo_set (by rw [rndL_len];exact h)
def rndS (s w:Int):List Int:=if inR w 1 40=true then rndL s w.toNat else []
theorem rndS_len (s w:Int):(rndS s w).length≤40:=by
 unfold rndS;split
 ·rename_i h;rw [rndL_len];have:=inR_t h;omega
 ·exact Nat.zero_le _
theorem rndS_eq {s w:Int} {i:Nat} (h:i=0∨((i:Int)≤w∧inR w 1 40=true)) (he:¬ (i:Int) < w∨inR w 1 40=false):rndL s i=rndS s w:=by
 unfold rndS
 cases hi:inR w 1 40 with
 | true =>
  rw [if_pos rfl]
  have hw:=inR_t hi
  rcases he with he | he
  ·congr 1;omega
  ·rw [hi] at he;cases he
 | false =>
  rw [if_neg (by decide)]
  rcases h with h | h
  ·subst h;rfl
  ·rw [hi] at h;cases h.2
def rndV (s w:Int):List Int:=if 0 < (rndS s w).length∧LA.leadS (rndS s w) < 0 then (rndS s w).set 0 1 else rndS s w
theorem rndV_1 {s w:Int} (h:inR w 1 40=true) (h2:LA.leadS (rndL s w.toNat) < 0):(rndL s w.toNat).set 0 1=rndV s w:=by
 unfold rndV rndS;rw [if_pos h,if_pos ⟨by rw [rndL_len];have:=inR_t h;omega,h2⟩]
theorem rndV_2 {s w:Int} (h:inR w 1 40=true) (h2:¬ LA.leadS (rndL s w.toNat) < 0):rndL s w.toNat=rndV s w:=by
 unfold rndV rndS;rw [if_pos h,if_neg (fun e=>h2 e.2)]
theorem rndV_0 {s w:Int} (h:inR w 1 40=false):[]=rndV s w:=by
 unfold rndV rndS;rw [h];simp
theorem rndV_len (s w:Int):(rndV s w).length≤40:=by
 have:=rndS_len s w
 unfold rndV;split
 ·rw [List.length_set];exact this
 ·exact this
theorem rndV_at {s w:Int} (h:1≤w∧w≤40):(rndV s w).length=w.toNat:=by
 have e:rndS s w=rndL s w.toNat:=if_pos (inR_true h)
 unfold rndV;rw [e];split
 ·rw [List.length_set,rndL_len]
 ·rw [rndL_len]
theorem rndV_ok {s w:Int} (h:1≤w∧w≤40):LA.VokB w.toNat (rndV s w):=by
 refine ⟨rndV_at h,fun x hx=>?_⟩
 have e:rndS s w=rndL s w.toNat:=if_pos (inR_true h)
 have hl:∀ y∈rndL s w.toNat,LA.El y:=fun y hy=>by
  obtain ⟨j,_,rfl⟩:=List.mem_map.1 hy
  exact rndN_el _ _
 unfold rndV at hx;rw [e] at hx
 split at hx
 ·rcases List.mem_or_eq_of_mem_set hx with hx | hx
  ·exact hl x hx
  ·rw [hx];unfold LA.El;omega
 ·exact hl x hx
def combTo (vs:List (List Int)) (cs:List Int):Nat→List Int
 | 0=>List.replicate (vs.getD 0 []).length 0
 | i+1=>LA.addS (combTo vs cs i) (vs.getD i []) (cs.getD i 0)
def combS (vs:List (List Int)) (cs:List Int):List Int:=combTo vs cs vs.length
abbrev cvB (vs:List (List Int)) (v:List Int):Bool:=validV v && decide (v.length=(vs.getD 0 []).length)
theorem cvB_ok {vs:List (List Int)} {v:List Int} (h:cvB vs v=true):LA.VokB (vs.getD 0 []).length v:=by
 unfold cvB at h;rw [Bool.and_eq_true] at h
 exact ⟨of_decide_eq_true h.2,(validV_t h.1).2.1⟩
theorem cvB_40 {vs:List (List Int)} {v:List Int} (h:cvB vs v=true):(vs.getD 0 []).length≤40:=by
 unfold cvB at h;rw [Bool.and_eq_true] at h
 have h1:=of_decide_eq_true h.2
 have:=(validV_t h.1).1;omega
theorem combTo_ok {n:Nat} {vs:List (List Int)} {cs:List Int} (hn:(vs.getD 0 []).length=n) (hc:∀ j,0≤cs.getD j 0∧cs.getD j 0≤1018):∀ i,(∀ j,j < i→LA.VokB n (vs.getD j []))→LA.VokB n (combTo vs cs i)
 | 0, _ => by
  refine ⟨by simp only [combTo];rw [List.length_replicate,hn],fun x hx=>?_⟩
  simp only [combTo] at hx
  rw [(List.mem_replicate.1 hx).2];unfold LA.El;omega
 | i+1,h=>(LA.addS_ok (combTo_ok hn hc i (fun j hj=>h j (by omega))) (h i (by omega)) (hc i)).1
def combV (vs:List (List Int)) (cs:List Int):List Int:=if (¬ vs.length=0∧vs.length=cs.length)∧validV cs=true∧vs.all (cvB vs)=true then combS vs cs else []
theorem combV_y {vs:List (List Int)} {cs:List Int} (h1:¬ vs.length=0) (h2:vs.length=cs.length) (h3:validV cs=true) (h4:vs.all (cvB vs)=true):combS vs cs=combV vs cs:=(if_pos ⟨⟨h1,h2⟩,h3,h4⟩).symm
theorem combV_n {vs:List (List Int)} {cs:List Int} (h:vs.length=0∨¬ vs.length=cs.length∨validV cs=false∨vs.all (cvB vs)=false):[]=combV vs cs:=by
 unfold combV;rw [if_neg]
 rintro ⟨⟨h1,h2⟩,h3,h4⟩
 rcases h with h | h | h | h
 ·exact h1 h
 ·exact h h2
 ·rw [h3] at h;cases h
 ·rw [h4] at h;cases h
theorem combV_len (vs:List (List Int)) (cs:List Int):(combV vs cs).length≤40:=by
 unfold combV;split
 ·rename_i h
  have hp:=List.all_eq_true.1 h.2.2
  have h0:=hp _ (getD_mem (z:=[]) (show 0 < vs.length by have:=h.1.1;omega))
  have:=(combTo_ok (n:=(vs.getD 0 []).length) (cs:=cs) rfl (validV_t h.2.1).2.2 vs.length (fun j hj=>cvB_ok (hp _ (getD_mem hj)))).1
  have:=cvB_40 h0
  unfold combS;omega
 ·exact Nat.zero_le _
theorem combV_pos {vs:List (List Int)} {cs:List Int} (h:¬ (combV vs cs).length=0):0 < vs.length:=by
 rcases Nat.eq_zero_or_pos vs.length with h0 | h0
 ·rw [← combV_n (.inl h0)] at h;exact absurd rfl h
 ·exact h0
def combP (vs:List (List Int)) (cs:List Int):Prop:=(0 < vs.length∧vs.length≤cs.length∧(vs.getD 0 []).length≤40)∧(∀ j,j < vs.length→LA.VokB (vs.getD 0 []).length (vs.getD j []))∧∀ j,0≤cs.getD j 0∧cs.getD j 0≤1018
def pays (ps:List T41):List (List Int):=ps.map fun p=>p.2.2
theorem pays_len (ps:List T41):(pays ps).length=ps.length:=by simp [pays]
theorem pays_snoc (ps:List T41) (p:T41):pays (ps++[p])=pays ps++[p.2.2]:=by simp [pays]
theorem fit_pays {ps:List T41} (h:Sh.fit s33 ps):Sh.fit s24 (pays ps):=⟨by rw [pays_len];exact h.1,fun v hv=>by
 obtain ⟨p,hp,rfl⟩:=List.mem_map.1 hv
 exact (h.2 p hp).2.2⟩
def genB0 (ps:List T41) (p:T41):Bool:=decide (p.1=(ps.getD 0 (0,([],[]))).1)
def comP (ps:List T41) (cs:List Int):T41×Bool:=if ps.all (fun p=>decide (p.1=(ps.getD 0 (0,([],[]))).1))=true∧¬ (combV (cofs ps) cs).length=0∧¬ (combV (pays ps) cs).length=0 then (((ps.getD 0 (0,([],[]))).1,combV (cofs ps) cs,combV (pays ps) cs),true) else ((0,[],[]),false)
theorem comP_y {ps:List T41} {cs:List Int} (h1:ps.all (fun p=>decide (p.1=(ps.getD 0 (0,([],[]))).1))=true) (h2:¬ (combV (cofs ps) cs).length=0) (h3:¬ (combV (pays ps) cs).length=0):(((ps.getD 0 (0,([],[]))).1,combV (cofs ps) cs,combV (pays ps) cs),true)=comP ps cs:=(if_pos ⟨h1,h2,h3⟩).symm
theorem comP_n {ps:List T41} {cs:List Int} (h:ps.all (fun p=>decide (p.1=(ps.getD 0 (0,([],[]))).1))=false∨(combV (cofs ps) cs).length=0∨(combV (pays ps) cs).length=0):((0,[],[]),false)=comP ps cs:=by
 unfold comP;rw [if_neg]
 rintro ⟨h1,h2,h3⟩
 rcases h with h | h | h
 ·rw [h1] at h;cases h
 ·exact h2 h
 ·exact h3 h
theorem comP_sz (ps:List T41) (cs:List Int):Sh.sz s41 (comP ps cs).1≤80:=by
 unfold comP;split
 ·show 0 + (Sh.sz s39 _ + Sh.sz s39 _) ≤ 80
  rw [sz_flat (by rfl),sz_flat (by rfl)]
  have:=combV_len (cofs ps) cs;have:=combV_len (pays ps) cs
  dsimp only;omega
 ·exact Nat.zero_le _
def recNo (r:T35):Bool:=decide (List.length r.2.2.2.1=0) || decide (r.2.2.2.2=1000000000000)
def recD (r:T35) (s:Int):T41×Bool:=if recNo r=true then ((0,[],[]),false) else comP r.2.2.2.1 (rndV (keyed s ([r.1,r.2.2.2.2])) ((List.length r.2.2.2.1:Nat):Int))
def recU (r:T35) (s:Int):T35:=if recNo r=true then r else (r.1,r.2.1,r.2.2.1,r.2.2.2.1,r.2.2.2.2+1)
def recodeR (r:T35) (s:Int):T35×T41×Bool:=if validR r=true then (recU r s,recD r s) else (r,(0,[],[]),false)
theorem recNo_t {r:T35} (h:List.length r.2.2.2.1=0∨r.2.2.2.2=1000000000000):recNo r=true:=by unfold recNo;rw [Bool.or_eq_true,decide_eq_true_iff,decide_eq_true_iff];exact h
theorem recNo_f {r:T35} (h1:¬ List.length r.2.2.2.1=0) (h2:¬ r.2.2.2.2=1000000000000):recNo r=false:=by unfold recNo;rw [decide_eq_false h1,decide_eq_false h2];rfl
theorem recU_y {r:T35} {s:Int} (h:recNo r=true):r=recU r s:=(if_pos h).symm
theorem recU_n {r:T35} {s:Int} (h:recNo r=false):(r.1,r.2.1,r.2.2.1,r.2.2.2.1,r.2.2.2.2+1)=recU r s:=(if_neg (by rw [h];decide)).symm
theorem recD_y {r:T35} {s:Int} (h:recNo r=true):((0,[],[]),false)=recD r s:=(if_pos h).symm
theorem recD_n {r:T35} {s:Int} (h:recNo r=false):comP r.2.2.2.1 (rndV (keyed s ([r.1,r.2.2.2.2])) ((List.length r.2.2.2.1:Nat):Int))=recD r s:=(if_neg (by rw [h];decide)).symm
theorem recodeR_y {r:T35} {s:Int} (h:validR r=true):(recU r s,recD r s)=recodeR r s:=(if_pos h).symm
theorem recodeR_n {r:T35} {s:Int} (h:validR r=false):(r,(0,[],[]),false)=recodeR r s:=(if_neg (by rw [h];decide)).symm
theorem recU_sz (r:T35) (s:Int):Sh.sz s35 (recU r s)=Sh.sz s35 r:=by unfold recU;split<;>rfl
theorem recodeR_sz (r:T35) (s:Int):Sh.sz s35 (recodeR r s).1=Sh.sz s35 r∧Sh.sz s41 (recodeR r s).2.1≤80:=by
 unfold recodeR;split
 ·refine ⟨recU_sz r s, ?_⟩
  show Sh.sz s41 (recD r s).1≤80
  unfold recD;split
  ·exact Nat.zero_le _
  ·exact comP_sz _ _
 ·exact ⟨rfl,Nat.zero_le _⟩

def S_spec_RandomNumber:Sum:={ fid:=175,dom:=[(.int 3),(.int 3),(.int 3)],cod:=[(.int 3)],dp:=true,fz:=false,pre:=fun x=>True,g:=fun x=>((rndN x.1 x.2.1 x.2.2.1),()) }
def S_spec_RandomNumber_tab:List (Nat×Sum):=[(92,S_spec_l1In),(164,S_spec_KeyedHash)]
theorem S_spec_RandomNumber_ok:FnOK Tryz.prog 175 S_spec_RandomNumber:=by
 refine at_enter 21 (fun x=>⟨[(0,aI x.1),(1,aI x.2.1),(2,aI x.2.2.1)],[]⟩) Tryz.func175 rfl (by kernel_rfl) (fun x=>rfl) ?_
 rintro w0 Z0 ⟨x0,x1,x2,u⟩ a w
 revert x0 x1 x2
 intro (x0:Int) (x1:Int) (x2:Int) hpre hlens h
 have hT:TabOK Tryz.prog S_spec_RandomNumber_tab:=(.cons S_spec_l1In_ok (.cons S_spec_KeyedHash_ok .nil))
 have hkb:=keyed_bd x0 ([x1,71])
 refine wp_seq ?_
 refine at_regq [] { ts:=[0,1,2,6],os:=[] } [] gamOK hT h (by kernel_rfl) trivial fun a w h=>then_normal (wp_seq (wp_seq ?_))
 refine at_regq [] { ts:=[0,1,2,6,10],os:=[] } [True] gamOK hT h (by kernel_rfl) ⟨trivial,trivial⟩ fun a w h=>then_normal ?_
 refine at_test (!(inR x2 1 1000000000000)) h (by kernel_rfl) (fun h1=>?_) (fun h1=>?_)
 ·replace h1 : (inR x2 1 1000000000000) = false := notT h1
  have hvh1:=inR_f h1
  refine wp_seq ?_
  refine at_regq [] { ts:=[0,1,2,6],os:=[] } [] gamOK hT h (by kernel_rfl) trivial fun a w h=>then_normal (wp_ret (then_ret ?_))
  exact at_return (0,()) [] h (by kernel_rfl) trivial (congrArg (fun z=>(z,())) (show (0)=rndN x0 x1 x2 from by first | rfl | (unfold rndN;rw [if_neg (neT h1)];done) | (unfold rndN;simp_all)))
 ·replace h1 : (inR x2 1 1000000000000) = true := notF h1
  have hvh1:=inR_t h1
  refine wp_skip (then_normal (wp_seq ?_))
  refine at_regq [{},{},{ ids:=[1] }] { ts:=[2,6,7],os:=[] } [pKey x0 ([x1,71])] gamOK hT h (by kernel_rfl) ⟨(by (show _≤_;simp)),trivial⟩ fun a w h=>then_normal (wp_seq ?_)
  refine at_regq [{},{},{ nw:=true }] { ts:=[6],os:=[] } [I64 ((keyed x0 ([x1,71]))*(keyed x0 ([x1,71]))),(2147483647:Int)≠0,(x2:Int)≠0] gamOK hT h (by kernel_rfl) ⟨⟨by (have hA0:=mul_f (keyed x0 ([x1,71])) (keyed x0 ([x1,71]));first | omega | (simp only [lsA];omega) | (simp<;>omega)),by (have hA0:=mul_f (keyed x0 ([x1,71])) (keyed x0 ([x1,71]));first | omega | (simp only [lsA];omega) | (simp<;>omega))⟩,(by first | omega | (simp only [lsA];omega) | (simp<;>omega)),(by first | omega | (simp only [lsA];omega) | (simp<;>omega)),trivial⟩ fun a w h=>then_normal (wp_ret ?_)
  exact at_return ((Int.tmod (Int.tmod ((keyed x0 ([x1,71]))*(keyed x0 ([x1,71]))) 2147483647) x2),()) [] h (by kernel_rfl) trivial (congrArg (fun z=>(z,())) (show ((Int.tmod (Int.tmod ((keyed x0 ([x1,71]))*(keyed x0 ([x1,71]))) 2147483647) x2))=rndN x0 x1 x2 from by first | rfl | (unfold rndN;rw [if_pos h1];done) | (unfold rndN;simp_all)))

abbrev Q_spec_Combine:=(fun (x0:(List (List Int))) (x1:(List Int))=>Sh.fit s24 x0∧Sh.fit s39 x1)
def S_spec_Combine:Sum:={ fid:=74,dom:=[s24,s39],cod:=[s39],dp:=true,fz:=false,pre:=fun x=>Q_spec_Combine x.1 x.2.1,g:=fun x=>((combV x.1 x.2.1),()) }
def S_spec_Combine_tab:List (Nat×Sum):=[(73,S_spec_IsValidVector),(116,S_spec_AddScaled)]
theorem S_spec_Combine_ok:FnOK Tryz.prog 74 S_spec_Combine:=by
 refine at_enter 64 (fun x=>⟨[(0,aF s39 x.1),(1,aF (.int 3) x.2.1)],[]⟩) Tryz.func74 rfl (by kernel_rfl) (fun x=>rfl) ?_
 rintro w0 Z0 ⟨x0,x1,u⟩ a w
 revert x0 x1
 intro (x0:(List (List Int))) (x1:(List Int)) hpre hlens h
 replace hpre:Q_spec_Combine x0 x1:=hpre
 have hT:TabOK Tryz.prog S_spec_Combine_tab:=(.cons S_spec_IsValidVector_ok (.cons S_spec_AddScaled_ok .nil))
 obtain ⟨hf0,hf1⟩:=hpre
 have hn0_1:List.length x0≤1073741824:=hf0.1
 have hn1_2:List.length x1≤1073741824:=hf1.1
 refine wp_seq ?_
 refine at_regq [] { ts:=[0,1,4],os:=[] } [] gamOK hT h (by kernel_rfl) trivial fun a w h=>then_normal (wp_seq (wp_seq ?_))
 by_cases h1:((List.length x0:Nat):Int)=0
 ·refine at_regq [{}, {}, { hint := some (aB true) }] { ts := [0, 1, 4, 21], os := [] } [(AV.p (.c (.v (.bool (decide (((List.length x0 : Nat) : Int) = 0))))) = AV.p (.c (.v (.bool true))))] gamOK hT h (by kernel_rfl) ⟨hint_bool (decide_eq_true h1), trivial⟩ fun a w h => then_normal ?_
  refine at_test true h (by kernel_rfl) (fun hh=>?_) (fun hh=>nomatch hh)
  refine wp_seq ?_
  refine at_regq [{ ids:=[1] }] { ts:=[0,1,4],os:=[1] } [] gamOK hT h (by kernel_rfl) trivial fun a w h=>then_normal (wp_ret (then_ret ?_))
  exact at_return (([]:List Int),()) [] h (by kernel_rfl) trivial (congrArg (fun z=>(z,())) (show (([]:List Int))=combV x0 x1 from by first | exact combV_n (by first | (left;omega) | (right;left;omega) | (right;right;left;assumption) | (right;right;right;assumption)) | (rw [← combV_y (by omega) (by omega) (by assumption) (all_of (z:=[]) (i:=i) (by omega) hok0.2)];show _=combTo x0 x1 (List.length x0);rw [show List.length x0=i by omega];done) | exact combV_n (Or.inr (Or.inr (Or.inr (all_at (z:=[]) (i:=i) (by omega) (by (show ((validV _) && _)=false;rw [Bool.and_eq_false_iff];first | (left;assumption) | (right;exact decide_eq_false (by omega))))))))))
 ·by_cases h2 : ((List.length x0 : Nat) : Int) = ((List.length x1 : Nat) : Int)
  ·refine at_regq [{}, {}, { hint := some (aB false) }, {}, {}, {}, {}, {}, { hint := some (aB false) }] { ts := [0, 1, 4, 21], os := [] } [(AV.p (.c (.v (.bool (decide (((List.length x0 : Nat) : Int) = 0))))) = AV.p (.c (.v (.bool false)))), (AV.p (.c (.v (.bool (!decide (((List.length x0 : Nat) : Int) = ((List.length x1 : Nat) : Int)))))) = AV.p (.c (.v (.bool false)))), Q_spec_IsValidVector x1] gamOK hT h (by kernel_rfl) ⟨hint_bool (decide_eq_false h1), hint_bool (ndT h2), (by exact hf1), trivial⟩ fun a w h => then_normal ?_
   refine at_test (!(validV x1)) h (by kernel_rfl) (fun h3=>?_) (fun h3=>?_)
   ·replace h3 : (validV x1) = false := notT h3
    refine wp_seq ?_
    refine at_regq [{ ids:=[1] }] { ts:=[0,1,4],os:=[1] } [] gamOK hT h (by kernel_rfl) trivial fun a w h=>then_normal (wp_ret (then_ret ?_))
    exact at_return (([]:List Int),()) [] h (by kernel_rfl) trivial (congrArg (fun z=>(z,())) (show (([]:List Int))=combV x0 x1 from by first | exact combV_n (by first | (left;omega) | (right;left;omega) | (right;right;left;assumption) | (right;right;right;assumption)) | (rw [← combV_y (by omega) (by omega) (by assumption) (all_of (z:=[]) (i:=i) (by omega) hok0.2)];show _=combTo x0 x1 (List.length x0);rw [show List.length x0=i by omega];done) | exact combV_n (Or.inr (Or.inr (Or.inr (all_at (z:=[]) (i:=i) (by omega) (by (show ((validV _) && _)=false;rw [Bool.and_eq_false_iff];first | (left;assumption) | (right;exact decide_eq_false (by omega))))))))))
   ·replace h3 : (validV x1) = true := notF h3
    have hvh3:=validV_t h3
    refine wp_skip (then_normal (wp_seq ?_))
    refine at_regq [{},{},{},{},{ ids:=[2] }] { ts:=[0,1,4,5],os:=[2] } [(0:Int)≤0∧0 < ((List.length x0:Nat):Int),(0:Int)≤((List.length (x0.getD 0 []):Nat):Int)∧((List.length (x0.getD 0 []):Nat):Int)=((List.length (x0.getD 0 []):Nat):Int)∧((List.length (x0.getD 0 []):Nat):Int)*(8:Nat)≤(140737488355328:Int)] gamOK hT h (by kernel_rfl) ⟨(by refine ⟨?_,?_⟩<;>(first | omega | (simp only [lsA];omega) | (simp<;>omega))),(by refine ⟨?_,?_,?_⟩<;>((have hA0:=mul_f ((List.length (x0.getD 0 []):Nat):Int) (8:Nat);have hL1:=(show List.length (x0.getD 0 [])≤1073741824 from ((Sh.fit_getD hf0 0)).1);first | omega | (simp only [lsA];omega) | (simp<;>omega)))),trivial⟩ fun a w h=>then_normal (wp_seq (wp_seq ?_))
    refine at_regq [] { ts:=[0,1,4,5,6],os:=[2] } [] gamOK hT h (by kernel_rfl) trivial fun a w h=>then_normal (wp_block ?_)
    replace h:=at_out (σ':=⟨[(0,aF s39 x0),(1,aF (.int 3) x1),(4,.p (.c (cN))),(5,aS 2),(6,aI 0)],[(2,oR (.int 3) (List.replicate (List.length (x0.getD 0 [])) (0:Int)))]⟩) { ts:=[0,1,4,5,6],os:=[2] } h (by kernel_rfl)
    refine at_loop (fun i:Nat=>(⟨[(0,aF s39 x0),(1,aF (.int 3) x1),(4,.p (.c (cN))),(5,aS 2),(6,aI ((i:Nat):Int))],[(2,oR (.int 3) (combTo x0 x1 i))]⟩:St)) (fun i=>(i≤List.length x0∧allTo1 (cvB x0) x0 [] i)) (fun i=>List.length x0 - i) (0) h (st_congr2 (fun (d0:List Int) (d1:Int)=>(⟨[(0,aF s39 x0),(1,aF (.int 3) x1),(4,.p (.c (cN))),(5,aS 2),(6,aI d1)],[(2,oR (.int 3) d0)]⟩:St)) (show ((List.replicate (List.length (x0.getD 0 [])) (0:Int)):List Int)=(combTo x0 x1 (0)) from by first | with_reducible rfl | (rfl) | rfl) (show (0:Int)=(((0):Nat):Int) from by first | with_reducible rfl | (rfl) | rfl)) (by exact ⟨Nat.zero_le _,allTo1_zero⟩) ?_
    intro i a w hok0 h
    refine wp_seq (wp_seq ?_)
    refine at_regq [] { ts:=[0,1,4,5,6,31],os:=[2] } [] gamOK hT h (by kernel_rfl) trivial fun a w h=>then_normal ?_
    refine at_test (decide (((i:Nat):Int) < ((List.length x0:Nat):Int))) h (by kernel_rfl) (fun h4=>?_) (fun h4=>?_)
    ·replace h4 : ((i : Nat) : Int) < ((List.length x0 : Nat) : Int) := of_decide_eq_true h4
     have hvr:=(validV_t (v:=x1) (by assumption)).2.2
     have hck:=hvr i
     refine wp_skip (then_normal (wp_seq (wp_block (wp_seq (wp_seq ?_)))))
     rcases Bool.eq_false_or_eq_true (!(validV (x0.getD i []))) with h5 | h5
     ·have hzh5 : (validV (x0.getD i [])) = false := notT h5
      refine at_anyq [{},{},{},{},{},{ hint:=some (aB true) },{},{},{},{},{},{},{},{},{},{},{},{}] { ts:=[0,1,4,5,6,41,42,43,44,45,46,47,48,49,50,51],os:=[2] } [(0:Int)≤((i:Nat):Int)∧((i:Nat):Int) < ((List.length x0:Nat):Int),Q_spec_IsValidVector (x0.getD i []),(AV.p (.c (.v (.bool (!(validV (x0.getD i []))))))=AV.p (.c (.v (.bool true))))] gamOK hT mixed h (by kernel_rfl) ⟨(by refine ⟨?_,?_⟩<;>(first | omega | (simp only [lsA];omega) | (simp<;>omega))),(by exact (Sh.fit_getD hf0 i)),hint_bool (h5),trivial⟩ fun a w h=>then_normal ?_
      refine at_test true h (by kernel_rfl) (fun hh=>?_) (fun hh=>nomatch hh)
      refine wp_seq ?_
      refine at_regq [{ ids:=[3] }] { ts:=[0,1,4,5,6,41,42,43,44,45,46,47,48,49,50],os:=[2,3] } [] gamOK hT h (by kernel_rfl) trivial fun a w h=>then_normal (wp_ret (then_ret (in_ret (then_ret (then_ret (in_ret (then_ret ?_)))))))
      exact at_return (([]:List Int),()) [] h (by kernel_rfl) trivial (congrArg (fun z=>(z,())) (show (([]:List Int))=combV x0 x1 from by first | exact combV_n (by first | (left;omega) | (right;left;omega) | (right;right;left;assumption) | (right;right;right;assumption)) | (rw [← combV_y (by omega) (by omega) (by assumption) (all_of (z:=[]) (i:=i) (by omega) hok0.2)];show _=combTo x0 x1 (List.length x0);rw [show List.length x0=i by omega];done) | exact combV_n (Or.inr (Or.inr (Or.inr (all_at (z:=[]) (i:=i) (by omega) (by (show ((validV _) && _)=false;rw [Bool.and_eq_false_iff];first | (left;assumption) | (right;exact decide_eq_false (by omega))))))))))
     ·have hzh5 : (validV (x0.getD i [])) = true := notF h5
      have hvh5:=validV_t (notF h5)
      refine at_anyq [{},{},{},{},{},{ hint:=some (aB false) },{},{},{},{},{},{},{},{},{},{},{},{}] { ts:=[0,1,4,5,6,41,42,43,44,45,46,47,48,49,50,51],os:=[2] } [(0:Int)≤((i:Nat):Int)∧((i:Nat):Int) < ((List.length x0:Nat):Int),Q_spec_IsValidVector (x0.getD i []),(AV.p (.c (.v (.bool (!(validV (x0.getD i []))))))=AV.p (.c (.v (.bool false)))),(0:Int)≤((i:Nat):Int)∧((i:Nat):Int) < ((List.length x0:Nat):Int),(0:Int)≤0∧0 < ((List.length x0:Nat):Int)] gamOK hT mixed h (by kernel_rfl) ⟨(by refine ⟨?_,?_⟩<;>(first | omega | (simp only [lsA];omega) | (simp<;>omega))),(by exact (Sh.fit_getD hf0 i)),hint_bool (h5),(by refine ⟨?_,?_⟩<;>(first | omega | (simp only [lsA];omega) | (simp<;>omega))),(by refine ⟨?_,?_⟩<;>(first | omega | (simp only [lsA];omega) | (simp<;>omega))),trivial⟩ fun a w h=>then_normal ?_
      refine at_test (!decide (((List.length (x0.getD i []):Nat):Int)=((List.length (x0.getD 0 []):Nat):Int))) h (by kernel_rfl) (fun h6=>?_) (fun h6=>?_)
      ·replace h6 : ¬ (((List.length (x0.getD i []) : Nat) : Int) = ((List.length (x0.getD 0 []) : Nat) : Int)) := of_decide_eq_false (notT h6)
       refine wp_seq ?_
       refine at_regq [{ ids:=[3] }] { ts:=[0,1,4,5,6,41,42,43,44,45,46,47,48,49,50],os:=[2,3] } [] gamOK hT h (by kernel_rfl) trivial fun a w h=>then_normal (wp_ret (then_ret (in_ret (then_ret (then_ret (in_ret (then_ret ?_)))))))
       exact at_return (([]:List Int),()) [] h (by kernel_rfl) trivial (congrArg (fun z=>(z,())) (show (([]:List Int))=combV x0 x1 from by first | exact combV_n (by first | (left;omega) | (right;left;omega) | (right;right;left;assumption) | (right;right;right;assumption)) | (rw [← combV_y (by omega) (by omega) (by assumption) (all_of (z:=[]) (i:=i) (by omega) hok0.2)];show _=combTo x0 x1 (List.length x0);rw [show List.length x0=i by omega];done) | exact combV_n (Or.inr (Or.inr (Or.inr (all_at (z:=[]) (i:=i) (by omega) (by (show ((validV _) && _)=false;rw [Bool.and_eq_false_iff];first | (left;assumption) | (right;exact decide_eq_false (by omega))))))))))
      ·replace h6 : ((List.length (x0.getD i []) : Nat) : Int) = ((List.length (x0.getD 0 []) : Nat) : Int) := of_decide_eq_true (notF h6)
       refine wp_skip (then_normal ?_)
       refine at_anyq [{},{},{},{},{},{},{},{},{},{ ids:=[4] },{}] { ts:=[0,1,4,5,6,41,42,43,44,45,46,47,48,49,50],os:=[4] } [(0:Int)≤((i:Nat):Int)∧((i:Nat):Int) < ((List.length x0:Nat):Int),(0:Int)≤((i:Nat):Int)∧((i:Nat):Int) < ((List.length x1:Nat):Int),Q_spec_AddScaled (combTo x0 x1 i) (x0.getD i []) (x1.getD i 0)] gamOK hT mixed h (by kernel_rfl) ⟨(by refine ⟨?_,?_⟩<;>(first | omega | (simp only [lsA];omega) | (simp<;>omega))),(by refine ⟨?_,?_⟩<;>(first | omega | (simp only [lsA];omega) | (simp<;>omega))),(by (have hci:cvB x0 (x0.getD i [])=true:=(by (show ((validV _) && _)=true;rw [Bool.and_eq_true];exact ⟨by assumption,decide_eq_true (by omega)⟩));have hcv:=cvB_ok hci;have hco:=combTo_ok (n:=List.length (x0.getD 0 [])) (vs:=x0) (cs:=x1) rfl hvr i (fun j hj=>cvB_ok (hok0.2 j hj));exact ⟨fitV hco (cvB_40 hci),fitV hcv (cvB_40 hci)⟩)),trivial⟩ fun a w h=>in_normal (then_normal ?_)
       refine at_regq [{},{ nw:=true }] { ts:=[0,1,4,5,6,41,42,43,44,45,46,47,48,49,50],os:=[4] } [I64 (((i:Nat):Int)+1)] gamOK hT h (by kernel_rfl) ⟨⟨by first | omega | (simp only [lsA];omega) | (simp<;>omega),by first | omega | (simp only [lsA];omega) | (simp<;>omega)⟩,trivial⟩ fun a w h=>?_
       replace h:=at_out (σ':=⟨[(0,aF s39 x0),(1,aF (.int 3) x1),(4,.p (.c (cN))),(5,aS 2),(6,aI (((i:Nat):Int)+1))],[(2,oR (.int 3) (addV (combTo x0 x1 i) (x0.getD i []) (x1.getD i 0)))]⟩) { ts:=[0,1,4,5,6],os:=[4],rn:=[(4,2)] } h (by kernel_rfl)
       exact ⟨i+1,at_eq h (st_congr2 (fun (d0:List Int) (d1:Int)=>(⟨[(0,aF s39 x0),(1,aF (.int 3) x1),(4,.p (.c (cN))),(5,aS 2),(6,aI d1)],[(2,oR (.int 3) d0)]⟩:St)) (show ((addV (combTo x0 x1 i) (x0.getD i []) (x1.getD i 0)):List Int)=(combTo x0 x1 (i+1)) from by first | with_reducible rfl | ((have hci:cvB x0 (x0.getD i [])=true:=(by (show ((validV _) && _)=true;rw [Bool.and_eq_true];exact ⟨by assumption,decide_eq_true (by omega)⟩));have hcv:=cvB_ok hci;have hco:=combTo_ok (n:=List.length (x0.getD 0 [])) (vs:=x0) (cs:=x1) rfl hvr i (fun j hj=>cvB_ok (hok0.2 j hj));rw [addV_L hco hcv (cvB_40 hci) (by omega)];rfl)) | rfl) (show (((i:Nat):Int)+1:Int)=(((i+1):Nat):Int) from by first | with_reducible rfl | (omega) | rfl)),(by exact ⟨by omega,allTo1_succ hok0.2 (by (show ((validV _) && _)=true;rw [Bool.and_eq_true];exact ⟨by assumption,decide_eq_true (by omega)⟩))⟩),(by omega)⟩
    ·replace h4 : ¬ (((i : Nat) : Int) < ((List.length x0 : Nat) : Int)) := of_decide_eq_false h4
     refine wp_exit (then_exit (then_exit (in_hit (then_normal (wp_seq ?_)))))
     refine at_regq [] { ts:=[4],os:=[2] } [] gamOK hT h (by kernel_rfl) trivial fun a w h=>then_normal (wp_ret ?_)
     exact at_return ((combTo x0 x1 i),()) [] h (by kernel_rfl) trivial (congrArg (fun z=>(z,())) (show ((combTo x0 x1 i))=combV x0 x1 from by first | exact combV_n (by first | (left;omega) | (right;left;omega) | (right;right;left;assumption) | (right;right;right;assumption)) | (rw [← combV_y (by omega) (by omega) (by assumption) (all_of (z:=[]) (i:=i) (by omega) hok0.2)];show _=combTo x0 x1 (List.length x0);rw [show List.length x0=i by omega];done) | exact combV_n (Or.inr (Or.inr (Or.inr (all_at (z:=[]) (i:=i) (by omega) (by (show ((validV _) && _)=false;rw [Bool.and_eq_false_iff];first | (left;assumption) | (right;exact decide_eq_false (by omega))))))))))
  ·refine at_regq [{}, {}, { hint := some (aB false) }, {}, {}, {}, {}, {}, { hint := some (aB true) }] { ts := [0, 1, 4, 21], os := [] } [(AV.p (.c (.v (.bool (decide (((List.length x0 : Nat) : Int) = 0))))) = AV.p (.c (.v (.bool false)))), (AV.p (.c (.v (.bool (!decide (((List.length x0 : Nat) : Int) = ((List.length x1 : Nat) : Int)))))) = AV.p (.c (.v (.bool true))))] gamOK hT h (by kernel_rfl) ⟨hint_bool (decide_eq_false h1), hint_bool (ndF h2), trivial⟩ fun a w h => then_normal ?_
   refine at_test true h (by kernel_rfl) (fun hh=>?_) (fun hh=>nomatch hh)
   refine wp_seq ?_
   refine at_regq [{ ids:=[1] }] { ts:=[0,1,4],os:=[1] } [] gamOK hT h (by kernel_rfl) trivial fun a w h=>then_normal (wp_ret (then_ret ?_))
   exact at_return (([]:List Int),()) [] h (by kernel_rfl) trivial (congrArg (fun z=>(z,())) (show (([]:List Int))=combV x0 x1 from by first | exact combV_n (by first | (left;omega) | (right;left;omega) | (right;right;left;assumption) | (right;right;right;assumption)) | (rw [← combV_y (by omega) (by omega) (by assumption) (all_of (z:=[]) (i:=i) (by omega) hok0.2)];show _=combTo x0 x1 (List.length x0);rw [show List.length x0=i by omega];done) | exact combV_n (Or.inr (Or.inr (Or.inr (all_at (z:=[]) (i:=i) (by omega) (by (show ((validV _) && _)=false;rw [Bool.and_eq_false_iff];first | (left;assumption) | (right;exact decide_eq_false (by omega))))))))))

def codePk (g:T26) (cs:List Int):T41×Bool:=if validG g=true∧validV cs=true∧cs.length=g.2.length then ((g.1,cs,combV g.2 cs),true) else ((0,[],[]),false)
theorem codePk_y {g:T26} {cs:List Int} (h1:validG g=true) (h2:validV cs=true) (h3:cs.length=g.2.length):((g.1,cs,combV g.2 cs),true)=codePk g cs:=(if_pos ⟨h1,h2,h3⟩).symm
theorem codePk_n {g:T26} {cs:List Int} (h:validG g=false∨validV cs=false∨¬ cs.length=g.2.length):((0,[],[]),false)=codePk g cs:=by
 unfold codePk;rw [if_neg]
 rintro ⟨h1,h2,h3⟩
 rcases h with h | h | h
 ·rw [h1] at h;cases h
 ·rw [h2] at h;cases h
 ·exact h h3
theorem genC {g:T26} (h:validG g=true) {cs:List Int} (hc:LA.VokB g.2.length cs):combV g.2 cs=combS g.2 cs:=by
 have h1:=validG_t h
 have hm:=validM_t h1.2.2.1
 refine (combV_y (by omega) hc.1.symm (validV_of hc (by omega)) ?_).symm
 rw [List.all_eq_true];intro v hv
 have h2:=hm.2 v hv
 unfold cvB
 rw [Bool.and_eq_true];exact ⟨h2.1,decide_eq_true h2.2⟩
end Go.Proofs.YtgeonngfipikeaaGreat
