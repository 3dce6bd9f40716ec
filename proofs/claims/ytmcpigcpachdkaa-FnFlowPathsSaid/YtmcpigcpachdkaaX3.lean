/- The walks of the functions that the law reaches: each summary holds. No condition. -/
import Derived.Test.YtmcpigcpachdkaaX2
import Derived.Test.YtmcpigcpachdkaaLA
import Derived.Test.YtmcpigcpachdkaaProg
namespace Go.Proofs.Ytmcpigcpachdkaa
open Go.RowKit
set_option linter.unusedVariables false
set_option linter.unusedSimpArgs false
abbrev Q_spec_l22Run:=(fun (x0:T26) (x1:Int) (x2:Int)=>Sh.fit s26 x0∧qOK x0 x1 x2=true)
def S_spec_l22Run:Sum:={ fid:=18,dom:=[s26,(.int 3),(.int 3)],cod:=[s31,s29],dp:=true,fz:=false,pre:=fun x=>Q_spec_l22Run x.1 x.2.1 x.2.2.1,g:=fun x=>((mfR x.1 x.2.1 x.2.2.1).1,((mfR x.1 x.2.1 x.2.2.1).2,())) }
def S_spec_l22Run_tab:List (Nat×Sum):=[(33,S_spec_l22Search),(26,S_spec_l21Has)]
theorem S_spec_l22Run_ok:FnOK Try.prog 18 S_spec_l22Run:=by
 refine at_enter 92 (fun x=>⟨[(0,aG [cI x.1.1,.ro s58 x.1.2]),(1,aI x.2.1),(2,aI x.2.2.1)],[]⟩) Try.func18 rfl (by kernel_rfl) (fun x=>rfl) ?_
 rintro w0 Z0 ⟨x0,x1,x2,u⟩ a w
 revert x0 x1 x2
 intro (x0:T26) (x1:Int) (x2:Int) hpre hlens h
 replace hpre:Q_spec_l22Run x0 x1 x2:=hpre
 have hT:TabOK Try.prog w0 [] S_spec_l22Run_tab:=(.cons S_spec_l22Search_ok (.cons S_spec_l21Has_ok .nil))
 obtain ⟨hf0,hpx⟩:=hpre
 have hn0_1:List.length x0.2≤1073741824:=hf0.2.1
 have hE:=(qOK_t hpx).1
 have hs:=(qOK_t hpx).2.1
 have ht:=(qOK_t hpx).2.2.1
 have hne:=(qOK_t hpx).2.2.2
 have hsz:=hE.szb
 have hel:=hE.len
 refine wp_seq ?_
 refine at_regq [{ ids:=[1] },{ ids:=[2] }] { ts:=[1,2,3,6,7],os:=[1,2] } [] gamOK hT h (by kernel_rfl) trivial fun a w h=>then_normal (wp_seq ?_)
 refine at_regq [{},{},{},{ ids:=[3] },{},{ ids:=[4] }] { ts:=[1,2,3,6,7,8],os:=[1,2,3,4] } [(0:Int)≤((List.length x0.2:Nat):Int)∧((List.length x0.2:Nat):Int)=((List.length x0.2:Nat):Int)∧((List.length x0.2:Nat):Int)*(8:Nat)≤(140737488355328:Int)] gamOK hT h (by kernel_rfl) ⟨(by refine ⟨?_,?_,?_⟩<;>((have hA0:=mul_f ((List.length x0.2:Nat):Int) (8:Nat);first | omega | (simp only [lsA];omega) | (simp<;>omega)))),trivial⟩ fun a w h=>then_normal (wp_block ?_)
 replace h:=at_out (σ':=⟨[(1,aI x1),(2,aI x2),(3,aP 1 0),(6,aP 2 0),(7,.p (.c (cN))),(8,aP 4 0)],[(1,oX 26 [cI x0.1,.ro s58 x0.2]),(2,oX 31 [cN]),(3,oR (.int 3) (List.replicate (List.length x0.2) (0:Int))),(4,oX 31 [.sl 3])]⟩) { ts:=[1,2,3,6,7,8],os:=[1,2,3,4] } h (by kernel_rfl)
 refine at_loop (fun i0:Nat=>(⟨[(1,aI x1),(2,aI x2),(3,aP 1 0),(6,aP 2 0),(7,.p (.c (cN))),(8,aP 4 0)],[(1,oX 26 [cI x0.1,.ro s58 x0.2]),(2,oX 31 [cN]),(3,oR (.int 3) (flIt x0.2 x1 x2 i0)),(4,oX 31 [.sl 3])]⟩:St)) (fun i0=>(i0≤160∧∀ j,j < i0→fndB x0.2 x1 x2 j=true)) (fun i0=>200 - i0) (0) h (st_congr1 (fun (d0:List Int)=>(⟨[(1,aI x1),(2,aI x2),(3,aP 1 0),(6,aP 2 0),(7,.p (.c (cN))),(8,aP 4 0)],[(1,oX 26 [cI x0.1,.ro s58 x0.2]),(2,oX 31 [cN]),(3,oR (.int 3) d0),(4,oX 31 [.sl 3])]⟩:St)) (show ((List.replicate (List.length x0.2) (0:Int)):List Int)=(flIt x0.2 x1 x2 (0)) from by first | with_reducible rfl | (first | rfl | (simp [flIt];done)) | rfl)) (by exact ⟨Nat.zero_le _,fun j h=>absurd h (by omega)⟩) ?_
 intro i0 a w hok0 h
 have hfl:=(flIt_ok (t:=x2) hE hs i0).1
 have hfll:=hfl.1
 have hG0:=fun b=>srIt_good (f:=(flIt x0.2 x1 x2 i0)) hE hs b
 have hGs:Good x0.2 (flIt x0.2 x1 x2 i0) x0.1 x1 (srch x0.2 (flIt x0.2 x1 x2 i0) x1):=(by unfold srch;exact hG0 8)
 refine wp_block (wp_seq ?_)
 refine at_regq [{},{},{},{ ids:=[5,6] }] { ts:=[1,2,3,6,7,8,9,10],os:=[1,2,3,4,5,6] } [Q_spec_l22Search x0 (flIt x0.2 x1 x2 i0) x1] gamOK hT h (by kernel_rfl) ⟨(by exact ⟨hf0,cap_fit (t:=29) hfl hE,⟨hE,hfl⟩,hs⟩),trivial⟩ fun a w h=>then_normal (wp_seq (wp_seq ?_))
 refine at_regq [] { ts:=[1,2,3,6,7,8,9,10,28],os:=[1,2,3,4,5,6] } [Q_spec_l21Has (fsts (srch x0.2 (flIt x0.2 x1 x2 i0) x1)) x2] gamOK hT h (by kernel_rfl) ⟨(by exact Sh.fit_len rfl (by have:=fsts_len (srch x0.2 (flIt x0.2 x1 x2 i0) x1);have:=hGs.len hE;omega)),trivial⟩ fun a w h=>then_normal ?_
 refine at_test (!(hasL (fsts (srch x0.2 (flIt x0.2 x1 x2 i0) x1)) x2)) h (by kernel_rfl) (fun h1=>?_) (fun h1=>?_)
 ·replace h1 : (hasL (fsts (srch x0.2 (flIt x0.2 x1 x2 i0) x1)) x2) = false := notT h1
  refine wp_seq ?_
  refine at_regq [] { ts:=[1,2,3,6,7,8,10],os:=[1,2,3,4,5,6] } [] gamOK hT h (by kernel_rfl) trivial fun a w h=>then_normal (wp_ret (then_ret (in_ret (then_ret (in_ret ?_)))))
  exact at_return ((flIt x0.2 x1 x2 i0),((fsts (srch x0.2 (flIt x0.2 x1 x2 i0) x1)),())) [] h (by kernel_rfl) trivial (congrArg (fun z=>(z.1,z.2,())) (show (((flIt x0.2 x1 x2 i0),(fsts (srch x0.2 (flIt x0.2 x1 x2 i0) x1))))=mfR x0 x1 x2 from by exact mfR_at2 (by assumption) (by have:=hok0.1;omega)))
 ·replace h1 : (hasL (fsts (srch x0.2 (flIt x0.2 x1 x2 i0) x1)) x2) = true := notF h1
  refine wp_skip (then_normal (wp_seq ?_))
  refine at_regq [] { ts:=[1,2,3,6,7,8,10,11],os:=[1,2,3,4,6] } [] gamOK hT h (by kernel_rfl) trivial fun a w h=>then_normal (wp_block ?_)
  replace h:=at_out (σ':=⟨[(1,aI x1),(2,aI x2),(3,aP 1 0),(6,aP 2 0),(7,.p (.c (cN))),(8,aP 4 0),(10,aS 6),(11,aI x2)],[(1,oX 26 [cI x0.1,.ro s58 x0.2]),(2,oX 31 [cN]),(3,oR (.int 3) (flIt x0.2 x1 x2 i0)),(4,oX 31 [.sl 3]),(6,oR (.int 3) (byL x0.1 (srch x0.2 (flIt x0.2 x1 x2 i0) x1)))]⟩) { ts:=[1,2,3,6,7,8,10,11],os:=[1,2,3,4,6] } h (by kernel_rfl)
  refine at_loop (fun i4:Nat=>(⟨[(1,aI x1),(2,aI x2),(3,aP 1 0),(6,aP 2 0),(7,.p (.c (cN))),(8,aP 4 0),(10,aS 6),(11,aI (tpIt x0.2 (srch x0.2 (flIt x0.2 x1 x2 i0) x1) x1 ((flIt x0.2 x1 x2 i0),x2) i4).2)],[(1,oX 26 [cI x0.1,.ro s58 x0.2]),(2,oX 31 [cN]),(3,oR (.int 3) (tpIt x0.2 (srch x0.2 (flIt x0.2 x1 x2 i0) x1) x1 ((flIt x0.2 x1 x2 i0),x2) i4).1),(4,oX 31 [.sl 3]),(6,oR (.int 3) (byL x0.1 (srch x0.2 (flIt x0.2 x1 x2 i0) x1)))]⟩:St)) (fun i4=>TpOK x0.2 (flIt x0.2 x1 x2 i0) x1 x2 (srch x0.2 (flIt x0.2 x1 x2 i0) x1) i4 (tpIt x0.2 (srch x0.2 (flIt x0.2 x1 x2 i0) x1) x1 ((flIt x0.2 x1 x2 i0),x2) i4)) (fun i4=>8 - i4) (0) h (st_congr2 (fun (d0:List Int) (d1:Int)=>(⟨[(1,aI x1),(2,aI x2),(3,aP 1 0),(6,aP 2 0),(7,.p (.c (cN))),(8,aP 4 0),(10,aS 6),(11,aI d1)],[(1,oX 26 [cI x0.1,.ro s58 x0.2]),(2,oX 31 [cN]),(3,oR (.int 3) d0),(4,oX 31 [.sl 3]),(6,oR (.int 3) (byL x0.1 (srch x0.2 (flIt x0.2 x1 x2 i0) x1)))]⟩:St)) (show ((flIt x0.2 x1 x2 i0):List Int)=(tpIt x0.2 (srch x0.2 (flIt x0.2 x1 x2 i0) x1) x1 ((flIt x0.2 x1 x2 i0),x2) (0)).1 from by first | with_reducible rfl | (rfl) | rfl) (show (x2:Int)=(tpIt x0.2 (srch x0.2 (flIt x0.2 x1 x2 i0) x1) x1 ((flIt x0.2 x1 x2 i0),x2) (0)).2 from by first | with_reducible rfl | (rfl) | rfl)) (by exact tp_zero hE hGs hfl (by rw [← hasL_fst];assumption)) ?_
  intro i4 a w hok1 h
  have htc:=hok1.cap
  have htl:=htc.1
  have hp7:i4≤7:=by obtain ⟨p,_,_,h7,_⟩:=hok1.pos;omega
  refine wp_seq (wp_seq ?_)
  refine at_regq [] { ts:=[1,2,3,6,7,8,10,11,34],os:=[1,2,3,4,6] } [] gamOK hT h (by kernel_rfl) trivial fun a w h=>then_normal ?_
  refine at_test (!decide ((tpIt x0.2 (srch x0.2 (flIt x0.2 x1 x2 i0) x1) x1 ((flIt x0.2 x1 x2 i0),x2) i4).2=x1)) h (by kernel_rfl) (fun h2=>?_) (fun h2=>?_)
  ·replace h2 : ¬ ((tpIt x0.2 (srch x0.2 (flIt x0.2 x1 x2 i0) x1) x1 ((flIt x0.2 x1 x2 i0), x2) i4).2 = x1) := of_decide_eq_false (notT h2)
   have hst4:=tp_step hE hGs hok1 (by assumption)
   have hbc:=by_code hE hGs hok1 (by assumption)
   have hb1:=hbc.1
   have hb2:((byL x0.1 (srch x0.2 (flIt x0.2 x1 x2 i0) x1)).getD (tpIt x0.2 (srch x0.2 (flIt x0.2 x1 x2 i0) x1) x1 ((flIt x0.2 x1 x2 i0),x2) i4).2.toNat 0)=(mget (srch x0.2 (flIt x0.2 x1 x2 i0) x1) (tpIt x0.2 (srch x0.2 (flIt x0.2 x1 x2 i0) x1) x1 ((flIt x0.2 x1 x2 i0),x2) i4).2).getD 0:=hbc.2.1
   have hb3:=hbc.2.2.1
   rw [← hb2] at hb3
   have hb4:=hbc.2.2.2 ((byL x0.1 (srch x0.2 (flIt x0.2 x1 x2 i0) x1)).getD (tpIt x0.2 (srch x0.2 (flIt x0.2 x1 x2 i0) x1) x1 ((flIt x0.2 x1 x2 i0),x2) i4).2.toNat 0).toNat
   have hb5:=hbc.2.2.2 (((byL x0.1 (srch x0.2 (flIt x0.2 x1 x2 i0) x1)).getD (tpIt x0.2 (srch x0.2 (flIt x0.2 x1 x2 i0) x1) x1 ((flIt x0.2 x1 x2 i0),x2) i4).2.toNat 0) - ((List.length x0.2:Nat):Int)).toNat
   have hbl:=byL_len x0.1 (srch x0.2 (flIt x0.2 x1 x2 i0) x1)
   refine wp_skip (then_normal (wp_block (wp_seq ?_)))
   refine at_anyq [{},{},{},{},{},{},{},{}] { ts:=[1,2,3,6,7,8,10,11,42],os:=[1,2,3,4,6] } [(0:Int)≤(tpIt x0.2 (srch x0.2 (flIt x0.2 x1 x2 i0) x1) x1 ((flIt x0.2 x1 x2 i0),x2) i4).2∧(tpIt x0.2 (srch x0.2 (flIt x0.2 x1 x2 i0) x1) x1 ((flIt x0.2 x1 x2 i0),x2) i4).2 < ((List.length (byL x0.1 (srch x0.2 (flIt x0.2 x1 x2 i0) x1)):Nat):Int),((tpIt x0.2 (srch x0.2 (flIt x0.2 x1 x2 i0) x1) x1 ((flIt x0.2 x1 x2 i0),x2) i4).2).toNat < List.length (byL x0.1 (srch x0.2 (flIt x0.2 x1 x2 i0) x1))] gamOK hT mixed h (by kernel_rfl) ⟨(by refine ⟨?_,?_⟩<;>(first | omega | (simp only [lsA];omega) | (simp<;>omega))),(by first | omega | (simp only [lsA];omega) | (simp<;>omega)),trivial⟩ fun a w h=>then_normal ?_
   refine at_test (decide (((byL x0.1 (srch x0.2 (flIt x0.2 x1 x2 i0) x1)).getD (((tpIt x0.2 (srch x0.2 (flIt x0.2 x1 x2 i0) x1) x1 ((flIt x0.2 x1 x2 i0),x2) i4).2).toNat) 0) < ((List.length x0.2:Nat):Int))) h (by kernel_rfl) (fun h3=>?_) (fun h3=>?_)
   ·replace h3 : ((byL x0.1 (srch x0.2 (flIt x0.2 x1 x2 i0) x1)).getD (((tpIt x0.2 (srch x0.2 (flIt x0.2 x1 x2 i0) x1) x1 ((flIt x0.2 x1 x2 i0), x2) i4).2).toNat) 0) < ((List.length x0.2 : Nat) : Int) := of_decide_eq_true h3
    refine wp_seq ?_
    refine at_anyq [{},{},{},{},{},{},{},{},{},{},{},{},{},{},{ nw:=true },{},{}] { ts:=[1,2,3,6,7,8,10,11],os:=[1,2,3,4,6] } [(0:Int)≤(tpIt x0.2 (srch x0.2 (flIt x0.2 x1 x2 i0) x1) x1 ((flIt x0.2 x1 x2 i0),x2) i4).2∧(tpIt x0.2 (srch x0.2 (flIt x0.2 x1 x2 i0) x1) x1 ((flIt x0.2 x1 x2 i0),x2) i4).2 < ((List.length (byL x0.1 (srch x0.2 (flIt x0.2 x1 x2 i0) x1)):Nat):Int),((tpIt x0.2 (srch x0.2 (flIt x0.2 x1 x2 i0) x1) x1 ((flIt x0.2 x1 x2 i0),x2) i4).2).toNat < List.length (byL x0.1 (srch x0.2 (flIt x0.2 x1 x2 i0) x1)),(0:Int)≤(tpIt x0.2 (srch x0.2 (flIt x0.2 x1 x2 i0) x1) x1 ((flIt x0.2 x1 x2 i0),x2) i4).2∧(tpIt x0.2 (srch x0.2 (flIt x0.2 x1 x2 i0) x1) x1 ((flIt x0.2 x1 x2 i0),x2) i4).2 < ((List.length (byL x0.1 (srch x0.2 (flIt x0.2 x1 x2 i0) x1)):Nat):Int),((tpIt x0.2 (srch x0.2 (flIt x0.2 x1 x2 i0) x1) x1 ((flIt x0.2 x1 x2 i0),x2) i4).2).toNat < List.length (byL x0.1 (srch x0.2 (flIt x0.2 x1 x2 i0) x1)),(0:Int)≤((byL x0.1 (srch x0.2 (flIt x0.2 x1 x2 i0) x1)).getD (((tpIt x0.2 (srch x0.2 (flIt x0.2 x1 x2 i0) x1) x1 ((flIt x0.2 x1 x2 i0),x2) i4).2).toNat) 0)∧((byL x0.1 (srch x0.2 (flIt x0.2 x1 x2 i0) x1)).getD (((tpIt x0.2 (srch x0.2 (flIt x0.2 x1 x2 i0) x1) x1 ((flIt x0.2 x1 x2 i0),x2) i4).2).toNat) 0) < ((List.length (tpIt x0.2 (srch x0.2 (flIt x0.2 x1 x2 i0) x1) x1 ((flIt x0.2 x1 x2 i0),x2) i4).1:Nat):Int),(((byL x0.1 (srch x0.2 (flIt x0.2 x1 x2 i0) x1)).getD (((tpIt x0.2 (srch x0.2 (flIt x0.2 x1 x2 i0) x1) x1 ((flIt x0.2 x1 x2 i0),x2) i4).2).toNat) 0)).toNat < List.length (tpIt x0.2 (srch x0.2 (flIt x0.2 x1 x2 i0) x1) x1 ((flIt x0.2 x1 x2 i0),x2) i4).1,I64 (((tpIt x0.2 (srch x0.2 (flIt x0.2 x1 x2 i0) x1) x1 ((flIt x0.2 x1 x2 i0),x2) i4).1.getD ((((byL x0.1 (srch x0.2 (flIt x0.2 x1 x2 i0) x1)).getD (((tpIt x0.2 (srch x0.2 (flIt x0.2 x1 x2 i0) x1) x1 ((flIt x0.2 x1 x2 i0),x2) i4).2).toNat) 0)).toNat) 0)+1),(0:Int)≤((byL x0.1 (srch x0.2 (flIt x0.2 x1 x2 i0) x1)).getD (((tpIt x0.2 (srch x0.2 (flIt x0.2 x1 x2 i0) x1) x1 ((flIt x0.2 x1 x2 i0),x2) i4).2).toNat) 0)∧((byL x0.1 (srch x0.2 (flIt x0.2 x1 x2 i0) x1)).getD (((tpIt x0.2 (srch x0.2 (flIt x0.2 x1 x2 i0) x1) x1 ((flIt x0.2 x1 x2 i0),x2) i4).2).toNat) 0) < ((List.length (tpIt x0.2 (srch x0.2 (flIt x0.2 x1 x2 i0) x1) x1 ((flIt x0.2 x1 x2 i0),x2) i4).1:Nat):Int),(((byL x0.1 (srch x0.2 (flIt x0.2 x1 x2 i0) x1)).getD (((tpIt x0.2 (srch x0.2 (flIt x0.2 x1 x2 i0) x1) x1 ((flIt x0.2 x1 x2 i0),x2) i4).2).toNat) 0)).toNat < List.length (tpIt x0.2 (srch x0.2 (flIt x0.2 x1 x2 i0) x1) x1 ((flIt x0.2 x1 x2 i0),x2) i4).1] gamOK hT mixed h (by kernel_rfl) ⟨(by refine ⟨?_,?_⟩<;>(first | omega | (simp only [lsA];omega) | (simp<;>omega))),(by first | omega | (simp only [lsA];omega) | (simp<;>omega)),(by refine ⟨?_,?_⟩<;>(first | omega | (simp only [lsA];omega) | (simp<;>omega))),(by first | omega | (simp only [lsA];omega) | (simp<;>omega)),(by refine ⟨?_,?_⟩<;>(first | omega | (simp only [lsA];omega) | (simp<;>omega))),(by first | omega | (simp only [lsA];omega) | (simp<;>omega)),⟨by first | omega | (simp only [lsA];omega) | (simp<;>omega),by first | omega | (simp only [lsA];omega) | (simp<;>omega)⟩,(by refine ⟨?_,?_⟩<;>(first | omega | (simp only [lsA];omega) | (simp<;>omega))),(by first | omega | (simp only [lsA];omega) | (simp<;>omega)),trivial⟩ fun a w h=>then_normal ?_
    refine at_anyq [{},{},{},{},{},{},{},{},{},{}] { ts:=[1,2,3,6,7,8,10,11],os:=[1,2,3,4,6] } [(0:Int)≤(tpIt x0.2 (srch x0.2 (flIt x0.2 x1 x2 i0) x1) x1 ((flIt x0.2 x1 x2 i0),x2) i4).2∧(tpIt x0.2 (srch x0.2 (flIt x0.2 x1 x2 i0) x1) x1 ((flIt x0.2 x1 x2 i0),x2) i4).2 < ((List.length (byL x0.1 (srch x0.2 (flIt x0.2 x1 x2 i0) x1)):Nat):Int),((tpIt x0.2 (srch x0.2 (flIt x0.2 x1 x2 i0) x1) x1 ((flIt x0.2 x1 x2 i0),x2) i4).2).toNat < List.length (byL x0.1 (srch x0.2 (flIt x0.2 x1 x2 i0) x1)),(0:Int)≤((byL x0.1 (srch x0.2 (flIt x0.2 x1 x2 i0) x1)).getD (((tpIt x0.2 (srch x0.2 (flIt x0.2 x1 x2 i0) x1) x1 ((flIt x0.2 x1 x2 i0),x2) i4).2).toNat) 0)∧((byL x0.1 (srch x0.2 (flIt x0.2 x1 x2 i0) x1)).getD (((tpIt x0.2 (srch x0.2 (flIt x0.2 x1 x2 i0) x1) x1 ((flIt x0.2 x1 x2 i0),x2) i4).2).toNat) 0) < ((List.length x0.2:Nat):Int)] gamOK hT mixed h (by kernel_rfl) ⟨(by refine ⟨?_,?_⟩<;>(first | omega | (simp only [lsA];omega) | (simp<;>omega))),(by first | omega | (simp only [lsA];omega) | (simp<;>omega)),(by refine ⟨?_,?_⟩<;>(first | omega | (simp only [lsA];omega) | (simp<;>omega))),trivial⟩ fun a w h=>in_normal ?_
    replace h:=at_out (σ':=⟨[(1,aI x1),(2,aI x2),(3,aP 1 0),(6,aP 2 0),(7,.p (.c (cN))),(8,aP 4 0),(10,aS 6),(11,aI (x0.2.getD ((((byL x0.1 (srch x0.2 (flIt x0.2 x1 x2 i0) x1)).getD (((tpIt x0.2 (srch x0.2 (flIt x0.2 x1 x2 i0) x1) x1 ((flIt x0.2 x1 x2 i0),x2) i4).2).toNat) 0)).toNat) (0,(0,0))).1)],[(1,oX 26 [cI x0.1,.ro s58 x0.2]),(2,oX 31 [cN]),(3,oR (.int 3) (List.set (tpIt x0.2 (srch x0.2 (flIt x0.2 x1 x2 i0) x1) x1 ((flIt x0.2 x1 x2 i0),x2) i4).1 ((((byL x0.1 (srch x0.2 (flIt x0.2 x1 x2 i0) x1)).getD (((tpIt x0.2 (srch x0.2 (flIt x0.2 x1 x2 i0) x1) x1 ((flIt x0.2 x1 x2 i0),x2) i4).2).toNat) 0)).toNat) (((tpIt x0.2 (srch x0.2 (flIt x0.2 x1 x2 i0) x1) x1 ((flIt x0.2 x1 x2 i0),x2) i4).1.getD ((((byL x0.1 (srch x0.2 (flIt x0.2 x1 x2 i0) x1)).getD (((tpIt x0.2 (srch x0.2 (flIt x0.2 x1 x2 i0) x1) x1 ((flIt x0.2 x1 x2 i0),x2) i4).2).toNat) 0)).toNat) 0)+1))),(4,oX 31 [.sl 3]),(6,oR (.int 3) (byL x0.1 (srch x0.2 (flIt x0.2 x1 x2 i0) x1)))]⟩) { ts:=[1,2,3,6,7,8,10,11],os:=[1,2,3,4,6] } h (by kernel_rfl)
    exact ⟨i4+1,at_eq h (st_congr2 (fun (d0:List Int) (d1:Int)=>(⟨[(1,aI x1),(2,aI x2),(3,aP 1 0),(6,aP 2 0),(7,.p (.c (cN))),(8,aP 4 0),(10,aS 6),(11,aI d1)],[(1,oX 26 [cI x0.1,.ro s58 x0.2]),(2,oX 31 [cN]),(3,oR (.int 3) d0),(4,oX 31 [.sl 3]),(6,oR (.int 3) (byL x0.1 (srch x0.2 (flIt x0.2 x1 x2 i0) x1)))]⟩:St)) (show ((List.set (tpIt x0.2 (srch x0.2 (flIt x0.2 x1 x2 i0) x1) x1 ((flIt x0.2 x1 x2 i0),x2) i4).1 ((((byL x0.1 (srch x0.2 (flIt x0.2 x1 x2 i0) x1)).getD (((tpIt x0.2 (srch x0.2 (flIt x0.2 x1 x2 i0) x1) x1 ((flIt x0.2 x1 x2 i0),x2) i4).2).toNat) 0)).toNat) (((tpIt x0.2 (srch x0.2 (flIt x0.2 x1 x2 i0) x1) x1 ((flIt x0.2 x1 x2 i0),x2) i4).1.getD ((((byL x0.1 (srch x0.2 (flIt x0.2 x1 x2 i0) x1)).getD (((tpIt x0.2 (srch x0.2 (flIt x0.2 x1 x2 i0) x1) x1 ((flIt x0.2 x1 x2 i0),x2) i4).2).toNat) 0)).toNat) 0)+1)):List Int)=(tpIt x0.2 (srch x0.2 (flIt x0.2 x1 x2 i0) x1) x1 ((flIt x0.2 x1 x2 i0),x2) (i4+1)).1 from by first | with_reducible rfl | ((rw [tpIt_next (by assumption)];unfold tpS;rw [← hb2];first | (rw [if_pos (by assumption)];done) | (rw [if_neg (by assumption)];done))) | rfl) (show ((x0.2.getD ((((byL x0.1 (srch x0.2 (flIt x0.2 x1 x2 i0) x1)).getD (((tpIt x0.2 (srch x0.2 (flIt x0.2 x1 x2 i0) x1) x1 ((flIt x0.2 x1 x2 i0),x2) i4).2).toNat) 0)).toNat) (0,(0,0))).1:Int)=(tpIt x0.2 (srch x0.2 (flIt x0.2 x1 x2 i0) x1) x1 ((flIt x0.2 x1 x2 i0),x2) (i4+1)).2 from by first | with_reducible rfl | ((rw [tpIt_next (by assumption)];unfold tpS;rw [← hb2];first | (rw [if_pos (by assumption)];done) | (rw [if_neg (by assumption)];done))) | rfl)),(by (rw [tpIt_next (by assumption)];exact hst4.1)),(by omega)⟩
   ·replace h3 : ¬ (((byL x0.1 (srch x0.2 (flIt x0.2 x1 x2 i0) x1)).getD (((tpIt x0.2 (srch x0.2 (flIt x0.2 x1 x2 i0) x1) x1 ((flIt x0.2 x1 x2 i0), x2) i4).2).toNat) 0) < ((List.length x0.2 : Nat) : Int)) := of_decide_eq_false h3
    refine wp_seq ?_
    refine at_anyq [{},{},{},{},{},{},{},{ nw:=true },{}] { ts:=[1,2,3,6,7,8,10,11,12],os:=[1,2,3,4,6] } [(0:Int)≤(tpIt x0.2 (srch x0.2 (flIt x0.2 x1 x2 i0) x1) x1 ((flIt x0.2 x1 x2 i0),x2) i4).2∧(tpIt x0.2 (srch x0.2 (flIt x0.2 x1 x2 i0) x1) x1 ((flIt x0.2 x1 x2 i0),x2) i4).2 < ((List.length (byL x0.1 (srch x0.2 (flIt x0.2 x1 x2 i0) x1)):Nat):Int),((tpIt x0.2 (srch x0.2 (flIt x0.2 x1 x2 i0) x1) x1 ((flIt x0.2 x1 x2 i0),x2) i4).2).toNat < List.length (byL x0.1 (srch x0.2 (flIt x0.2 x1 x2 i0) x1)),I64 (((byL x0.1 (srch x0.2 (flIt x0.2 x1 x2 i0) x1)).getD (((tpIt x0.2 (srch x0.2 (flIt x0.2 x1 x2 i0) x1) x1 ((flIt x0.2 x1 x2 i0),x2) i4).2).toNat) 0) - ((List.length x0.2:Nat):Int))] gamOK hT mixed h (by kernel_rfl) ⟨(by refine ⟨?_,?_⟩<;>(first | omega | (simp only [lsA];omega) | (simp<;>omega))),(by first | omega | (simp only [lsA];omega) | (simp<;>omega)),⟨by first | omega | (simp only [lsA];omega) | (simp<;>omega),by first | omega | (simp only [lsA];omega) | (simp<;>omega)⟩,trivial⟩ fun a w h=>then_normal (wp_seq ?_)
    refine at_anyq [{},{},{},{},{},{},{},{},{ nw:=true },{},{}] { ts:=[1,2,3,6,7,8,10,11,12],os:=[1,2,3,4,6] } [(0:Int)≤((byL x0.1 (srch x0.2 (flIt x0.2 x1 x2 i0) x1)).getD (((tpIt x0.2 (srch x0.2 (flIt x0.2 x1 x2 i0) x1) x1 ((flIt x0.2 x1 x2 i0),x2) i4).2).toNat) 0) - ((List.length x0.2:Nat):Int)∧((byL x0.1 (srch x0.2 (flIt x0.2 x1 x2 i0) x1)).getD (((tpIt x0.2 (srch x0.2 (flIt x0.2 x1 x2 i0) x1) x1 ((flIt x0.2 x1 x2 i0),x2) i4).2).toNat) 0) - ((List.length x0.2:Nat):Int) < ((List.length (tpIt x0.2 (srch x0.2 (flIt x0.2 x1 x2 i0) x1) x1 ((flIt x0.2 x1 x2 i0),x2) i4).1:Nat):Int),(((byL x0.1 (srch x0.2 (flIt x0.2 x1 x2 i0) x1)).getD (((tpIt x0.2 (srch x0.2 (flIt x0.2 x1 x2 i0) x1) x1 ((flIt x0.2 x1 x2 i0),x2) i4).2).toNat) 0) - ((List.length x0.2:Nat):Int)).toNat < List.length (tpIt x0.2 (srch x0.2 (flIt x0.2 x1 x2 i0) x1) x1 ((flIt x0.2 x1 x2 i0),x2) i4).1,I64 (((tpIt x0.2 (srch x0.2 (flIt x0.2 x1 x2 i0) x1) x1 ((flIt x0.2 x1 x2 i0),x2) i4).1.getD ((((byL x0.1 (srch x0.2 (flIt x0.2 x1 x2 i0) x1)).getD (((tpIt x0.2 (srch x0.2 (flIt x0.2 x1 x2 i0) x1) x1 ((flIt x0.2 x1 x2 i0),x2) i4).2).toNat) 0) - ((List.length x0.2:Nat):Int)).toNat) 0) - 1),(0:Int)≤((byL x0.1 (srch x0.2 (flIt x0.2 x1 x2 i0) x1)).getD (((tpIt x0.2 (srch x0.2 (flIt x0.2 x1 x2 i0) x1) x1 ((flIt x0.2 x1 x2 i0),x2) i4).2).toNat) 0) - ((List.length x0.2:Nat):Int)∧((byL x0.1 (srch x0.2 (flIt x0.2 x1 x2 i0) x1)).getD (((tpIt x0.2 (srch x0.2 (flIt x0.2 x1 x2 i0) x1) x1 ((flIt x0.2 x1 x2 i0),x2) i4).2).toNat) 0) - ((List.length x0.2:Nat):Int) < ((List.length (tpIt x0.2 (srch x0.2 (flIt x0.2 x1 x2 i0) x1) x1 ((flIt x0.2 x1 x2 i0),x2) i4).1:Nat):Int),(((byL x0.1 (srch x0.2 (flIt x0.2 x1 x2 i0) x1)).getD (((tpIt x0.2 (srch x0.2 (flIt x0.2 x1 x2 i0) x1) x1 ((flIt x0.2 x1 x2 i0),x2) i4).2).toNat) 0) - ((List.length x0.2:Nat):Int)).toNat < List.length (tpIt x0.2 (srch x0.2 (flIt x0.2 x1 x2 i0) x1) x1 ((flIt x0.2 x1 x2 i0),x2) i4).1] gamOK hT mixed h (by kernel_rfl) ⟨(by refine ⟨?_,?_⟩<;>(first | omega | (simp only [lsA];omega) | (simp<;>omega))),(by first | omega | (simp only [lsA];omega) | (simp<;>omega)),⟨by first | omega | (simp only [lsA];omega) | (simp<;>omega),by first | omega | (simp only [lsA];omega) | (simp<;>omega)⟩,(by refine ⟨?_,?_⟩<;>(first | omega | (simp only [lsA];omega) | (simp<;>omega))),(by first | omega | (simp only [lsA];omega) | (simp<;>omega)),trivial⟩ fun a w h=>then_normal ?_
    refine at_regq [] { ts:=[1,2,3,6,7,8,10,11],os:=[1,2,3,4,6] } [(0:Int)≤((byL x0.1 (srch x0.2 (flIt x0.2 x1 x2 i0) x1)).getD (((tpIt x0.2 (srch x0.2 (flIt x0.2 x1 x2 i0) x1) x1 ((flIt x0.2 x1 x2 i0),x2) i4).2).toNat) 0) - ((List.length x0.2:Nat):Int)∧((byL x0.1 (srch x0.2 (flIt x0.2 x1 x2 i0) x1)).getD (((tpIt x0.2 (srch x0.2 (flIt x0.2 x1 x2 i0) x1) x1 ((flIt x0.2 x1 x2 i0),x2) i4).2).toNat) 0) - ((List.length x0.2:Nat):Int) < ((List.length x0.2:Nat):Int)] gamOK hT h (by kernel_rfl) ⟨(by refine ⟨?_,?_⟩<;>(first | omega | (simp only [lsA];omega) | (simp<;>omega))),trivial⟩ fun a w h=>in_normal ?_
    replace h:=at_out (σ':=⟨[(1,aI x1),(2,aI x2),(3,aP 1 0),(6,aP 2 0),(7,.p (.c (cN))),(8,aP 4 0),(10,aS 6),(11,aI (x0.2.getD ((((byL x0.1 (srch x0.2 (flIt x0.2 x1 x2 i0) x1)).getD (((tpIt x0.2 (srch x0.2 (flIt x0.2 x1 x2 i0) x1) x1 ((flIt x0.2 x1 x2 i0),x2) i4).2).toNat) 0) - ((List.length x0.2:Nat):Int)).toNat) (0,(0,0))).2.1)],[(1,oX 26 [cI x0.1,.ro s58 x0.2]),(2,oX 31 [cN]),(3,oR (.int 3) (List.set (tpIt x0.2 (srch x0.2 (flIt x0.2 x1 x2 i0) x1) x1 ((flIt x0.2 x1 x2 i0),x2) i4).1 ((((byL x0.1 (srch x0.2 (flIt x0.2 x1 x2 i0) x1)).getD (((tpIt x0.2 (srch x0.2 (flIt x0.2 x1 x2 i0) x1) x1 ((flIt x0.2 x1 x2 i0),x2) i4).2).toNat) 0) - ((List.length x0.2:Nat):Int)).toNat) (((tpIt x0.2 (srch x0.2 (flIt x0.2 x1 x2 i0) x1) x1 ((flIt x0.2 x1 x2 i0),x2) i4).1.getD ((((byL x0.1 (srch x0.2 (flIt x0.2 x1 x2 i0) x1)).getD (((tpIt x0.2 (srch x0.2 (flIt x0.2 x1 x2 i0) x1) x1 ((flIt x0.2 x1 x2 i0),x2) i4).2).toNat) 0) - ((List.length x0.2:Nat):Int)).toNat) 0) - 1))),(4,oX 31 [.sl 3]),(6,oR (.int 3) (byL x0.1 (srch x0.2 (flIt x0.2 x1 x2 i0) x1)))]⟩) { ts:=[1,2,3,6,7,8,10,11],os:=[1,2,3,4,6] } h (by kernel_rfl)
    exact ⟨i4+1,at_eq h (st_congr2 (fun (d0:List Int) (d1:Int)=>(⟨[(1,aI x1),(2,aI x2),(3,aP 1 0),(6,aP 2 0),(7,.p (.c (cN))),(8,aP 4 0),(10,aS 6),(11,aI d1)],[(1,oX 26 [cI x0.1,.ro s58 x0.2]),(2,oX 31 [cN]),(3,oR (.int 3) d0),(4,oX 31 [.sl 3]),(6,oR (.int 3) (byL x0.1 (srch x0.2 (flIt x0.2 x1 x2 i0) x1)))]⟩:St)) (show ((List.set (tpIt x0.2 (srch x0.2 (flIt x0.2 x1 x2 i0) x1) x1 ((flIt x0.2 x1 x2 i0),x2) i4).1 ((((byL x0.1 (srch x0.2 (flIt x0.2 x1 x2 i0) x1)).getD (((tpIt x0.2 (srch x0.2 (flIt x0.2 x1 x2 i0) x1) x1 ((flIt x0.2 x1 x2 i0),x2) i4).2).toNat) 0) - ((List.length x0.2:Nat):Int)).toNat) (((tpIt x0.2 (srch x0.2 (flIt x0.2 x1 x2 i0) x1) x1 ((flIt x0.2 x1 x2 i0),x2) i4).1.getD ((((byL x0.1 (srch x0.2 (flIt x0.2 x1 x2 i0) x1)).getD (((tpIt x0.2 (srch x0.2 (flIt x0.2 x1 x2 i0) x1) x1 ((flIt x0.2 x1 x2 i0),x2) i4).2).toNat) 0) - ((List.length x0.2:Nat):Int)).toNat) 0) - 1)):List Int)=(tpIt x0.2 (srch x0.2 (flIt x0.2 x1 x2 i0) x1) x1 ((flIt x0.2 x1 x2 i0),x2) (i4+1)).1 from by first | with_reducible rfl | ((rw [tpIt_next (by assumption)];unfold tpS;rw [← hb2];first | (rw [if_pos (by assumption)];done) | (rw [if_neg (by assumption)];done))) | rfl) (show ((x0.2.getD ((((byL x0.1 (srch x0.2 (flIt x0.2 x1 x2 i0) x1)).getD (((tpIt x0.2 (srch x0.2 (flIt x0.2 x1 x2 i0) x1) x1 ((flIt x0.2 x1 x2 i0),x2) i4).2).toNat) 0) - ((List.length x0.2:Nat):Int)).toNat) (0,(0,0))).2.1:Int)=(tpIt x0.2 (srch x0.2 (flIt x0.2 x1 x2 i0) x1) x1 ((flIt x0.2 x1 x2 i0),x2) (i4+1)).2 from by first | with_reducible rfl | ((rw [tpIt_next (by assumption)];unfold tpS;rw [← hb2];first | (rw [if_pos (by assumption)];done) | (rw [if_neg (by assumption)];done))) | rfl)),(by (rw [tpIt_next (by assumption)];exact hst4.1)),(by omega)⟩
  ·replace h2 : (tpIt x0.2 (srch x0.2 (flIt x0.2 x1 x2 i0) x1) x1 ((flIt x0.2 x1 x2 i0), x2) i4).2 = x1 := of_decide_eq_true (notF h2)
   refine wp_exit (then_exit ?_)
   replace h:=at_out (σ':=⟨[(1,aI x1),(2,aI x2),(3,aP 1 0),(6,aP 2 0),(7,.p (.c (cN))),(8,aP 4 0)],[(1,oX 26 [cI x0.1,.ro s58 x0.2]),(2,oX 31 [cN]),(3,oR (.int 3) (tpIt x0.2 (srch x0.2 (flIt x0.2 x1 x2 i0) x1) x1 ((flIt x0.2 x1 x2 i0),x2) i4).1),(4,oX 31 [.sl 3])]⟩) { ts:=[1,2,3,6,7,8],os:=[1,2,3,4] } h (by kernel_rfl)
   replace h:=at_eq (σ':=⟨[(1,aI x1),(2,aI x2),(3,aP 1 0),(6,aP 2 0),(7,.p (.c (cN))),(8,aP 4 0)],[(1,oX 26 [cI x0.1,.ro s58 x0.2]),(2,oX 31 [cN]),(3,oR (.int 3) (augF x0.2 (flIt x0.2 x1 x2 i0) x1 x2)),(4,oX 31 [.sl 3])]⟩) h (st_congr1 (fun (d0:List Int)=>(⟨[(1,aI x1),(2,aI x2),(3,aP 1 0),(6,aP 2 0),(7,.p (.c (cN))),(8,aP 4 0)],[(1,oX 26 [cI x0.1,.ro s58 x0.2]),(2,oX 31 [cN]),(3,oR (.int 3) d0),(4,oX 31 [.sl 3])]⟩:St)) (show ((tpIt x0.2 (srch x0.2 (flIt x0.2 x1 x2 i0) x1) x1 ((flIt x0.2 x1 x2 i0),x2) i4).1:List Int)=(augF x0.2 (flIt x0.2 x1 x2 i0) x1 x2) from by first | with_reducible rfl | (exact (aug_end (i:=i4) (by assumption) (by omega)).symm) | rfl))
   refine then_exit (in_hit (in_normal ?_))
   replace h:=at_out (σ':=⟨[(1,aI x1),(2,aI x2),(3,aP 1 0),(6,aP 2 0),(7,.p (.c (cN))),(8,aP 4 0)],[(1,oX 26 [cI x0.1,.ro s58 x0.2]),(2,oX 31 [cN]),(3,oR (.int 3) (augF x0.2 (flIt x0.2 x1 x2 i0) x1 x2)),(4,oX 31 [.sl 3])]⟩) { ts:=[1,2,3,6,7,8],os:=[1,2,3,4] } h (by kernel_rfl)
   exact ⟨i0+1,at_eq h (st_congr1 (fun (d0:List Int)=>(⟨[(1,aI x1),(2,aI x2),(3,aP 1 0),(6,aP 2 0),(7,.p (.c (cN))),(8,aP 4 0)],[(1,oX 26 [cI x0.1,.ro s58 x0.2]),(2,oX 31 [cN]),(3,oR (.int 3) d0),(4,oX 31 [.sl 3])]⟩:St)) (show ((augF x0.2 (flIt x0.2 x1 x2 i0) x1 x2):List Int)=(flIt x0.2 x1 x2 (i0+1)) from by first | with_reducible rfl | ((rw [flIt_next (i:=i0) (by show (mget _ _).isSome=true;rw [← hasL_fst];assumption)];done)) | rfl)),(by exact ⟨fl_bd hE hs hne (fnd_suc2 (by assumption) hok0.2),fnd_suc2 (by assumption) hok0.2⟩),(by (have:=hok0.1;omega))⟩

abbrev Q_spec_MaxFlow:=(fun (x0:T26) (x1:Int) (x2:Int)=>Sh.fit s26 x0)
def S_spec_MaxFlow:Sum:={ fid:=6,dom:=[s26,(.int 3),(.int 3)],cod:=[s31],dp:=true,fz:=false,pre:=fun x=>Q_spec_MaxFlow x.1 x.2.1 x.2.2.1,g:=fun x=>((mfW x.1 x.2.1 x.2.2.1),()) }
def S_spec_MaxFlow_tab:List (Nat×Sum):=[(17,S_spec_l22Pair),(18,S_spec_l22Run)]
theorem S_spec_MaxFlow_ok:FnOK Try.prog 6 S_spec_MaxFlow:=by
 refine at_enter 23 (fun x=>⟨[(0,aG [cI x.1.1,.ro s58 x.1.2]),(1,aI x.2.1),(2,aI x.2.2.1)],[]⟩) Try.func6 rfl (by kernel_rfl) (fun x=>rfl) ?_
 rintro w0 Z0 ⟨x0,x1,x2,u⟩ a w
 revert x0 x1 x2
 intro (x0:T26) (x1:Int) (x2:Int) hpre hlens h
 replace hpre:Q_spec_MaxFlow x0 x1 x2:=hpre
 have hT:TabOK Try.prog w0 [] S_spec_MaxFlow_tab:=(.cons S_spec_l22Pair_ok (.cons S_spec_l22Run_ok .nil))
 have hf0:Sh.fit s26 x0:=hpre
 have hn0_1:List.length x0.2≤1073741824:=hf0.2.1
 refine wp_seq ?_
 refine at_regq [{ ids:=[1] },{ ids:=[2] }] { ts:=[1,2,3,6],os:=[1,2] } [] gamOK hT h (by kernel_rfl) trivial fun a w h=>then_normal (wp_seq (wp_seq ?_))
 refine at_regq [] { ts:=[1,2,3,6,13],os:=[1,2] } [Q_spec_l22Pair x0 x1 x2] gamOK hT h (by kernel_rfl) ⟨(by exact hf0),trivial⟩ fun a w h=>then_normal ?_
 refine at_test (!(qOK x0 x1 x2)) h (by kernel_rfl) (fun h1=>?_) (fun h1=>?_)
 ·replace h1 : (qOK x0 x1 x2) = false := notT h1
  refine wp_seq ?_
  refine at_regq [] { ts:=[1,2,3,6],os:=[1,2] } [] gamOK hT h (by kernel_rfl) trivial fun a w h=>then_normal (wp_ret (then_ret ?_))
  exact at_return (([]:List Int),()) [] h (by kernel_rfl) trivial (congrArg (fun z=>(z,())) (show (([]:List Int))=mfW x0 x1 x2 from by (unfold mfW;first | (rw [if_pos (by assumption)];unfold mfR;rfl) | (rw [if_neg (by simp_all)]))))
 ·replace h1 : (qOK x0 x1 x2) = true := notF h1
  refine wp_skip (then_normal (wp_seq ?_))
  refine at_regq [{},{},{},{ ids:=[3,4] },{},{},{},{ ids:=[5] }] { ts:=[6,7],os:=[2,3,5] } [Q_spec_l22Run x0 x1 x2] gamOK hT h (by kernel_rfl) ⟨(by exact ⟨hf0,by assumption⟩),trivial⟩ fun a w h=>then_normal (wp_seq ?_)
  refine at_regq [] { ts:=[6],os:=[2,3] } [] gamOK hT h (by kernel_rfl) trivial fun a w h=>then_normal (wp_ret ?_)
  exact at_return ((mfR x0 x1 x2).1,()) [] h (by kernel_rfl) trivial (congrArg (fun z=>(z,())) (show ((mfR x0 x1 x2).1)=mfW x0 x1 x2 from by (unfold mfW;first | (rw [if_pos (by assumption)];unfold mfR;rfl) | (rw [if_neg (by simp_all)]))))

abbrev Q_spec_MaxFlowValue:=(fun (x0:T26) (x1:Int) (x2:Int)=>Sh.fit s26 x0)
def S_spec_MaxFlowValue:Sum:={ fid:=10,dom:=[s26,(.int 3),(.int 3)],cod:=[(.int 3)],dp:=true,fz:=false,pre:=fun x=>Q_spec_MaxFlowValue x.1 x.2.1 x.2.2.1,g:=fun x=>((mfV x.1 x.2.1 x.2.2.1),()) }
def S_spec_MaxFlowValue_tab:List (Nat×Sum):=[(17,S_spec_l22Pair),(6,S_spec_MaxFlow),(27,S_spec_FlowValue)]
theorem S_spec_MaxFlowValue_ok:FnOK Try.prog 10 S_spec_MaxFlowValue:=by
 refine at_enter 19 (fun x=>⟨[(0,aG [cI x.1.1,.ro s58 x.1.2]),(1,aI x.2.1),(2,aI x.2.2.1)],[]⟩) Try.func10 rfl (by kernel_rfl) (fun x=>rfl) ?_
 rintro w0 Z0 ⟨x0,x1,x2,u⟩ a w
 revert x0 x1 x2
 intro (x0:T26) (x1:Int) (x2:Int) hpre hlens h
 replace hpre:Q_spec_MaxFlowValue x0 x1 x2:=hpre
 have hT:TabOK Try.prog w0 [] S_spec_MaxFlowValue_tab:=(.cons S_spec_l22Pair_ok (.cons S_spec_MaxFlow_ok (.cons S_spec_FlowValue_ok .nil)))
 have hf0:Sh.fit s26 x0:=hpre
 have hn0_1:List.length x0.2≤1073741824:=hf0.2.1
 refine wp_seq ?_
 refine at_regq [{ ids:=[1] }] { ts:=[1,2,3,6],os:=[1] } [] gamOK hT h (by kernel_rfl) trivial fun a w h=>then_normal (wp_seq (wp_seq ?_))
 refine at_regq [] { ts:=[1,2,3,6,11],os:=[1] } [Q_spec_l22Pair x0 x1 x2] gamOK hT h (by kernel_rfl) ⟨(by exact hf0),trivial⟩ fun a w h=>then_normal ?_
 refine at_test (!(qOK x0 x1 x2)) h (by kernel_rfl) (fun h1=>?_) (fun h1=>?_)
 ·replace h1 : (qOK x0 x1 x2) = false := notT h1
  refine wp_seq ?_
  refine at_regq [] { ts:=[1,2,3,6],os:=[1] } [] gamOK hT h (by kernel_rfl) trivial fun a w h=>then_normal (wp_ret (then_ret ?_))
  exact at_return (0,()) [] h (by kernel_rfl) trivial (congrArg (fun z=>(z,())) (show (0)=mfV x0 x1 x2 from by first | exact mfV_n (by assumption) | exact mfV_y (by assumption)))
 ·replace h1 : (qOK x0 x1 x2) = true := notF h1
  refine wp_skip (then_normal (wp_seq ?_))
  refine at_anyq [{},{},{},{},{ ids:=[2] },{},{},{}] { ts:=[6],os:=[] } [Q_spec_MaxFlow x0 x1 x2,Q_spec_FlowValue x0 (mfW x0 x1 x2) x1] gamOK hT mixed h (by kernel_rfl) ⟨(by exact hf0),(by exact ⟨hf0,cap_fitW (u:=29) (by assumption),(qOK_t (by assumption)).1,mfW_cap (by assumption)⟩),trivial⟩ fun a w h=>then_normal (wp_ret ?_)
  exact at_return ((flV x0 (mfW x0 x1 x2) x1),()) [] h (by kernel_rfl) trivial (congrArg (fun z=>(z,())) (show ((flV x0 (mfW x0 x1 x2) x1))=mfV x0 x1 x2 from by first | exact mfV_n (by assumption) | exact mfV_y (by assumption)))

theorem inT_mon {tr tr':List (Int×Int)} {a:Int} (h:InT tr a) (hl:tr.length≤tr'.length) (hp:∀ p,p < tr.length→tr'.getD p (0,0)=tr.getD p (0,0)):InT tr' a:=by
 obtain ⟨q,h1,h2⟩:=h
 exact ⟨q,by omega,by rw [hp q h1];exact h2⟩
theorem inT_iff {tr:List (Int×Int)} {a:Int}:InT tr a↔(mget tr a).isSome=true:=by
 constructor
 ·rintro ⟨q, h1, h2⟩
  cases hm:(mget tr a).isSome with
  | true=>rfl
  | false=>exact absurd h2 (mget_none hm q h1)
 ·intro h
  obtain ⟨q,h1,h2,_⟩:=mget_some h
  exact ⟨q,h1,h2⟩
def Cl (es:List E3) (f:List Int) (tr:List (Int×Int)) (p:Nat):Prop :=
 (∀ k,k < es.length→(edg es k).1=(tr.getD p (0,0)).1→f.getD k 0 < (edg es k).2.2→InT tr (edg es k).2.1)∧∀ k,k < es.length→(edg es k).2.1=(tr.getD p (0,0)).1→0 < f.getD k 0→InT tr (edg es k).1
theorem fwTo_cl {es:List E3} {f:List Int} {sz s a:Int} {tr:List (Int×Int)} (hE:EOK es sz) (h:Good es f sz s tr) (ha:InT tr a):∀ i,i≤es.length→∀ k,k < i→(edg es k).1=a→f.getD k 0 < (edg es k).2.2→InT (fwTo es f a tr i) (edg es k).2.1
 | 0,_,k,hk,_,_=>absurd hk (by omega)
 | i + 1, hi, k, hk, h1, h2 => by
  have hg:=fwTo_good hE h ha i (by omega)
  have hs:=fwS_good hE (show i < es.length by omega) hg.1 hg.2.1
  rw [fwTo_succ]
  by_cases e:k=i
  ·subst e
   cases hm:(mget (fwTo es f a tr k) (edg es k).2.1).isSome with
   | true=>exact inT_mon (inT_iff.2 hm) hs.2.2.1 hs.2.2.2
   | false =>
    have e2:fwS es f a (fwTo es f a tr k) k=fwTo es f a tr k++[((edg es k).2.1,(k:Int))]:=if_pos ⟨⟨h1,h2⟩,hm⟩
    rw [e2]
    exact ⟨(fwTo es f a tr k).length,by simp,by rw [getD_end]⟩
  ·exact inT_mon (fwTo_cl hE h ha i (by omega) k (by omega) h1 h2) hs.2.2.1 hs.2.2.2
theorem bwTo_cl {es:List E3} {f:List Int} {sz s a:Int} {tr:List (Int×Int)} (hE:EOK es sz) (h:Good es f sz s tr) (ha:InT tr a):∀ i,i≤es.length→∀ k,k < i→(edg es k).2.1=a→0 < f.getD k 0→InT (bwTo es f a tr i) (edg es k).1
 | 0,_,k,hk,_,_=>absurd hk (by omega)
 | i + 1, hi, k, hk, h1, h2 => by
  have hg:=bwTo_good hE h ha i (by omega)
  have hs:=bwS_good hE (show i < es.length by omega) hg.1 hg.2.1
  rw [bwTo_succ]
  by_cases e:k=i
  ·subst e
   cases hm:(mget (bwTo es f a tr k) (edg es k).1).isSome with
   | true=>exact inT_mon (inT_iff.2 hm) hs.2.2.1 hs.2.2.2
   | false =>
    have e2:bwS es f a (bwTo es f a tr k) k=bwTo es f a tr k++[((edg es k).1,((es.length:Nat):Int)+(k:Int))]:=if_pos ⟨⟨h1,h2⟩,hm⟩
    rw [e2]
    exact ⟨(bwTo es f a tr k).length,by simp,by rw [getD_end]⟩
  ·exact inT_mon (bwTo_cl hE h ha i (by omega) k (by omega) h1 h2) hs.2.2.1 hs.2.2.2
theorem sr_cl {es:List E3} {f:List Int} {sz s:Int} (hE:EOK es sz) (hs:0≤s∧s < sz):∀ i p,p < i→p < (srIt es f s i).length→Cl es f (srIt es f s i) p
 | 0,p,h,_=>absurd h (by omega)
 | i + 1, p, hp, hl => by
  have hG:=srIt_good (f:=f) hE hs i
  by_cases hi:i < (srIt es f s i).length
  ·rw [srIt_next hi] at hl ⊢
   unfold ndS at hl ⊢
   have ha:InT (srIt es f s i) ((srIt es f s i).getD i (0,0)).1:=⟨i,hi,rfl⟩
   have h1:=fwTo_good hE hG ha es.length (Nat.le_refl _)
   have h2:=bwTo_good hE h1.1 h1.2.1 es.length (Nat.le_refl _)
   have hle:(srIt es f s i).length≤(bwTo es f ((srIt es f s i).getD i (0,0)).1 (fwTo es f ((srIt es f s i).getD i (0,0)).1 (srIt es f s i) es.length) es.length).length:=Nat.le_trans h1.2.2.1 h2.2.2.1
   have hpre:∀ q,q < (srIt es f s i).length→(bwTo es f ((srIt es f s i).getD i (0,0)).1 (fwTo es f ((srIt es f s i).getD i (0,0)).1 (srIt es f s i) es.length) es.length).getD q (0,0)=(srIt es f s i).getD q (0,0):=fun q hq=>by rw [h2.2.2.2 q (by omega),h1.2.2.2 q hq]
   by_cases e:p=i
   ·subst e
    unfold Cl
    rw [hpre p hi]
    exact ⟨fun k hk e1 e2=>inT_mon (fwTo_cl hE hG ha es.length (Nat.le_refl _) k hk e1 e2) h2.2.2.1 h2.2.2.2,fun k hk e1 e2=>bwTo_cl hE h1.1 h1.2.1 es.length (Nat.le_refl _) k hk e1 e2⟩
   ·have hpl : p < (srIt es f s i).length := by omega
    have ih:=sr_cl (f:=f) hE hs i p (by omega) hpl
    unfold Cl at ih ⊢
    rw [hpre p hpl]
    exact ⟨fun k hk e1 e2=>inT_mon (ih.1 k hk e1 e2) hle hpre,fun k hk e1 e2=>inT_mon (ih.2 k hk e1 e2) hle hpre⟩
  ·have e : srIt es f s (i + 1) = srIt es f s i := if_neg hi
   rw [e] at hl ⊢
   exact sr_cl (f:=f) hE hs i p (by omega) hl
theorem srch_good {es:List E3} {f:List Int} {sz s:Int} (hE:EOK es sz) (hs:0≤s∧s < sz):Good es f sz s (srch es f s):=by unfold srch;exact srIt_good hE hs 8
theorem srch_cl {es:List E3} {f:List Int} {sz s:Int} (hE:EOK es sz) (hs:0≤s∧s < sz) {x:Int} (h:InT (srch es f s) x) {k:Nat} (hk:k < es.length):((edg es k).1=x→f.getD k 0 < (edg es k).2.2→InT (srch es f s) (edg es k).2.1)∧((edg es k).2.1=x→0 < f.getD k 0→InT (srch es f s) (edg es k).1):=by
 obtain ⟨p,h1,h2⟩:=h
 have hG:=srch_good (f:=f) hE hs
 have hl:=hG.len hE
 have hc:Cl es f (srch es f s) p:=by
  unfold srch at h1 hl ⊢
  exact sr_cl hE hs 8 p (by omega) h1
 exact ⟨fun e1 e2=>hc.1 k hk (e1.trans h2.symm) e2,fun e1 e2=>hc.2 k hk (e1.trans h2.symm) e2⟩
def sumP (g:Int→Int) (tr:List (Int×Int)):Nat→Int
 | 0=>0
 | p+1=>sumP g tr p+g (tr.getD p (0,0)).1
theorem sumP_add (g g':Int→Int) (tr:List (Int×Int)):∀ m,sumP (fun v=>g v+g' v) tr m=sumP g tr m+sumP g' tr m
 | 0=>rfl
 | m+1=>by simp only [sumP];rw [sumP_add g g' tr m];omega
theorem sumP_sub (g g':Int→Int) (tr:List (Int×Int)):∀ m,sumP (fun v=>g v - g' v) tr m=sumP g tr m - sumP g' tr m
 | 0=>rfl
 | m+1=>by simp only [sumP];rw [sumP_sub g g' tr m];omega
theorem sumP_congr {g g':Int→Int} (h:∀ v,g v=g' v) (tr:List (Int×Int)):∀ m,sumP g tr m=sumP g' tr m
 | 0=>rfl
 | m+1=>by simp only [sumP];rw [sumP_congr h tr m,h]
abbrev ind (tr:List (Int×Int)) (x c:Int):Int:=if (mget tr x).isSome=true then c else 0
theorem sumP_one {es:List E3} {f:List Int} {sz s:Int} {tr:List (Int×Int)} (h:Good es f sz s tr) (x c:Int):sumP (fun v=>if x=v then c else 0) tr tr.length=ind tr x c:=by
 have key:∀ m,m≤tr.length→((∃ p,p < m∧(tr.getD p (0,0)).1=x)→sumP (fun v=>if x=v then c else 0) tr m=c)∧((¬ ∃ p,p < m∧(tr.getD p (0,0)).1=x)→sumP (fun v=>if x=v then c else 0) tr m=0):=by
  intro m
  induction m with
  | zero=>intro _;exact ⟨fun ⟨p,hp,_⟩=>absurd hp (by omega),fun _=>rfl⟩
  | succ m ih =>
   intro hm
   have ih:=ih (by omega)
   simp only [sumP]
   by_cases e:x=(tr.getD m (0,0)).1
   ·rw [if_pos e]
    have hno:¬ ∃ p,p < m∧(tr.getD p (0,0)).1=x:=fun ⟨p,hp,e2⟩=>by
     have:=h.nd p m (by omega) (by omega) (by rw [e2,e]);omega
    refine ⟨fun _=>by rw [ih.2 hno];omega,fun hn=>absurd ⟨m,by omega,e.symm⟩ hn⟩
   ·rw [if_neg e]
    refine ⟨fun ⟨p,hp,e2⟩=>by
     have:p≠m:=fun e3=>e (by rw [← e3,e2])
     rw [ih.1 ⟨p,by omega,e2⟩];omega,fun hn=>by rw [ih.2 (fun ⟨p,hp,e2⟩=>hn ⟨p,by omega,e2⟩)];rfl⟩
 have hk:=key tr.length (Nat.le_refl _)
 unfold ind
 cases hm:(mget tr x).isSome with
 | true =>
  obtain ⟨q,h1,h2⟩:=inT_iff.2 hm
  rw [if_pos rfl];exact hk.1 ⟨q,h1,h2⟩
 | false =>
  rw [if_neg (by decide)]
  exact hk.2 fun ⟨p,hp,e⟩=>mget_none hm p hp e
def cutTo (es:List E3) (tr:List (Int×Int)) (f:List Int):Nat→Int
 | 0=>0
 | i+1=>cutTo es tr f i+(ind tr (edg es i).2.1 (f.getD i 0) - ind tr (edg es i).1 (f.getD i 0))
theorem sum_cut {es es':List E3} {f f':List Int} {sz s:Int} {tr:List (Int×Int)} (h:Good es' f' sz s tr):∀ i,sumP (fun v=>exTo es f v i) tr tr.length=cutTo es tr f i
 | 0 => by
  have:∀ m,sumP (fun v=>exTo es f v 0) tr m=0:=fun m=>by
   induction m with
   | zero=>rfl
   | succ m ih=>simp only [sumP];rw [ih];rfl
  exact this _
 | i + 1 => by
  simp only [exTo,cutTo]
  rw [sumP_add,sumP_sub,sumP_one h,sumP_one h,sum_cut h i]
theorem cut_le {es:List E3} {tr:List (Int×Int)} {f f':List Int}:∀ i,(∀ k,k < i→ind tr (edg es k).2.1 (f.getD k 0) - ind tr (edg es k).1 (f.getD k 0)≤ind tr (edg es k).2.1 (f'.getD k 0) - ind tr (edg es k).1 (f'.getD k 0))→cutTo es tr f i≤cutTo es tr f' i
 | 0,_=>Int.le_refl _
 | i + 1, h => by
  have h1:=cut_le (tr:=tr) (f:=f) (f':=f') i (fun k hk=>h k (by omega))
  have h2:=h i (by omega)
  simp only [cutTo];omega
theorem cut_ge {es:List E3} {tr:List (Int×Int)} {f:List Int}:∀ i,(∀ k,k < i→0≤ind tr (edg es k).2.1 (f.getD k 0) - ind tr (edg es k).1 (f.getD k 0))→0≤cutTo es tr f i
 | 0,_=>Int.le_refl _
 | i + 1, h => by
  have h1:=cut_ge (tr:=tr) (f:=f) i (fun k hk=>h k (by omega))
  have h2:=h i (by omega)
  simp only [cutTo];omega
def Flw (es:List E3) (f:List Int) (s t c:Int):Prop:=∀ v,exF es f v=(if v=t then c else 0) - (if v=s then c else 0)
theorem flw_cut {es es':List E3} {f f':List Int} {sz s t c:Int} {tr:List (Int×Int)} (h:Good es' f' sz s tr) (hf:Flw es f s t c) (ht:(mget tr t).isSome=false):cutTo es tr f es.length=-c:=by
 rw [← sum_cut h]
 have e:sumP (fun v=>exTo es f v es.length) tr tr.length=sumP (fun v=>(if t=v then c else 0) - (if s=v then c else 0)) tr tr.length:=sumP_congr (fun v=>by
  have:=hf v
  unfold exF at this
  rw [this]
  have c1:(v=t)=(t=v):=propext ⟨Eq.symm,Eq.symm⟩
  have c2:(v=s)=(s=v):=propext ⟨Eq.symm,Eq.symm⟩
  simp only [c1,c2]) _ _
 rw [e,sumP_sub,sumP_one h,sumP_one h]
 have hs:(mget tr s).isSome=true:=inT_iff.1 ⟨0,h.h0.1,by rw [h.h0.2]⟩
 unfold ind
 rw [ht,hs,if_neg (by decide),if_pos rfl];omega
theorem exTo_ends {es es':List E3} {f:List Int} {v:Int}:∀ i,(∀ k,k < i→(edg es k).1=(edg es' k).1∧(edg es k).2.1=(edg es' k).2.1)→exTo es f v i=exTo es' f v i
 | 0,_=>rfl
 | i + 1, h => by
  have h1:=h i (by omega)
  simp only [exTo]
  rw [exTo_ends (f:=f) (v:=v) i (fun k hk=>h k (by omega)),h1.1,h1.2]
theorem flw_max {es:List E3} {f f':List Int} {sz s t c c':Int} (hE:EOK es sz) (hs:0≤s∧s < sz) (hf:CapOK es f) (hc:Flw es f s t c) (hn:(mget (srch es f s) t).isSome=false) (hf':CapOK es f') (hc':Flw es f' s t c'):c'≤c:=by
 have hG:=srch_good (f:=f) hE hs
 have h1:=flw_cut hG hc hn
 have h2:=flw_cut hG hc' hn
 have h3:cutTo es (srch es f s) f es.length≤cutTo es (srch es f s) f' es.length:=cut_le _ fun k hk=>by
  have b1:=hf.2 k hk;have b2:=hf'.2 k hk
  cases ht:(mget (srch es f s) (edg es k).2.1).isSome with
  | true =>
   cases hr:(mget (srch es f s) (edg es k).1).isSome with
   | true=>simp only [ind,ht,hr,if_true];omega
   | false =>
    have:¬ 0 < f.getD k 0:=fun h0=>by
     have:=inT_iff.1 ((srch_cl hE hs (inT_iff.2 ht) hk).2 rfl h0)
     rw [hr] at this;cases this
    simp only [ind,ht,hr,if_true,Bool.false_eq_true,if_false];omega
  | false =>
   cases hr:(mget (srch es f s) (edg es k).1).isSome with
   | true =>
    have:¬ f.getD k 0 < (edg es k).2.2:=fun h0=>by
     have:=inT_iff.1 ((srch_cl hE hs (inT_iff.2 hr) hk).1 rfl h0)
     rw [ht] at this;cases this
    simp only [ind,ht,hr,if_true,Bool.false_eq_true,if_false];omega
   | false=>simp only [ind,ht,hr,Bool.false_eq_true,if_false];omega
 omega
theorem mf_val {es:List E3} {sz s t:Int} (hE:EOK es sz) (hs:0≤s∧s < sz) (hst:s≠t):∃ K:Nat,K≤160∧CapOK es (mfF es s t)∧Flw es (mfF es s t) s t (K:Int)∧(mget (srch es (mfF es s t) s) t).isSome=false:=by
 have hex:∃ i,i≤160∧(∀ j,j < i→fndB es s t j=true)∧fndB es s t i=false:=by
  have key:∀ n,(∃ i,i < n∧(∀ j,j < i→fndB es s t j=true)∧fndB es s t i=false)∨∀ j,j < n→fndB es s t j=true:=by
   intro n
   induction n with
   | zero=>exact .inr fun j hj=>absurd hj (by omega)
   | succ n ih =>
    rcases ih with ⟨i,h1,h2,h3⟩ | h
    ·exact .inl ⟨i,by omega,h2,h3⟩
    ·cases hb : fndB es s t n with
     | false=>exact .inl ⟨n,by omega,h,hb⟩
     | true =>
      refine .inr fun j hj=>?_
      by_cases e:j=n
      ·subst e;exact hb
      ·exact h j (by omega)
  rcases key 161 with ⟨i,h1,h2,h3⟩ | h
  ·exact ⟨i,by omega,h2,h3⟩
  ·have:=fl_bd (i:=161) hE hs hst h;omega
 obtain ⟨i,h1,h2,h3⟩:=hex
 have e:mfF es s t=flIt es s t i:=mf_end h3 (by omega)
 have h4:=flIt_ok (t:=t) hE hs i
 rw [e]
 exact ⟨i,h1,h4.1,h4.2 h2,h3⟩
def capE (es:List E3) (L:List Int):List E3:=(List.range es.length).map fun (k:Nat)=>((edg es k).1,((edg es k).2.1,L.getD k 0))
theorem capE_len (es:List E3) (L:List Int):(capE es L).length=es.length:=by simp [capE]
theorem capE_at {es:List E3} {L:List Int} {k:Nat} (h:k < es.length):edg (capE es L) k=((edg es k).1,((edg es k).2.1,L.getD k 0)):=by
 unfold edg capE
 rw [List.getD_eq_getElem?_getD,List.getElem?_map,List.getElem?_range h]
 rfl
def AmtOK (es:List E3) (L:List Int):Prop:=L.length=es.length∧∀ k,k < es.length→0≤L.getD k 0∧L.getD k 0≤8
theorem CapOK.amt {es:List E3} {L:List Int} {sz:Int} (h:CapOK es L) (hE:EOK es sz):AmtOK es L:=⟨h.1,fun k hk=>by have:=h.2 k hk;have:=(hE.ed k hk).2.2.2;omega⟩
theorem capE_EOK {es:List E3} {L:List Int} {sz:Int} (hE:EOK es sz) (hL:AmtOK es L):EOK (capE es L) sz:=by
 refine ⟨hE.szb,by rw [capE_len];exact hE.len,fun k hk=>?_,fun i j hi hj h1 h2=>?_⟩
 ·rw [capE_len] at hk
  rw [capE_at hk]
  have:=hE.ed k hk
  exact ⟨this.1,this.2.1,this.2.2.1,hL.2 k hk⟩
 ·rw [capE_len] at hi hj
  rw [capE_at hi,capE_at hj] at h1 h2
  exact hE.uq i j hi hj h1 h2
theorem bwTo_nil (es:List E3) (a:Int) (tr:List (Int×Int)):∀ i,bwTo es [] a tr i=tr
 | 0=>rfl
 | i + 1 => by
  rw [bwTo_succ,bwTo_nil es a tr i]
  exact if_neg fun h=>absurd h.1.2 (by show ¬ (0:Int) < ([]:List Int).getD i 0;simp)
abbrev srP (es:List E3) (L:List Int) (s:Int) (i:Nat):List (Int×Int):=srIt (capE es L) [] s i
abbrev fwP (es:List E3) (L:List Int) (a:Int) (tr:List (Int×Int)) (i:Nat):List (Int×Int):=fwTo (capE es L) [] a tr i
theorem srP_nx {es:List E3} {L:List Int} {s:Int} {i:Nat} (h:i < (srP es L s i).length):fwP es L (fsts (srP es L s i) |>.getD i 0) (srP es L s i) es.length=srP es L s (i+1):=by
 rw [fst_at]
 show _=srIt (capE es L) [] s (i+1)
 rw [srIt_next h]
 unfold ndS
 rw [bwTo_nil,capE_len]
def prE (es:List E3) (p:Int×Int):Int×Int:=(p.1,if p.2 < 0 then p.1 else (edg es p.2.toNat).1)
def prs (es:List E3) (tr:List (Int×Int)):List (Int×Int):=tr.map (prE es)
theorem prs_idx (es:List E3) (x:Int):∀ tr:List (Int×Int),midx (prs es tr) x=midx tr x
 | []=>rfl
 | p :: l => by
  show midx ((p.1,_)::prs es l) x=_
  unfold midx
  rw [prs_idx es x l]
theorem prs_some (es:List E3) (tr:List (Int×Int)) (x:Int):(mget (prs es tr) x).isSome=(mget tr x).isSome:=by rw [mget_idx,mget_idx,prs_idx]
theorem prs_zero (es es':List E3) (f:List Int) (s:Int):mset [] s s=prs es (srIt es' f s 0):=rfl
theorem prs_snoc (es:List E3) (tr:List (Int×Int)) (p:Int×Int):prs es (tr++[p])=prs es tr++[prE es p]:=by simp [prs]
theorem sp_y {es:List E3} {L:List Int} {a:Int} {T:List (Int×Int)} {i k:Nat} (hk:k < es.length) (hi:i≤(fwP es L a T k).length) (h1:(edg es k).1=a) (h2:0 < L.getD k 0) (h3:(mget (prs es (fwP es L a T k)) (edg es k).2.1).isSome=false) :
  mset (prs es (fwP es L a T k)) (edg es k).2.1 (edg es k).1=prs es (fwP es L a T (k+1))∧List.drop i (fsts (fwP es L a T k))++[(edg es k).2.1]=List.drop i (fsts (fwP es L a T (k+1))):=by
 rw [mset_new h3]
 rw [prs_some] at h3
 have e:fwP es L a T (k+1)=fwP es L a T k++[((edg es k).2.1,(k:Int))]:=by
  show fwTo (capE es L) [] a T (k+1)=_
  rw [fwTo_succ]
  unfold fwS
  rw [capE_at hk]
  exact if_pos ⟨⟨h1,h2⟩,h3⟩
 rw [e,prs_snoc,fsts_snoc]
 refine ⟨?_,?_⟩
 ·unfold prE;simp only;rw [if_neg (by omega),Int.toNat_natCast]
 ·rw [List.drop_append_of_le_length (by rw [fsts_len];exact hi)]
theorem sp_n {es:List E3} {L:List Int} {a:Int} {T:List (Int×Int)} {k:Nat} (hk:k < es.length) (h:¬ (edg es k).1=a∨¬ 0 < L.getD k 0∨(mget (prs es (fwP es L a T k)) (edg es k).2.1).isSome=true):fwP es L a T (k+1)=fwP es L a T k:=by
 rw [prs_some] at h
 show fwTo (capE es L) [] a T (k+1)=_
 rw [fwTo_succ]
 unfold fwS
 rw [capE_at hk]
 refine if_neg ?_
 rintro ⟨⟨h1,h2⟩,h3⟩
 rcases h with h | h | h
 ·exact h h1
 ·exact h h2
 ·rw [h3] at h;cases h
theorem que_at {tr tr':List (Int×Int)} {i:Nat} (hp:∀ p,p < tr.length→tr'.getD p (0,0)=tr.getD p (0,0)) (hi:i < tr.length):(List.drop i (fsts tr')).getD 0 0=(fsts tr).getD i 0:=by
 rw [List.getD_eq_getElem?_getD,List.getElem?_drop,Nat.add_zero,← List.getD_eq_getElem?_getD,fst_at,fst_at,hp i hi]
abbrev srcP (es:List E3) (L:List Int) (s:Int):List (Int×Int):=srch (capE es L) [] s
abbrev fndP (es:List E3) (L:List Int) (s t:Int):Bool:=(mget (srcP es L s) t).isSome
abbrev parV (es:List E3) (tr:List (Int×Int)) (x:Int):Int:=(mget (prs es tr) x).getD 0
def ptS (es:List E3) (tr:List (Int×Int)) (q:List Int×Int):List Int×Int:=(q.1++[parV es tr q.2],parV es tr q.2)
def ptIt (es:List E3) (tr:List (Int×Int)) (s:Int) (q:List Int×Int):Nat→List Int×Int
 | 0=>q
 | j+1=>if (ptIt es tr s q j).2=s then ptIt es tr s q j else ptS es tr (ptIt es tr s q j)
theorem ptIt_stay {es:List E3} {tr:List (Int×Int)} {s:Int} {q:List Int×Int} {i:Nat} (h:(ptIt es tr s q i).2=s):∀ d,ptIt es tr s q (i+d)=ptIt es tr s q i
 | 0=>rfl
 | d + 1 => by
  have ih:=ptIt_stay h d
  have e:ptIt es tr s q (i+d+1)=if (ptIt es tr s q (i+d)).2=s then ptIt es tr s q (i+d) else ptS es tr (ptIt es tr s q (i+d)):=rfl
  rw [show i+(d+1)=i+d+1 from rfl,e,ih,if_pos h]
theorem ptIt_end {es:List E3} {tr:List (Int×Int)} {s:Int} {q:List Int×Int} {i:Nat} (h:(ptIt es tr s q i).2=s) (hi:i≤8):ptIt es tr s q 8=ptIt es tr s q i:=by
 have:=ptIt_stay h (8 - i)
 rwa [show i+(8 - i)=8 by omega] at this
theorem ptIt_next {es:List E3} {tr:List (Int×Int)} {s:Int} {q:List Int×Int} {j:Nat} (h:¬ (ptIt es tr s q j).2=s):ptIt es tr s q (j+1)=ptS es tr (ptIt es tr s q j):=if_neg h
structure PtOK (es:List E3) (L:List Int) (sz s t:Int) (tr:List (Int×Int)) (j:Nat) (q:List Int×Int):Prop where
 len:q.1.length=j+1
 fst:q.1.getD 0 0=t
 lst:q.1.getD j 0=q.2
 rg:∀ m,m≤j→0≤q.1.getD m 0∧q.1.getD m 0 < sz
 nd:∀ a b,a < b→b≤j→q.1.getD a 0≠q.1.getD b 0
 ed:∀ m,m < j→∃ k,k < es.length∧(edg es k).1=q.1.getD (m+1) 0∧(edg es k).2.1=q.1.getD m 0∧0 < L.getD k 0
 pos:∃ p,p < tr.length∧(tr.getD p (0,0)).1=q.2∧p+j≤7∧∀ m,m≤j→∃ r,p≤r∧r < tr.length∧(tr.getD r (0,0)).1=q.1.getD m 0
theorem pt_zero {es:List E3} {L:List Int} {sz s t:Int} {tr:List (Int×Int)} (hE:EOK es sz) (hL:AmtOK es L) (hG:Good (capE es L) [] sz s tr) (ht:(mget tr t).isSome=true):PtOK es L sz s t tr 0 ([t],t):=by
 obtain ⟨p,h1,h2,h3⟩:=mget_some ht
 have hl:=hG.len (capE_EOK hE hL)
 have hr:=hG.rg p h1
 rw [h2] at hr
 refine ⟨rfl,rfl,rfl,fun m hm=>?_,fun a b h1 h2=>by omega,fun m hm=>by omega,p,h1,h2,by omega,fun m hm=>⟨p,Nat.le_refl _,h1,?_⟩⟩
 ·have : m = 0 := by omega
  subst this;exact hr
 ·have : m = 0 := by omega
  subst this;exact h2
theorem prs_get {es:List E3} {L:List Int} {sz s:Int} {tr:List (Int×Int)} (hG:Good (capE es L) [] sz s tr) {p:Nat} (hp:p < tr.length):parV es tr (tr.getD p (0,0)).1=(prE es (tr.getD p (0,0))).2:=by
 have hi:midx tr (tr.getD p (0,0)).1=some p:=by
  cases hm:midx tr (tr.getD p (0,0)).1 with
  | none=>exact absurd rfl (midx_none hm p hp)
  | some q =>
   have h1:=midx_some hm
   rw [hG.nd q p h1.1 hp h1.2]
 unfold parV mget
 rw [prs_idx,hi]
 show ((prs es tr).getD p (0,0)).2=_
 unfold prs
 rw [getD_of_lt (by simpa using hp),List.getElem_map,getD_of_lt hp]
theorem pt_step {es:List E3} {L:List Int} {sz s t:Int} {tr:List (Int×Int)} {j:Nat} {q:List Int×Int} (hE:EOK es sz) (hG:Good (capE es L) [] sz s tr) (h:PtOK es L sz s t tr j q) (hq:¬ q.2=s):PtOK es L sz s t tr (j+1) (ptS es tr q):=by
 obtain ⟨p,hp,hpq,hpj,hun⟩:=h.pos
 have hp0:0 < p:=by
  rcases Nat.eq_zero_or_pos p with h0 | h0
  ·subst h0;rw [hG.h0.2] at hpq;exact absurd hpq.symm hq
  ·exact h0
 have hpar:=prs_get hG hp
 rw [hpq] at hpar
 rcases hG.ok p hp0 hp with ⟨k,e1,e2,e3,e4,r,e5,e6⟩ | ⟨k,e1,e2,e3,e4,r,e5,e6⟩
 ·rw [capE_len] at e2
  rw [capE_at e2] at e3 e4 e6
  have ev:parV es tr q.2=(edg es k).1:=by
   rw [hpar];unfold prE;simp only;rw [e1,if_neg (by omega),Int.toNat_natCast]
  have hs:ptS es tr q=(q.1++[(edg es k).1],(edg es k).1):=by unfold ptS;rw [ev]
  have hl1:j+1=q.1.length:=h.len.symm
  have hat:∀ m,m≤j→(q.1++[(edg es k).1]).getD m 0=q.1.getD m 0:=fun m hm=>getD_app (by omega)
  have hend:(q.1++[(edg es k).1]).getD (j+1) 0=(edg es k).1:=by rw [hl1];exact getD_end
  rw [hs]
  refine ⟨by simp [h.len],by rw [hat 0 (by omega)];exact h.fst,hend,fun m hm=>?_,fun a b hab hb=>?_,fun m hm=>?_,r,by omega,e6,by omega,fun m hm=>?_⟩
  ·by_cases hmj : m ≤ j
   ·simp only;rw [hat m hmj];exact h.rg m hmj
   ·have : m = j + 1 := by omega
    subst this;simp only;rw [hend];exact (hE.ed k e2).1
  ·simp only
   by_cases hbj:b≤j
   ·rw [hat a (by omega),hat b hbj];exact h.nd a b hab hbj
   ·have : b = j + 1 := by omega
    subst this
    rw [hat a (by omega),hend]
    intro he
    obtain ⟨u,hu1,hu2,hu3⟩:=hun a (by omega)
    have:=hG.nd u r hu2 (by omega) (by rw [hu3,e6];exact he)
    omega
  ·simp only
   by_cases hmj:m < j
   ·rw [hat m (by omega),hat (m+1) (by omega)];exact h.ed m hmj
   ·have : m = j := by omega
    subst this
    rw [hat m (Nat.le_refl _),hend,h.lst]
    exact ⟨k,e2,rfl,by rw [← hpq];exact e3,e4⟩
  ·simp only
   by_cases hmj:m≤j
   ·obtain ⟨u, hu1, hu2, hu3⟩ := hun m hmj
    exact ⟨u,by omega,hu2,by rw [hat m hmj];exact hu3⟩
   ·have : m = j + 1 := by omega
    subst this
    exact ⟨r,Nat.le_refl _,by omega,by rw [hend];exact e6⟩
 ·exact absurd e4 (by show ¬ (0:Int) < ([]:List Int).getD k 0;simp)
theorem ptIt_ok {es:List E3} {L:List Int} {sz s t:Int} {tr:List (Int×Int)} (hE:EOK es sz) (hL:AmtOK es L) (hG:Good (capE es L) [] sz s tr) (ht:(mget tr t).isSome=true):∀ j,(∃ i,i≤j∧(ptIt es tr s ([t],t) j).2=s∧PtOK es L sz s t tr i (ptIt es tr s ([t],t) j))∨PtOK es L sz s t tr j (ptIt es tr s ([t],t) j)
 | 0=>.inr (pt_zero hE hL hG ht)
 | j + 1 => by
  have e:ptIt es tr s ([t],t) (j+1)=if (ptIt es tr s ([t],t) j).2=s then ptIt es tr s ([t],t) j else ptS es tr (ptIt es tr s ([t],t) j):=rfl
  rcases ptIt_ok hE hL hG ht j with ⟨i,h1,h2,h3⟩ | h
  ·left;rw [e,if_pos h2];exact ⟨i,by omega,h2,h3⟩
  ·by_cases h2 : (ptIt es tr s ([t], t) j).2 = s
   ·left;rw [e,if_pos h2];exact ⟨j,by omega,h2,h⟩
   ·right;rw [e,if_neg h2];exact pt_step hE hG h h2
@[irreducible]
def pthF (es:List E3) (L:List Int) (s t:Int):List Int:=if fndP es L s t=true then (ptIt es (srcP es L s) s ([t],t) 8).1.reverse else []
theorem pth_no {es:List E3} {L:List Int} {s t:Int} (h:fndP es L s t=false):pthF es L s t=[]:=by unfold pthF;rw [if_neg (by rw [h];decide)]
theorem pth_end {es:List E3} {L:List Int} {s t:Int} {i:Nat} (hf:fndP es L s t=true) (h:(ptIt es (srcP es L s) s ([t],t) i).2=s) (hi:i≤8):(ptIt es (srcP es L s) s ([t],t) i).1.reverse=pthF es L s t:=by unfold pthF;rw [if_pos hf,ptIt_end h hi]
structure PathOK (es:List E3) (L:List Int) (sz s t:Int) (P:List Int):Prop where
 len:1≤P.length∧P.length≤8
 fst:P.getD 0 0=s
 lst:P.getD (P.length - 1) 0=t
 rg:∀ m,m < P.length→0≤P.getD m 0∧P.getD m 0 < sz
 nd:∀ a b,a < b→b < P.length→P.getD a 0≠P.getD b 0
 ed:∀ m,m+1 < P.length→∃ k,k < es.length∧(edg es k).1=P.getD m 0∧(edg es k).2.1=P.getD (m+1) 0∧0 < L.getD k 0
theorem rev_at {l:List Int} {m:Nat} (h:m < l.length):l.reverse.getD m 0=l.getD (l.length - 1 - m) 0:=by
 rw [List.getD_eq_getElem?_getD,List.getElem?_reverse h,List.getD_eq_getElem?_getD]
theorem PtOK.path {es:List E3} {L:List Int} {sz s t:Int} {tr:List (Int×Int)} {j:Nat} {q:List Int×Int} (h:PtOK es L sz s t tr j q) (hs:q.2=s):PathOK es L sz s t q.1.reverse:=by
 have hl:=h.len
 obtain ⟨p,_,_,h7,_⟩:=h.pos
 have hr:q.1.reverse.length=j+1:=by simp [hl]
 have hat:∀ m,m≤j→q.1.reverse.getD m 0=q.1.getD (j - m) 0:=fun m hm=>by rw [rev_at (by omega),hl];congr 1
 refine ⟨by omega,?_,?_,fun m hm=>?_,fun a b hab hb=>?_,fun m hm=>?_⟩
 ·rw [hat 0 (by omega)];rw [← hs];exact h.lst
 ·rw [hr,hat _ (by omega),show j - (j+1 - 1)=0 by omega];exact h.fst
 ·rw [hat m (by omega)];exact h.rg _ (by omega)
 ·rw [hat a (by omega),hat b (by omega)];exact (h.nd (j - b) (j - a) (by omega) (by omega)).symm
 ·rw [hat m (by omega), hat (m + 1) (by omega)]
  have:=h.ed (j - (m+1)) (by omega)
  rwa [show j - (m+1)+1=j - m by omega] at this
theorem srcP_good {es:List E3} {L:List Int} {sz s:Int} (hE:EOK es sz) (hL:AmtOK es L) (hs:0≤s∧s < sz):Good (capE es L) [] sz s (srcP es L s):=srch_good (capE_EOK hE hL) hs
theorem pth_ok {es:List E3} {L:List Int} {sz s t:Int} (hE:EOK es sz) (hL:AmtOK es L) (hs:0≤s∧s < sz) (hf:fndP es L s t=true):PathOK es L sz s t (pthF es L s t):=by
 unfold pthF
 rw [if_pos hf]
 rcases ptIt_ok hE hL (srcP_good hE hL hs) hf 8 with ⟨i,h1,h2,h3⟩ | h
 ·exact h3.path h2
 ·obtain ⟨p,_,_,h4,_⟩:=h.pos;omega
abbrev ebF (es:List E3) (a b:Int):Int:=idxF (fun e=>decide (e.1=a) && decide (e.2.1=b)) es
theorem eb_at {es:List E3} {sz:Int} (hE:EOK es sz) {k:Nat} (hk:k < es.length):ebF es (edg es k).1 (edg es k).2.1=(k:Int):=by
 refine idxF_at (z:=(0,(0,0))) hk (fun j hj=>?_) ?_
 ·by_cases h : (edg es j).1 = (edg es k).1 ∧ (edg es j).2.1 = (edg es k).2.1
  ·have := hE.uq j k (by omega) hk h.1 h.2
   omega
  ·show (decide ((edg es j).1 = (edg es k).1) && decide ((edg es j).2.1 = (edg es k).2.1)) = false
   rw [Bool.and_eq_false_iff,decide_eq_false_iff_not,decide_eq_false_iff_not]
   exact Decidable.not_and_iff_or_not.1 h
 ·show (decide ((edg es k).1 = (edg es k).1) && decide ((edg es k).2.1 = (edg es k).2.1)) = true
  simp
abbrev peN (es:List E3) (P:List Int) (m:Nat):Nat:=(ebF es (P.getD m 0) (P.getD (m+1) 0)).toNat
theorem PathOK.at_ {es:List E3} {L:List Int} {sz s t:Int} {P:List Int} (hE:EOK es sz) (h:PathOK es L sz s t P) {m:Nat} (hm:m+1 < P.length):ebF es (P.getD m 0) (P.getD (m+1) 0)=((peN es P m:Nat):Int)∧peN es P m < es.length∧(edg es (peN es P m)).1=P.getD m 0∧(edg es (peN es P m)).2.1=P.getD (m+1) 0∧0 < L.getD (peN es P m) 0:=by
 obtain ⟨k,h1,h2,h3,h4⟩:=h.ed m hm
 have e:=eb_at hE h1
 rw [h2,h3] at e
 have e2:peN es P m=k:=by unfold peN;rw [e,Int.toNat_natCast]
 rw [e2]
 exact ⟨e,h1,h2,h3,h4⟩
theorem PathOK.inj {es:List E3} {L:List Int} {sz s t:Int} {P:List Int} (hE:EOK es sz) (h:PathOK es L sz s t P) {m n:Nat} (hm:m+1 < P.length) (hn:n+1 < P.length) (e:peN es P m=peN es P n):m=n:=by
 have h1:=h.at_ hE hm
 have h2:=h.at_ hE hn
 rw [← e] at h2
 have e3:P.getD (m+1) 0=P.getD (n+1) 0:=h1.2.2.2.1.symm.trans h2.2.2.2.1
 rcases Nat.lt_trichotomy m n with h0 | h0 | h0
 ·exact absurd e3 (h.nd (m+1) (n+1) (by omega) hn)
 ·exact h0
 ·exact absurd e3.symm (h.nd (n+1) (m+1) (by omega) hm)
theorem PathOK.mono {es:List E3} {L F:List Int} {sz s t:Int} {P:List Int} (h:PathOK es L sz s t P) (hle:∀ k,k < es.length→L.getD k 0≤F.getD k 0):PathOK es F sz s t P:=⟨h.len,h.fst,h.lst,h.rg,h.nd,fun m hm=>by
 obtain ⟨k,h1,h2,h3,h4⟩:=h.ed m hm
 exact ⟨k,h1,h2,h3,by have:=hle k h1;omega⟩⟩
def dcTo (es:List E3) (P L:List Int):Nat→List Int
 | 0=>L
 | m+1=>(dcTo es P L m).set (peN es P m) ((dcTo es P L m).getD (peN es P m) 0 - 1)
def icTo (es:List E3) (P U:List Int):Nat→List Int
 | 0=>U
 | m+1=>(icTo es P U m).set (peN es P m) ((icTo es P U m).getD (peN es P m) 0+1)
theorem dc_len (es:List E3) (P L:List Int):∀ m,(dcTo es P L m).length=L.length
 | 0=>rfl
 | m+1=>by simp only [dcTo,List.length_set];exact dc_len es P L m
theorem ic_len (es:List E3) (P U:List Int):∀ m,(icTo es P U m).length=U.length
 | 0=>rfl
 | m+1=>by simp only [icTo,List.length_set];exact ic_len es P U m
theorem dc_ic {es:List E3} {P L U:List Int} {sz s t:Int} (hE:EOK es sz) (hL:L.length=es.length) (hU:U.length=es.length) (h:PathOK es L sz s t P):∀ m,m+1≤P.length→∀ k,(icTo es P U m).getD k 0+(dcTo es P L m).getD k 0=U.getD k 0+L.getD k 0
 | 0,_,_=>rfl
 | m + 1, hm, k => by
  have ih:=dc_ic hE hL hU h m (by omega) k
  have hp:=(h.at_ hE (m:=m) (by omega)).2.1
  simp only [icTo,dcTo]
  rw [getD_set_if (by rw [ic_len,hU];exact hp),getD_set_if (by rw [dc_len,hL];exact hp)]
  split
  ·rename_i e;rw [← e];omega
  ·exact ih
theorem dc_ok {es:List E3} {P L:List Int} {sz s t:Int} (hE:EOK es sz) (hL:AmtOK es L) (h:PathOK es L sz s t P):∀ m,m+1≤P.length→(∀ k,k < es.length→0≤(dcTo es P L m).getD k 0∧(dcTo es P L m).getD k 0≤L.getD k 0)∧(∀ j,m≤j→j+1 < P.length→(dcTo es P L m).getD (peN es P j) 0=L.getD (peN es P j) 0)∧∀ v,exF es (dcTo es P L m) v=exF es L v+(if v=P.getD 0 0 then 1 else 0) - (if v=P.getD m 0 then 1 else 0)
 | 0,_=>⟨fun k hk=>⟨(hL.2 k hk).1,Int.le_refl _⟩,fun _ _ _=>rfl,fun v=>by show exF es L v=_;omega⟩
 | m + 1, hm => by
  obtain ⟨h1,h2,h3⟩:=dc_ok hE hL h m (by omega)
  obtain ⟨_,hp,hf,ht,hpos⟩:=h.at_ hE (m:=m) (by omega)
  have hl:peN es P m < (dcTo es P L m).length:=by rw [dc_len,hL.1];exact hp
  have he:=h2 m (Nat.le_refl _) (by omega)
  refine ⟨fun k hk=>?_,fun j hj hj1=>?_,fun v=>?_⟩
  ·simp only [dcTo]
   rw [getD_set_if hl]
   have:=h1 k hk
   split
   ·rename_i e;rw [← e] at he hpos ⊢;omega
   ·exact this
  ·simp only [dcTo]
   rw [getD_set_if hl,if_neg (fun e=>by have:=h.inj hE (by omega) (by omega) e;omega)]
   exact h2 j (by omega) hj1
  ·simp only [dcTo]
   have h3:=h3 v
   unfold exF at h3 ⊢
   rw [exTo_set hl,if_pos hp,h3,hf,ht]
   have hne:=h.nd m (m+1) (by omega) (by omega)
   have e0:(dcTo es P L m).getD (peN es P m) 0 - 1 - (dcTo es P L m).getD (peN es P m) 0=-1:=by omega
   rw [e0]
   have c1:(P.getD (m+1) 0=v)=(v=P.getD (m+1) 0):=propext ⟨Eq.symm,Eq.symm⟩
   have c2:(P.getD m 0=v)=(v=P.getD m 0):=propext ⟨Eq.symm,Eq.symm⟩
   simp only [c1,c2]
   by_cases v1:v=P.getD m 0
   ·have v2 : ¬ v = P.getD (m + 1) 0 := fun e => hne (v1.symm.trans e)
    rw [if_pos v1,if_neg v2,if_neg v2,if_pos v1];omega
   ·rw [if_neg v1, if_neg v1]
    split<;>omega
def lfS (es:List E3) (L:List Int) (s t:Int):List Int:=dcTo es (pthF es L s t) L ((pthF es L s t).length - 1)
def lft (es:List E3) (F:List Int) (s t:Int):Nat→List Int
 | 0=>F
 | i+1=>lfS es (lft es F s t i) s t
structure FlOK (es:List E3) (F:List Int) (s t c:Int):Prop where
 cap:CapOK es F
 flw:Flw es F s t c
 noin:∀ k,k < es.length→(edg es k).2.1=s→F.getD k 0=0
theorem ex_out {es:List E3} {L:List Int} {s:Int} (h0:∀ k,k < es.length→0≤L.getD k 0) (hn:∀ k,k < es.length→(edg es k).2.1=s→L.getD k 0=0):∀ i,i≤es.length→exTo es L s i≤0∧∀ k,k < i→(edg es k).1=s→exTo es L s i≤-(L.getD k 0)
 | 0,_=>⟨Int.le_refl _,fun k hk=>absurd hk (by omega)⟩
 | i + 1, hi => by
  obtain ⟨h1,h2⟩:=ex_out h0 hn i (by omega)
  have hz:=h0 i (by omega)
  have hni:=hn i (by omega)
  have e1:(if (edg es i).2.1=s then L.getD i 0 else 0)=0:=by
   split
   ·rename_i h;exact hni h
   ·rfl
  refine ⟨?_,fun k hk hks=>?_⟩
  ·simp only [exTo];rw [e1];split<;>omega
  ·simp only [exTo]; rw [e1]
   by_cases e:k=i
   ·subst e;rw [if_pos hks];omega
   ·have := h2 k (by omega) hks
    split<;>omega
theorem fnd_pos {es:List E3} {L:List Int} {sz s t c:Int} (hE:EOK es sz) (hs:0≤s∧s < sz) (hst:s≠t) (h:FlOK es L s t c) (hf:fndP es L s t=true):0 < c:=by
 have hL:=h.cap.amt hE
 have hp:=pth_ok hE hL hs hf
 have hlen:=hp.len
 have h2:1 < (pthF es L s t).length:=by
  rcases Nat.lt_or_ge 1 (pthF es L s t).length with h1 | h1
  ·exact h1
  ·exfalso
   have e1:=hp.fst;have e2:=hp.lst
   rw [show (pthF es L s t).length - 1=0 by omega] at e2
   exact hst (e1.symm.trans e2)
 obtain ⟨k,k1,k2,k3,k4⟩:=hp.ed 0 (by omega)
 rw [hp.fst] at k2
 have h3:=(ex_out (fun k hk=>(hL.2 k hk).1) h.noin es.length (Nat.le_refl _)).2 k k1 k2
 have h4:=h.flw s
 rw [if_neg hst,if_pos rfl] at h4
 unfold exF at h4
 omega
theorem fnd_none {es:List E3} {L:List Int} {sz s t c:Int} (hE:EOK es sz) (hs:0≤s∧s < sz) (h:FlOK es L s t c) (hf:fndP es L s t=false):c≤0:=by
 have hL:=h.cap.amt hE
 have hE':=capE_EOK hE hL
 have hG:=srcP_good hE hL hs
 have h1:=flw_cut hG h.flw hf
 have h2:0≤cutTo es (srcP es L s) L es.length:=cut_ge _ fun k hk=>by
  have hz:=(hL.2 k hk).1
  cases hr:(mget (srcP es L s) (edg es k).1).isSome with
  | false =>
   unfold ind
   rw [hr]
   simp only [Bool.false_eq_true,if_false]
   split<;>omega
  | true =>
   unfold ind
   rw [hr]
   by_cases h0:0 < L.getD k 0
   ·have := inT_iff.1 ((srch_cl hE' hs (inT_iff.2 hr) (k := k) (by rw [capE_len]; exact hk)).1 (by rw [capE_at hk]) (by rw [capE_at hk]; show ([] : List Int).getD k 0 < L.getD k 0; simpa using h0))
    rw [capE_at hk] at this
    rw [if_pos this,if_pos rfl];omega
   ·have hz0 : L.getD k 0 = 0 := by omega
    rw [hz0];(repeat' split)<;>omega
 omega
theorem lf_step {es:List E3} {L:List Int} {sz s t c:Int} (hE:EOK es sz) (hs:0≤s∧s < sz) (h:FlOK es L s t c) (hf:fndP es L s t=true):FlOK es (lfS es L s t) s t (c - 1)∧∀ k,k < es.length→(lfS es L s t).getD k 0≤L.getD k 0:=by
 have hL:=h.cap.amt hE
 have hp:=pth_ok hE hL hs hf
 have hlen:=hp.len
 obtain ⟨h1,_,h3⟩:=dc_ok hE hL hp ((pthF es L s t).length - 1) (by omega)
 refine ⟨⟨⟨by unfold lfS;rw [dc_len];exact h.cap.1,fun k hk=>?_⟩,fun v=>?_,fun k hk hks=>?_⟩,fun k hk=>(h1 k hk).2⟩
 ·have a1 := h1 k hk; have a2 := h.cap.2 k hk
  unfold lfS;omega
 ·have := h3 v
  rw [hp.fst,hp.lst,h.flw v] at this
  unfold lfS
  rw [this]
  (repeat' split)<;>omega
 ·have a1 := h1 k hk
  have:=h.noin k hk hks
  unfold lfS;omega
theorem lf_ok {es:List E3} {F:List Int} {sz s t c:Int} (hE:EOK es sz) (hs:0≤s∧s < sz) (hst:s≠t) (h:FlOK es F s t c) (hc:0≤c):∀ i:Nat,(∀ j,j < i→fndP es (lft es F s t j) s t=true)→FlOK es (lft es F s t i) s t (c - i)∧(∀ k,k < es.length→(lft es F s t i).getD k 0≤F.getD k 0)∧(i:Int)≤c
 | 0, _ => ⟨by have e : c - ((0 : Nat) : Int) = c := by omega
               rw [e];exact h,fun _ _=>Int.le_refl _,hc⟩
 | i + 1, hj => by
  obtain ⟨h1,h2,h3⟩:=lf_ok hE hs hst h hc i (fun j hj'=>hj j (by omega))
  have hf:=hj i (by omega)
  have h4:=lf_step hE hs h1 hf
  have h5:=fnd_pos hE hs hst h1 hf
  refine ⟨?_,fun k hk=>Int.le_trans (h4.2 k hk) (h2 k hk),by omega⟩
  have e:c - ((i+1:Nat):Int)=c - (i:Int) - 1:=by omega
  rw [e];exact h4.1
theorem lf_fnd {es:List E3} {F:List Int} {sz s t c:Int} (hE:EOK es sz) (hs:0≤s∧s < sz) (hst:s≠t) (h:FlOK es F s t c) (hc:0≤c):∀ i:Nat,(i:Int) < c→fndP es (lft es F s t i) s t=true
 | i, hi => by
  have hj:∀ j,j < i→fndP es (lft es F s t j) s t=true:=fun j hj=>lf_fnd hE hs hst h hc j (by omega)
  obtain ⟨h1,_,_⟩:=lf_ok hE hs hst h hc i hj
  cases hf:fndP es (lft es F s t i) s t with
  | true=>rfl
  | false=>have:=fnd_none hE hs h1 hf;omega
theorem tp_noin {es:List E3} {f:List Int} {sz s t:Int} {tr:List (Int×Int)} {j:Nat} {q:List Int×Int} (hE:EOK es sz) (hG:Good es f sz s tr) (h:TpOK es f s t tr j q) (hq:¬ q.2=s) (hn:∀ k,k < es.length→(edg es k).2.1=s→q.1.getD k 0=0):∀ k,k < es.length→(edg es k).2.1=s→(tpS es tr q).1.getD k 0=0:=by
 have hl:=h.cap.1
 intro k hk hks
 rcases (tp_step hE hG h hq).2 with ⟨k',h1,h2,h3,h4⟩ | ⟨k',h1,h2,h3,h4,h5⟩
 ·have e:tpS es tr q=(q.1.set k' (q.1.getD k' 0+1),(edg es k').1):=by
   unfold tpS
   rw [h1]
   simp only [Option.getD_some,Int.toNat_natCast]
   rw [if_pos (by omega)]
  rw [e]
  simp only
  rw [getD_set_if (by rw [hl];exact h2),if_neg (fun e=>by subst e;exact hq (h3.symm.trans hks))]
  exact hn k hk hks
 ·have e:tpS es tr q=(q.1.set k' (q.1.getD k' 0 - 1),(edg es k').2.1):=by
   unfold tpS
   rw [h1]
   simp only [Option.getD_some]
   rw [if_neg (by omega),show (((es.length:Nat):Int)+(k':Int) - ((es.length:Nat):Int)).toNat=k' by omega]
  rw [e]
  simp only
  rw [getD_set_if (by rw [hl];exact h2),if_neg (fun e=>by subst e;have:=hn k hk hks;omega)]
  exact hn k hk hks
theorem tpIt_noin {es:List E3} {f:List Int} {sz s t:Int} {tr:List (Int×Int)} (hE:EOK es sz) (hG:Good es f sz s tr) (hf:CapOK es f) (ht:(mget tr t).isSome=true) (hn:∀ k,k < es.length→(edg es k).2.1=s→f.getD k 0=0):∀ j k,k < es.length→(edg es k).2.1=s→(tpIt es tr s (f,t) j).1.getD k 0=0
 | 0=>hn
 | j + 1 => by
  have ih:=tpIt_noin hE hG hf ht hn j
  have e:tpIt es tr s (f,t) (j+1)=if (tpIt es tr s (f,t) j).2=s then tpIt es tr s (f,t) j else tpS es tr (tpIt es tr s (f,t) j):=rfl
  rw [e]
  split
  ·exact ih
  ·rename_i h2
   rcases tpIt_ok hE hG hf ht j with ⟨i,h1,h2',h3⟩ | h
   ·exact absurd h2' h2
   ·exact tp_noin hE hG h h2 ih
theorem flIt_noin {es:List E3} {sz s t:Int} (hE:EOK es sz) (hs:0≤s∧s < sz):∀ i k,k < es.length→(edg es k).2.1=s→(flIt es s t i).getD k 0=0
 | 0 => fun k hk _ => by
  show (List.replicate es.length (0:Int)).getD k 0=0
  rw [List.getD_eq_getElem?_getD,List.getElem?_replicate];split<;>rfl
 | i + 1 => by
  have ih:=flIt_noin (t:=t) hE hs i
  have e:flIt es s t (i+1)=if (mget (srch es (flIt es s t i) s) t).isSome=true then augF es (flIt es s t i) s t else flIt es s t i:=rfl
  rw [e]
  split
  ·rename_i hf
   unfold augF
   exact tpIt_noin hE (srch_good hE hs) (flIt_ok (t:=t) hE hs i).1 hf ih 8
  ·exact ih
theorem mf_fl {g:T26} {s t:Int} (h:qOK g s t=true):∃ K:Nat,K≤160∧FlOK g.2 (mfF g.2 s t) s t (K:Int)∧(mget (srch g.2 (mfF g.2 s t) s) t).isSome=false∧mfV g s t=(K:Int):=by
 obtain ⟨hE,hs,ht,hst⟩:=qOK_t h
 obtain ⟨K,h1,h2,h3,h4⟩:=mf_val hE hs hst
 refine ⟨K,h1,⟨h2,h3,?_⟩,h4,?_⟩
 ·unfold mfF;exact flIt_noin hE hs 200
 ·unfold mfV flV
  rw [if_pos h,if_pos h2.1,h3 s,if_neg hst,if_pos rfl];omega
theorem mfV_nn (g:T26) (s t:Int):0≤mfV g s t:=by
 cases h:qOK g s t with
 | false=>rw [← mfV_n h];exact Int.le_refl _
 | true=>obtain ⟨K,_,_,_,e⟩:=mf_fl h;omega
theorem gr_one {g:T26} (h:validGr g=true) {k:Nat} (hk:k < List.length g.2):1≤(edg g.2 k).2.2:=by
 unfold validGr at h
 rw [Bool.and_eq_true,allN_iff] at h
 have h1:=h.2 k hk
 unfold gB at h1
 simp only [Bool.and_eq_true,Bool.not_eq_true',decide_eq_false_iff_not] at h1
 exact (inR_t h1.1.2.2).1
theorem un_at {es:List T58} {k:Nat} (hk:k < es.length):edg (es.map unE) k=((edg es k).1,((edg es k).2.1,1)):=by
 unfold edg
 rw [getD_of_lt (by simpa using hk),List.getElem_map,getD_of_lt hk]
 rfl
theorem cd_le {g:T26} {s t:Int} (h:qOK g s t=true):mfV (unG g) s t≤mfV g s t:=by
 obtain ⟨K,h1,h2,h3,h4⟩:=mf_fl h
 obtain ⟨hE,hs,ht,hst⟩:=qOK_t h
 cases hu:qOK (unG g) s t with
 | false=>rw [← mfV_n hu];exact mfV_nn g s t
 | true =>
  obtain ⟨K',u1,u2,_,u4⟩:=mf_fl hu
  have hv:validGr g=true:=by
   unfold qOK at h
   rw [Bool.and_eq_true] at h
   exact h.1
  have hul:List.length (unG g).2=List.length g.2:=List.length_map _
  have hat:∀ k,k < List.length g.2→edg (unG g).2 k=((edg g.2 k).1,((edg g.2 k).2.1,1)):=fun k hk=>un_at hk
  have hc:CapOK g.2 (mfF (unG g).2 s t):=⟨u2.cap.1.trans hul,fun k hk=>by
   have a1:=u2.cap.2 k (by rw [hul];exact hk)
   rw [hat k hk] at a1
   have a2:=gr_one hv hk
   exact ⟨a1.1,Int.le_trans a1.2 a2⟩⟩
  have hf:Flw g.2 (mfF (unG g).2 s t) s t (K':Int):=fun v=>by
   have a1:=u2.flw v
   rw [← a1]
   unfold exF
   rw [hul]
   exact (exTo_ends _ fun k hk=>by rw [hat k hk];exact ⟨rfl,rfl⟩).symm
  have:=flw_max hE hs h2.cap h2.flw h3 hc hf
  rw [h4,u4];exact this
theorem cdF_le {g:T26} {s t:Int} (hv:validGr g=true):cdF g s t≤mfV g s t:=by
 unfold cdF
 rw [if_pos hv]
 cases h:qOK g s t with
 | true=>exact cd_le h
 | false =>
  have:qOK (unG g) s t=false:=by
   unfold qOK at h ⊢
   rw [hv,Bool.true_and] at h
   have e:(unG g).1=g.1:=rfl
   rw [e,h,Bool.and_false]
  rw [← mfV_n h,← mfV_n this];exact Int.le_refl _
theorem cdF_eq {g:T26} {s t:Int} (hv:validGr g=true):cdF g s t=mfV (unG g) s t:=if_pos hv
@[irreducible]
def decF (g:T26) (f:List Int) (s t:Int):List (List Int):=if qOK g s t=true then (List.range (flV g f s).toNat).map (fun (j:Nat)=>pthF g.2 (lft g.2 f s t j) s t) else []
def FlQ (g:T26) (f:List Int) (s t:Int):Prop:=qOK g s t=true→∃ K:Nat,K≤160∧FlOK g.2 f s t (K:Int)∧flV g f s=(K:Int)
theorem mf_FlQ (g:T26) (s t:Int):FlQ g (mfW g s t) s t:=fun h=>by
 obtain ⟨K,h1,h2,h3,h4⟩:=mf_fl h
 rw [mfW_y h]
 refine ⟨K,h1,h2,?_⟩
 rw [← h4,← mfV_y h,mfW_y h]
theorem pl_snoc {es:List E3} {f:List Int} {s t:Int} (i:Nat):(List.range (i+1)).map (fun (j:Nat)=>pthF es (lft es f s t j) s t)=(List.range i).map (fun (j:Nat)=>pthF es (lft es f s t j) s t)++[pthF es (lft es f s t i) s t]:=by rw [List.range_succ,List.map_append];rfl
theorem dec_y {g:T26} {f:List Int} {s t:Int} (h:qOK g s t=true) (hf:FlQ g f s t) {i:Nat} (hj:∀ j,j < i→fndP g.2 (lft g.2 f s t j) s t=true) (hn:fndP g.2 (lft g.2 f s t i) s t=false):(List.range i).map (fun (j:Nat)=>pthF g.2 (lft g.2 f s t j) s t)=decF g f s t:=by
 obtain ⟨K,h1,h2,h3⟩:=hf h
 obtain ⟨hE,hs,ht,hst⟩:=qOK_t h
 have a1:=(lf_ok hE hs hst h2 (by omega) i hj).2.2
 have a2:¬ (i:Int) < (K:Int):=fun hlt=>by
  have:=lf_fnd hE hs hst h2 (by omega) i hlt
  rw [hn] at this;cases this
 unfold decF
 rw [if_pos h,h3]
 congr 2;omega
theorem dec_n {g:T26} {f:List Int} {s t:Int} (h:qOK g s t=false):[]=decF g f s t:=by unfold decF;rw [if_neg (by rw [h];decide)]
theorem dec_fnd {g:T26} {f:List Int} {s t:Int} (h:qOK g s t=true) (hf:FlQ g f s t) {i:Nat} (hj:∀ j,j < i→fndP g.2 (lft g.2 f s t j) s t=true):i≤160∧CapOK g.2 (lft g.2 f s t i):=by
 obtain ⟨K,h1,h2,h3⟩:=hf h
 obtain ⟨hE,hs,ht,hst⟩:=qOK_t h
 have a1:=lf_ok hE hs hst h2 (by omega) i hj
 exact ⟨by omega,a1.1.cap⟩
theorem fnd_suc3 {es:List E3} {f:List Int} {s t:Int} {i:Nat} (h:fndP es (lft es f s t i) s t=true) (hj:∀ j,j < i→fndP es (lft es f s t j) s t=true):∀ j,j < i+1→fndP es (lft es f s t j) s t=true:=fun j hj'=>by
 by_cases e:j=i
 ·subst e;exact h
 ·exact hj j (by omega)
def usIt (es:List E3) (l:List (List Int)):Nat→List Int
 | 0=>List.replicate es.length 0
 | i+1=>icTo es (l.getD i []) (usIt es l i) ((l.getD i []).length - 1)
theorem us_len (es:List E3) (l:List (List Int)):∀ i,(usIt es l i).length=es.length
 | 0=>List.length_replicate
 | i+1=>by simp only [usIt];rw [ic_len];exact us_len es l i
theorem dec_at {g:T26} {f:List Int} {s t:Int} (h:qOK g s t=true) (hf:FlQ g f s t) {i:Nat} (hi:i < (decF g f s t).length):(decF g f s t).getD i []=pthF g.2 (lft g.2 f s t i) s t∧fndP g.2 (lft g.2 f s t i) s t=true∧FlOK g.2 (lft g.2 f s t i) s t (flV g f s - i)∧∀ k,k < List.length g.2→(lft g.2 f s t i).getD k 0≤f.getD k 0:=by
 obtain ⟨K,h1,h2,h3⟩:=hf h
 obtain ⟨hE,hs,ht,hst⟩:=qOK_t h
 unfold decF at hi ⊢
 rw [if_pos h] at hi ⊢
 rw [h3] at hi ⊢
 have hl:i < K:=by simpa using hi
 have a0:∀ j:Nat,j < K→fndP g.2 (lft g.2 f s t j) s t=true:=fun j hj=>lf_fnd hE hs hst h2 (by omega) j (by omega)
 have a1:=lf_ok hE hs hst h2 (by omega) i (fun j hj=>a0 j (by omega))
 refine ⟨?_,a0 i hl,a1.1,a1.2.1⟩
 rw [getD_of_lt hi,List.getElem_map,List.getElem_range]
theorem dec_len {g:T26} {f:List Int} {s t:Int} (h:qOK g s t=true):(((decF g f s t).length:Nat):Int)=max 0 (flV g f s):=by
 unfold decF
 rw [if_pos h,List.length_map,List.length_range]
 omega
theorem dec_path {g:T26} {f:List Int} {s t:Int} (h:qOK g s t=true) (hf:FlQ g f s t) {i:Nat} (hi:i < (decF g f s t).length):PathOK g.2 f g.1 s t ((decF g f s t).getD i []):=by
 obtain ⟨hE,hs,ht,hst⟩:=qOK_t h
 obtain ⟨a1,a2,a3,a4⟩:=dec_at h hf hi
 rw [a1]
 exact PathOK.mono (pth_ok hE (a3.cap.amt hE) hs a2) a4
theorem us_lf {g:T26} {f:List Int} {s t:Int} (h:qOK g s t=true) (hf:FlQ g f s t):∀ i,i≤(decF g f s t).length→∀ k,k < List.length g.2→(usIt g.2 (decF g f s t) i).getD k 0+(lft g.2 f s t i).getD k 0=f.getD k 0
 | 0, _, k, _ => by
  show (List.replicate (List.length g.2) (0:Int)).getD k 0+f.getD k 0=_
  rw [List.getD_eq_getElem?_getD,List.getElem?_replicate];split<;>simp
 | i + 1, hi, k, hk => by
  obtain ⟨hE,hs,ht,hst⟩:=qOK_t h
  have ih:=us_lf h hf i (by omega) k hk
  obtain ⟨a1,a2,a3,a4⟩:=dec_at h hf (i:=i) (by omega)
  have hp:=pth_ok hE (a3.cap.amt hE) hs a2
  have hlen:=hp.len
  simp only [usIt,lft]
  rw [a1]
  unfold lfS
  rw [dc_ic hE a3.cap.1 (us_len _ _ _) hp _ (by omega) k]
  exact ih
theorem us_bd {g:T26} {f:List Int} {s t:Int} (h:qOK g s t=true) (hf:FlQ g f s t) {i m:Nat} (hi:i < (decF g f s t).length) (hm:m+1≤((decF g f s t).getD i []).length) {k:Nat} (hk:k < List.length g.2):0≤(icTo g.2 ((decF g f s t).getD i []) (usIt g.2 (decF g f s t) i) m).getD k 0∧(icTo g.2 ((decF g f s t).getD i []) (usIt g.2 (decF g f s t) i) m).getD k 0≤f.getD k 0:=by
 obtain ⟨hE,hs,ht,hst⟩:=qOK_t h
 have ih:=us_lf h hf i (by omega) k hk
 obtain ⟨a1,a2,a3,a4⟩:=dec_at h hf hi
 have hp:=pth_ok hE (a3.cap.amt hE) hs a2
 rw [a1] at hm ⊢
 have b1:=dc_ic hE a3.cap.1 (us_len _ _ _) hp m hm k (U:=usIt g.2 (decF g f s t) i)
 have b2:=(dc_ok hE (a3.cap.amt hE) hp m hm).1 k hk
 have b3:=a4 k hk
 omega
theorem us_end {g:T26} {f:List Int} {s t:Int} (h:qOK g s t=true) (hf:FlQ g f s t) {k:Nat} (hk:k < List.length g.2):(usIt g.2 (decF g f s t) (decF g f s t).length).getD k 0≤f.getD k 0:=by
 obtain ⟨hE,hs,ht,hst⟩:=qOK_t h
 have b1:=us_lf h hf (decF g f s t).length (Nat.le_refl _) k hk
 obtain ⟨K,h1,h2,h3⟩:=hf h
 have hl:(decF g f s t).length=K:=by
  have:=dec_len (f:=f) h
  omega
 rw [hl] at b1 ⊢
 have a1:=(lf_ok hE hs hst h2 (by omega) K (fun j hj=>lf_fnd hE hs hst h2 (by omega) j (by omega))).1.cap.2 k hk
 omega
def pB (g:T26) (P:List Int) (i:Nat):Bool:=inR (P.getD i 0) 0 (g.1 - 1) && (!hasL (P.take i) (P.getD i 0) && (decide (i=0) || decide (0≤ebF g.2 (P.getD (i - 1) 0) (P.getD i 0))))
def isPa (g:T26) (P:List Int):Bool:=validGr g && (decide (0 < List.length P) && allN (pB g P) (List.length P))
theorem pB_t {g:T26} {P:List Int} {i:Nat} (h1:inR (P.getD i 0) 0 (g.1 - 1)=true) (h2:hasL (P.take i) (P.getD i 0)=false) (h3:i=0∨¬ ebF g.2 (P.getD (((i:Nat):Int) - 1).toNat 0) (P.getD i 0) < 0):pB g P i=true:=by
 have e:(((i:Nat):Int) - 1).toNat=i - 1:=by omega
 rw [e] at h3
 unfold pB;rw [h1,h2]
 rcases h3 with h3 | h3
 ·rw [decide_eq_true h3];rfl
 ·rw [decide_eq_true (show 0≤ebF g.2 (P.getD (i - 1) 0) (P.getD i 0) by omega),Bool.or_true];rfl
theorem pB_f {g:T26} {P:List Int} {i:Nat} (h:inR (P.getD i 0) 0 (g.1 - 1)=false∨hasL (P.take i) (P.getD i 0)=true∨(0 < i∧ebF g.2 (P.getD (((i:Nat):Int) - 1).toNat 0) (P.getD i 0) < 0)):pB g P i=false:=by
 have e:(((i:Nat):Int) - 1).toNat=i - 1:=by omega
 rw [e] at h
 unfold pB
 rcases h with h | h | ⟨h,h'⟩
 ·rw [h];simp
 ·rw [h];simp
 ·rw [decide_eq_false (show ¬ i=0 by omega),decide_eq_false (show ¬ 0≤ebF g.2 (P.getD (i - 1) 0) (P.getD i 0) by omega)];simp
theorem isPa_n {g:T26} {P:List Int} (h:validGr g=false∨List.length P=0∨allN (pB g P) (List.length P)=false):false=isPa g P:=by
 unfold isPa
 rcases h with h | h | h
 ·rw [h];rfl
 ·rw [decide_eq_false (show ¬ 0 < List.length P by omega)];simp
 ·rw [h];simp
theorem isPa_y {g:T26} {P:List Int} (h1:validGr g=true) (h2:¬ List.length P=0) (h3:allN (pB g P) (List.length P)=true):true=isPa g P:=by unfold isPa;rw [h1,h3,decide_eq_true (show 0 < List.length P by omega)];rfl
theorem hasL_take {P:List Int} {i:Nat} (hd:∀ a,a < i→P.getD a 0≠P.getD i 0) (hi:i < P.length):hasL (P.take i) (P.getD i 0)=false:=by
 unfold hasL
 rw [List.any_eq_false]
 intro y hy
 obtain ⟨j,hj,rfl⟩:=List.mem_iff_getElem.1 hy
 have hj':j < i:=by rw [List.length_take] at hj;omega
 have:=hd j hj'
 rw [getD_of_lt (show j < P.length by omega)] at this
 simpa using this
theorem PathOK.isP {g:T26} {L:List Int} {s t:Int} {P:List Int} (hv:validGr g=true) (h:PathOK g.2 L g.1 s t P):isPa g P=true:=by
 have hE:=gr_EOK hv
 refine (isPa_y hv (by have:=h.len;omega) (allN_iff.2 fun i hi=>pB_t ?_ (hasL_take (fun a ha=>h.nd a i ha hi) hi) ?_)).symm
 ·have := h.rg i hi
  unfold inR
  simp only [Bool.and_eq_true,decide_eq_true_eq]
  omega
 ·rcases Nat.eq_zero_or_pos i with h0 | h0
  ·exact .inl h0
  ·right
   have:=(h.at_ hE (m:=i - 1) (by omega)).1
   rw [show i - 1+1=i by omega] at this
   rw [show (((i:Nat):Int) - 1).toNat=i - 1 by omega,this]
   omega
def rvTo (l:List Int) (i:Nat):List Int:=(List.range l.length).map fun (k:Nat)=>if k < i∨l.length - i≤k then l.getD (l.length - 1 - k) 0 else l.getD k 0
theorem rv_len (l:List Int) (i:Nat):(rvTo l i).length=l.length:=by simp [rvTo]
theorem rv_at {l:List Int} {i k:Nat} (h:k < l.length):(rvTo l i).getD k 0=if k < i∨l.length - i≤k then l.getD (l.length - 1 - k) 0 else l.getD k 0:=by
 unfold rvTo
 rw [List.getD_eq_getElem?_getD,List.getElem?_map,List.getElem?_range h]
 rfl
theorem ext_getD {a b:List Int} (hl:a.length=b.length) (h:∀ k,k < a.length→a.getD k 0=b.getD k 0):a=b:=by
 refine List.ext_getElem hl fun k h1 h2=>?_
 have:=h k h1
 rwa [getD_of_lt h1,getD_of_lt h2] at this
theorem rv_zero (l:List Int):rvTo l 0=l:=ext_getD (rv_len l 0) fun k hk=>by rw [rv_len] at hk;rw [rv_at hk,if_neg (by omega)]
theorem rv_set {l:List Int} {i j:Nat} (hj:i+j+1=l.length) (hi:i < j):((rvTo l i).set i ((rvTo l i).getD j 0)).set j ((rvTo l i).getD i 0)=rvTo l (i+1):=by
 refine ext_getD (by simp [rv_len]) fun k hk=>?_
 have hk':k < l.length:=by simpa [rv_len] using hk
 rw [getD_set_if (by simp [rv_len];omega),getD_set_if (by rw [rv_len];omega),rv_at hk',rv_at (k:=i) (by omega),rv_at (k:=j) (by omega),rv_at hk']
 rw [if_neg (show ¬ (i < i∨l.length - i≤i) by omega),if_neg (show ¬ (j < i∨l.length - i≤j) by omega)]
 by_cases e1:k=j
 ·subst e1;rw [if_pos rfl,if_pos (by omega)];congr 1;omega
 ·rw [if_neg e1]
  by_cases e2:k=i
  ·subst e2;rw [if_pos rfl,if_pos (by omega)];congr 1;omega
  ·rw [if_neg e2]
   by_cases e3:k < i∨l.length - i≤k
   ·rw [if_pos e3,if_pos (by omega)]
   ·rw [if_neg e3,if_neg (by omega)]
theorem rv_all {l:List Int} {i:Nat} (h:l.length≤2*i+1):rvTo l i=l.reverse:=by
 refine ext_getD (by rw [rv_len,List.length_reverse]) fun k hk=>?_
 rw [rv_len] at hk
 rw [rv_at hk,rev_at hk]
 split
 ·rfl
 ·congr 1;omega
def balTo (es:List T58) (f:List Int) (n i:Nat):List Int:=(List.range n).map fun (v:Nat)=>exTo es f (v:Int) i
theorem bal_len (es:List T58) (f:List Int) (n i:Nat):(balTo es f n i).length=n:=by simp [balTo]
theorem bal_at {es:List T58} {f:List Int} {n i v:Nat} (h:v < n):(balTo es f n i).getD v 0=exTo es f (v:Int) i:=by
 unfold balTo
 rw [List.getD_eq_getElem?_getD,List.getElem?_map,List.getElem?_range h];rfl
theorem bal_zero (es:List T58) (f:List Int) (n:Nat):List.replicate n 0=balTo es f n 0:=by
 refine ext_getD (by simp [bal_len]) fun k hk=>?_
 have hk':k < n:=by simpa using hk
 rw [bal_at hk',List.getD_eq_getElem?_getD,List.getElem?_replicate,if_pos hk'];rfl
theorem bal_set {es:List T58} {f:List Int} {sz:Int} {i:Nat} (hE:EOK es sz) (hi:i < es.length) :
  ((balTo es f sz.toNat i).set (edg es i).1.toNat ((balTo es f sz.toNat i).getD (edg es i).1.toNat 0 - f.getD i 0)).set (edg es i).2.1.toNat (((balTo es f sz.toNat i).set (edg es i).1.toNat ((balTo es f sz.toNat i).getD (edg es i).1.toNat 0 - f.getD i 0)).getD (edg es i).2.1.toNat 0+f.getD i 0)=balTo es f sz.toNat (i+1):=by
 have he:=hE.ed i hi
 have h1:(edg es i).1.toNat < sz.toNat:=by omega
 have h2:(edg es i).2.1.toNat < sz.toNat:=by omega
 have hne:(edg es i).2.1.toNat≠(edg es i).1.toNat:=by omega
 refine ext_getD (by simp [bal_len]) fun k hk=>?_
 have hk':k < sz.toNat:=by simpa [bal_len] using hk
 rw [getD_set_if (by rw [List.length_set,bal_len];exact h2),getD_set_if (by rw [bal_len];exact h1),getD_set_if (by rw [bal_len];exact h1),bal_at hk',bal_at h1,bal_at h2,bal_at hk',if_neg hne]
 simp only [exTo]
 by_cases e1:k=(edg es i).2.1.toNat
 ·subst e1
  have c1:(edg es i).2.1=(((edg es i).2.1.toNat:Nat):Int):=by omega
  have c2:¬ (edg es i).1=(((edg es i).2.1.toNat:Nat):Int):=by omega
  rw [if_pos rfl,if_pos c1,if_neg c2];omega
 ·rw [if_neg e1]
  have c1:¬ (edg es i).2.1=((k:Nat):Int):=by omega
  by_cases e2:k=(edg es i).1.toNat
  ·subst e2
   have c2:(edg es i).1=(((edg es i).1.toNat:Nat):Int):=by omega
   rw [if_pos rfl,if_neg c1,if_pos c2];omega
  ·have c2 : ¬ (edg es i).1 = ((k : Nat) : Int) := by omega
   rw [if_neg e2,if_neg c1,if_neg c2];omega
theorem bal_fin {g:T26} {f:List Int} {s t:Int} {v:Nat} (h:qOK g s t=true) (hf:FlQ g f s t) (hv:v < g.1.toNat) (h1:¬ (v:Int)=s) (h2:¬ (v:Int)=t):(balTo g.2 f g.1.toNat g.2.length).getD v 0=0:=by
 obtain ⟨K,_,hk,_⟩:=hf h
 rw [bal_at hv]
 have:=hk.flw (v:Int)
 unfold exF at this
 rw [this,if_neg h1,if_neg h2];rfl
def pEd (g:T26) (P:List Int) (n:Nat):List Int:=(List.range n).map fun (m:Nat)=>ebF g.2 (P.getD m 0) (P.getD (m+1) 0)
theorem pEd_len (g:T26) (P:List Int) (n:Nat):(pEd g P n).length=n:=by simp [pEd]
theorem pEd_at {g:T26} {P:List Int} {n m:Nat} (h:m < n):(pEd g P n).getD m 0=ebF g.2 (P.getD m 0) (P.getD (m+1) 0):=by
 unfold pEd
 rw [List.getD_eq_getElem?_getD,List.getElem?_map,List.getElem?_range h];rfl
theorem pEd_snoc (g:T26) (P:List Int) (n:Nat):pEd g P (n+1)=pEd g P n++[ebF g.2 (P.getD n 0) (P.getD (n+1) 0)]:=by unfold pEd;rw [List.range_succ,List.map_append];rfl
def shPF (g:T26) (s t:Int) (L:List Int):List Int×Bool:=(pthF g.2 L s t,fndP g.2 L s t)
theorem shPF_y {g:T26} {s t:Int} {L:List Int} {i:Nat} (h:(mget (prs g.2 (srcP g.2 L s)) t).isSome=true) (h1:(ptIt g.2 (srcP g.2 L s) s ([t],t) i).2=s) (hi:i≤8):((ptIt g.2 (srcP g.2 L s) s ([t],t) i).1.reverse,true)=shPF g s t L:=by
 rw [prs_some] at h
 have h:fndP g.2 L s t=true:=h
 unfold shPF
 rw [pth_end h h1 hi,h]
theorem shPF_n {g:T26} {s t:Int} {L:List Int} (h:(mget (prs g.2 (srcP g.2 L s)) t).isSome=false):([],false)=shPF g s t L:=by
 rw [prs_some] at h
 have h:fndP g.2 L s t=false:=h
 unfold shPF
 rw [pth_no h,h]
theorem lft_end {es:List T58} {F:List Int} {s t:Int} {m i:Nat} (h:i=(pthF es (lft es F s t m) s t).length - 1):dcTo es (pthF es (lft es F s t m) s t) (lft es F s t m) i=lft es F s t (m+1):=by subst h;rfl
theorem que_nx {es:List T58} {L:List Int} {s:Int} {i:Nat} (h:i < (srP es L s i).length):List.drop 1 (List.drop i (fsts (fwP es L ((fsts (srP es L s i)).getD i 0) (srP es L s i) es.length)))=List.drop (i+1) (fsts (srP es L s (i+1))):=by rw [srP_nx h,List.drop_drop]
theorem srcP_end {es:List T58} {L:List Int} {s:Int} {i:Nat} (h:(srP es L s i).length≤i) (hi:i≤8):prs es (srP es L s i)=prs es (srcP es L s):=congrArg (prs es) (srch_end h hi).symm
def D_impl_EdgeBetween_1:=(fun (e:T58) (a b:Int)=>decide (e.1=a) && decide (e.2.1=b))
def S_impl_EdgeBetween_1:Sum:={ fid:=48,dom:=[s58,(.pt (.int 3)),(.pt (.int 3))],cod:=[(.bool 4)],dp:=true,fz:=false,pre:=fun x=>True,g:=fun x=>((D_impl_EdgeBetween_1 x.1 x.2.1 x.2.2.1),()) }
def S_impl_EdgeBetween_1_tab:List (Nat×Sum):=[]
theorem S_impl_EdgeBetween_1_ok:FnOK Try.prog 48 S_impl_EdgeBetween_1:=by
 refine at_enter 15 (fun x=>⟨[(0,aG [cI x.1.1,cI x.1.2.1,cI x.1.2.2]),(1,aR (.int 3) x.2.1 0),(2,aR (.int 3) x.2.2.1 0)],[]⟩) Try.func48 rfl (by kernel_rfl) (fun x=>rfl) ?_
 rintro w0 Z0 ⟨x0,x1,x2,u⟩ a w
 revert x0 x1 x2
 intro (x0:T58) (x1:Int) (x2:Int) hpre hlens h
 have hT:TabOK Try.prog w0 [] S_impl_EdgeBetween_1_tab:=.nil
 refine wp_seq ?_
 refine at_regq [{ ids:=[1] }] { ts:=[1,2,3,4],os:=[1] } [] gamOK hT h (by kernel_rfl) trivial fun a w h=>then_normal (wp_seq ?_)
 by_cases h1:x0.1=x1
 ·refine at_regq [{}, {}, {}, { hint := some (aB true) }] { ts := [4], os := [] } [(AV.p (.c (.v (.bool (decide (x0.1 = x1))))) = AV.p (.c (.v (.bool true))))] gamOK hT h (by kernel_rfl) ⟨hint_bool (decide_eq_true h1), trivial⟩ fun a w h => then_normal (wp_ret ?_)
  exact at_return (decide (x0.2.1=x2),()) [] h (by kernel_rfl) trivial (congrArg (fun z=>(z,())) (show (decide (x0.2.1=x2))=D_impl_EdgeBetween_1 x0 x1 x2 from by unfold D_impl_EdgeBetween_1;first | rfl | (simp_all;done)))
 ·refine at_regq [{}, {}, {}, { hint := some (aB false) }] { ts := [4], os := [] } [(AV.p (.c (.v (.bool (decide (x0.1 = x1))))) = AV.p (.c (.v (.bool false))))] gamOK hT h (by kernel_rfl) ⟨hint_bool (decide_eq_false h1), trivial⟩ fun a w h => then_normal (wp_ret ?_)
  exact at_return (false,()) [] h (by kernel_rfl) trivial (congrArg (fun z=>(z,())) (show (false)=D_impl_EdgeBetween_1 x0 x1 x2 from by unfold D_impl_EdgeBetween_1;first | rfl | (simp_all;done)))

def D_slices_IndexFunc_S_impl_Edge_impl_Edge__EdgeBetween_1:=(fun (xs:List T58) (cap:(Int×Int))=>idxF (fun e=>(decide (e.1=cap.1) && decide (e.2.1=cap.2))) xs)
def S_slices_IndexFunc_S_impl_Edge_impl_Edge__EdgeBetween_1:Sum:={ fid:=47,dom:=[s24,(.fn 48 (.pair (.pt (.int 3)) (.pt (.int 3))))],cod:=[(.int 3)],dp:=true,fz:=false,pre:=fun x=>True,g:=fun x=>((D_slices_IndexFunc_S_impl_Edge_impl_Edge__EdgeBetween_1 x.1 x.2.1),()) }
def S_slices_IndexFunc_S_impl_Edge_impl_Edge__EdgeBetween_1_tab:List (Nat×Sum):=[(48,S_impl_EdgeBetween_1)]
theorem S_slices_IndexFunc_S_impl_Edge_impl_Edge__EdgeBetween_1_ok:FnOK Try.prog 47 S_slices_IndexFunc_S_impl_Edge_impl_Edge__EdgeBetween_1:=by
 refine at_enter 19 (fun x=>⟨[(0,aF s58 x.1),(1,.p (.c (.cl 48 (.ccons (.pr (.int 3) x.2.1.1 0) (.ccons (.pr (.int 3) x.2.1.2 0) .cnil)))))],[]⟩) Try.func47 rfl (by kernel_rfl) (fun x=>rfl) ?_
 rintro w0 Z0 ⟨x0,x1,u⟩ a w
 revert x0 x1
 intro (x0:(List T58)) (x1:(Int×Int)) hpre hlens h
 have hl1:List.length x0≤9223372036854775807:=hlens.1.1
 have hT:TabOK Try.prog w0 [] S_slices_IndexFunc_S_impl_Edge_impl_Edge__EdgeBetween_1_tab:=(.cons S_impl_EdgeBetween_1_ok .nil)
 refine wp_seq ?_
 refine at_regq [] { ts:=[0,1,4],os:=[] } [] gamOK hT h (by kernel_rfl) trivial fun a w h=>then_normal (wp_seq (wp_seq ?_))
 refine at_regq [] { ts:=[0,1,4,7,8],os:=[] } [] gamOK hT h (by kernel_rfl) trivial fun a w h=>then_normal (wp_block ?_)
 replace h:=at_out (σ':=⟨[(0,aF s58 x0),(1,.p (.c (.cl 48 (.ccons (.pr (.int 3) x1.1 0) (.ccons (.pr (.int 3) x1.2 0) .cnil))))),(4,aI 0),(7,aI ((List.length x0:Nat):Int)),(8,aI 0)],[]⟩) { ts:=[0,1,4,7,8],os:=[] } h (by kernel_rfl)
 refine at_loop (fun i:Nat=>(⟨[(0,aF s58 x0),(1,.p (.c (.cl 48 (.ccons (.pr (.int 3) x1.1 0) (.ccons (.pr (.int 3) x1.2 0) .cnil))))),(4,aI 0),(7,aI ((List.length x0:Nat):Int)),(8,aI ((i:Nat):Int))],[]⟩:St)) (fun i=>(i≤List.length x0∧noneTo (fun e=>(decide (e.1=x1.1) && decide (e.2.1=x1.2))) x0 (0,(0,0)) i)) (fun i=>List.length x0 - i) (0) h (st_congr1 (fun (d0:Int)=>(⟨[(0,aF s58 x0),(1,.p (.c (.cl 48 (.ccons (.pr (.int 3) x1.1 0) (.ccons (.pr (.int 3) x1.2 0) .cnil))))),(4,aI 0),(7,aI ((List.length x0:Nat):Int)),(8,aI d0)],[]⟩:St)) (show (0:Int)=(((0):Nat):Int) from by first | with_reducible rfl | (rfl) | rfl)) (by exact ⟨Nat.zero_le _,noneTo_zero⟩) ?_
 intro i a w hok0 h
 refine wp_seq ?_
 refine at_regq [] { ts:=[0,1,4,7,8,9],os:=[] } [] gamOK hT h (by kernel_rfl) trivial fun a w h=>then_normal (wp_seq ?_)
 refine at_test (decide (((i:Nat):Int) < ((List.length x0:Nat):Int))) h (by kernel_rfl) (fun h1=>?_) (fun h1=>?_)
 ·replace h1 : ((i : Nat) : Int) < ((List.length x0 : Nat) : Int) := of_decide_eq_true h1
  refine wp_skip (then_normal (wp_seq (wp_block (wp_seq ?_))))
  refine at_regq [] { ts:=[0,1,4,5,7,8],os:=[] } [] gamOK hT h (by kernel_rfl) trivial fun a w h=>then_normal (wp_seq ?_)
  refine at_regq [] { ts:=[0,1,4,5,7,8,16],os:=[] } [(0:Int)≤((i:Nat):Int)∧((i:Nat):Int) < ((List.length x0:Nat):Int),True] gamOK hT h (by kernel_rfl) ⟨(by refine ⟨?_,?_⟩<;>(first | omega | (simp only [lsA];omega) | (simp<;>omega))),trivial,trivial⟩ fun a w h=>then_normal ?_
  refine at_test ((D_impl_EdgeBetween_1 (x0.getD i (0,(0,0))) x1.1 x1.2)) h (by kernel_rfl) (fun h2=>?_) (fun h2=>?_)
  ·refine wp_seq ?_
   refine at_regq [] { ts:=[0,1,4,7,8],os:=[] } [] gamOK hT h (by kernel_rfl) trivial fun a w h=>then_normal (wp_ret (in_ret (then_ret (then_ret (in_ret (then_ret ?_))))))
   exact at_return (((i:Nat):Int),()) [] h (by kernel_rfl) trivial (congrArg (fun z=>(z,())) (show (((i:Nat):Int))=D_slices_IndexFunc_S_impl_Edge_impl_Edge__EdgeBetween_1 x0 x1 from by unfold D_slices_IndexFunc_S_impl_Edge_impl_Edge__EdgeBetween_1;exact (idxF_at (z:=(0,(0,0))) (by omega) hok0.2 h2).symm))
  ·refine wp_skip (in_normal (then_normal ?_))
   refine at_regq [{ nw:=true }] { ts:=[0,1,4,7,8],os:=[] } [I64 (((i:Nat):Int)+1)] gamOK hT h (by kernel_rfl) ⟨⟨by first | omega | (simp only [lsA];omega) | (simp<;>omega),by first | omega | (simp only [lsA];omega) | (simp<;>omega)⟩,trivial⟩ fun a w h=>?_
   replace h:=at_out (σ':=⟨[(0,aF s58 x0),(1,.p (.c (.cl 48 (.ccons (.pr (.int 3) x1.1 0) (.ccons (.pr (.int 3) x1.2 0) .cnil))))),(4,aI 0),(7,aI ((List.length x0:Nat):Int)),(8,aI (((i:Nat):Int)+1))],[]⟩) { ts:=[0,1,4,7,8],os:=[] } h (by kernel_rfl)
   exact ⟨i+1,at_eq h (st_congr1 (fun (d0:Int)=>(⟨[(0,aF s58 x0),(1,.p (.c (.cl 48 (.ccons (.pr (.int 3) x1.1 0) (.ccons (.pr (.int 3) x1.2 0) .cnil))))),(4,aI 0),(7,aI ((List.length x0:Nat):Int)),(8,aI d0)],[]⟩:St)) (show (((i:Nat):Int)+1:Int)=(((i+1):Nat):Int) from by first | with_reducible rfl | (omega) | rfl)),(by exact ⟨by omega,noneTo_succ hok0.2 h2⟩),(by omega)⟩
 ·replace h1 : ¬ (((i : Nat) : Int) < ((List.length x0 : Nat) : Int)) := of_decide_eq_false h1
  refine wp_exit (then_exit (then_exit (in_hit (then_normal (wp_seq ?_)))))
  refine at_regq [] { ts:=[4],os:=[] } [] gamOK hT h (by kernel_rfl) trivial fun a w h=>then_normal (wp_ret ?_)
  exact at_return ((-1),()) [] h (by kernel_rfl) trivial (congrArg (fun z=>(z,())) (show ((-1))=D_slices_IndexFunc_S_impl_Edge_impl_Edge__EdgeBetween_1 x0 x1 from by unfold D_slices_IndexFunc_S_impl_Edge_impl_Edge__EdgeBetween_1;exact (idxF_none (z:=(0,(0,0))) (by omega) hok0.2).symm))

def D_impl_EdgeBetween:=(fun (g:T26) (a b:Int)=>ebF g.2 a b)
abbrev Q_impl_EdgeBetween:=(fun (x0:T26) (x1:Int) (x2:Int)=>Sh.fit s26 x0)
def S_impl_EdgeBetween:Sum:={ fid:=37,dom:=[s26,(.int 3),(.int 3)],cod:=[(.int 3)],dp:=true,fz:=false,pre:=fun x=>Q_impl_EdgeBetween x.1 x.2.1 x.2.2.1,g:=fun x=>((D_impl_EdgeBetween x.1 x.2.1 x.2.2.1),()) }
def S_impl_EdgeBetween_tab:List (Nat×Sum):=[(100001,S_slices_IndexFunc_S_impl_Edge_impl_Edge__EdgeBetween_1)]
theorem S_impl_EdgeBetween_ok:FnOK Try.prog 37 S_impl_EdgeBetween:=by
 refine at_enter 11 (fun x=>⟨[(0,aG [cI x.1.1,.ro s58 x.1.2]),(1,aI x.2.1),(2,aI x.2.2.1)],[]⟩) Try.func37 rfl (by kernel_rfl) (fun x=>rfl) ?_
 rintro w0 Z0 ⟨x0,x1,x2,u⟩ a w
 revert x0 x1 x2
 intro (x0:T26) (x1:Int) (x2:Int) hpre hlens h
 replace hpre:Q_impl_EdgeBetween x0 x1 x2:=hpre
 have hT:TabOK Try.prog w0 [] S_impl_EdgeBetween_tab:=(.cons S_slices_IndexFunc_S_impl_Edge_impl_Edge__EdgeBetween_1_ok .nil)
 have hf0:Sh.fit s26 x0:=hpre
 have hn0_1:List.length x0.2≤1073741824:=hf0.2.1
 refine wp_seq ?_
 refine at_regq [{ ids:=[1] },{ ids:=[2] },{ ids:=[3] }] { ts:=[3,4,5,6],os:=[1,2,3] } [] gamOK hT h (by kernel_rfl) trivial fun a w h=>then_normal (wp_seq ?_)
 refine at_regq [{},{},{},{ key:=some 100001 }] { ts:=[6],os:=[] } [True] gamOK hT h (by kernel_rfl) ⟨trivial,trivial⟩ fun a w h=>then_normal (wp_ret ?_)
 exact at_return ((D_slices_IndexFunc_S_impl_Edge_impl_Edge__EdgeBetween_1 x0.2 (x1,x2)),()) [] h (by kernel_rfl) trivial (congrArg (fun z=>(z,())) (show ((D_slices_IndexFunc_S_impl_Edge_impl_Edge__EdgeBetween_1 x0.2 (x1,x2)))=D_impl_EdgeBetween x0 x1 x2 from by unfold D_impl_EdgeBetween;rfl))

def D_spec_EdgeBetween:=(fun (g:T26) (a b:Int)=>ebF g.2 a b)
abbrev Q_spec_EdgeBetween:=(fun (x0:T26) (x1:Int) (x2:Int)=>Sh.fit s26 x0)
def S_spec_EdgeBetween:Sum:={ fid:=9,dom:=[s26,(.int 3),(.int 3)],cod:=[(.int 3)],dp:=true,fz:=false,pre:=fun x=>Q_spec_EdgeBetween x.1 x.2.1 x.2.2.1,g:=fun x=>((D_spec_EdgeBetween x.1 x.2.1 x.2.2.1),()) }
def S_spec_EdgeBetween_tab:List (Nat×Sum):=[]
theorem S_spec_EdgeBetween_ok:FnOK Try.prog 9 S_spec_EdgeBetween:=by
 refine at_enter 34 (fun x=>⟨[(0,aG [cI x.1.1,.ro s58 x.1.2]),(1,aI x.2.1),(2,aI x.2.2.1)],[]⟩) Try.func9 rfl (by kernel_rfl) (fun x=>rfl) ?_
 rintro w0 Z0 ⟨x0,x1,x2,u⟩ a w
 revert x0 x1 x2
 intro (x0:T26) (x1:Int) (x2:Int) hpre hlens h
 replace hpre:Q_spec_EdgeBetween x0 x1 x2:=hpre
 have hT:TabOK Try.prog w0 [] S_spec_EdgeBetween_tab:=.nil
 have hf0:Sh.fit s26 x0:=hpre
 have hn0_1:List.length x0.2≤1073741824:=hf0.2.1
 refine wp_seq ?_
 refine at_regq [{ ids:=[1] }] { ts:=[1,2,3,6],os:=[1] } [] gamOK hT h (by kernel_rfl) trivial fun a w h=>then_normal (wp_seq (wp_seq ?_))
 refine at_regq [] { ts:=[1,2,3,6,7],os:=[1] } [] gamOK hT h (by kernel_rfl) trivial fun a w h=>then_normal (wp_block ?_)
 replace h:=at_out (σ':=⟨[(1,aI x1),(2,aI x2),(3,aP 1 0),(6,aI 0),(7,aI 0)],[(1,oX 26 [cI x0.1,.ro s58 x0.2])]⟩) { ts:=[1,2,3,6,7],os:=[1] } h (by kernel_rfl)
 refine at_loop (fun i:Nat=>(⟨[(1,aI x1),(2,aI x2),(3,aP 1 0),(6,aI 0),(7,aI ((i:Nat):Int))],[(1,oX 26 [cI x0.1,.ro s58 x0.2])]⟩:St)) (fun i=>(i≤List.length x0.2∧noneTo (fun (e:T58)=>decide (e.1=x1) && decide (e.2.1=x2)) x0.2 (0,(0,0)) i)) (fun i=>List.length x0.2 - i) (0) h (st_congr1 (fun (d0:Int)=>(⟨[(1,aI x1),(2,aI x2),(3,aP 1 0),(6,aI 0),(7,aI d0)],[(1,oX 26 [cI x0.1,.ro s58 x0.2])]⟩:St)) (show (0:Int)=(((0):Nat):Int) from by first | with_reducible rfl | (rfl) | rfl)) (by exact ⟨Nat.zero_le _,noneTo_zero⟩) ?_
 intro i a w hok0 h
 refine wp_seq (wp_seq ?_)
 refine at_regq [] { ts:=[1,2,3,6,7,12],os:=[1] } [] gamOK hT h (by kernel_rfl) trivial fun a w h=>then_normal ?_
 refine at_test (decide (((i:Nat):Int) < ((List.length x0.2:Nat):Int))) h (by kernel_rfl) (fun h1=>?_) (fun h1=>?_)
 ·replace h1 : ((i : Nat) : Int) < ((List.length x0.2 : Nat) : Int) := of_decide_eq_true h1
  refine wp_skip (then_normal (wp_seq (wp_block (wp_seq ?_))))
  by_cases h2:(x0.2.getD i (0,(0,0))).1=x1
  ·refine at_regq [{}, {}, {}, {}, {}, {}, {}, { hint := some (aB true) }] { ts := [1, 2, 3, 6, 7, 24, 25, 26, 27, 28, 29, 30, 31, 32], os := [1] } [(0 : Int) ≤ ((i : Nat) : Int) ∧ ((i : Nat) : Int) < ((List.length x0.2 : Nat) : Int), (AV.p (.c (.v (.bool (decide ((x0.2.getD i (0, (0, 0))).1 = x1))))) = AV.p (.c (.v (.bool true)))), (0 : Int) ≤ ((i : Nat) : Int) ∧ ((i : Nat) : Int) < ((List.length x0.2 : Nat) : Int)] gamOK hT h (by kernel_rfl) ⟨(by refine ⟨?_, ?_⟩ <;> (first | omega | (simp only [lsA]; omega) | (simp <;> omega))), hint_bool (decide_eq_true h2), (by refine ⟨?_, ?_⟩ <;> (first | omega | (simp only [lsA]; omega) | (simp <;> omega))), trivial⟩ fun a w h => then_normal ?_
   refine at_test (decide ((x0.2.getD i (0,(0,0))).2.1=x2)) h (by kernel_rfl) (fun h3=>?_) (fun h3=>?_)
   ·replace h3 : (x0.2.getD i (0, (0, 0))).2.1 = x2 := of_decide_eq_true h3
    refine wp_seq ?_
    refine at_regq [] { ts:=[1,2,3,6,7,24,25,26,27,28,29,30,31],os:=[1] } [] gamOK hT h (by kernel_rfl) trivial fun a w h=>then_normal (wp_ret (in_ret (then_ret (then_ret (in_ret (then_ret ?_))))))
    exact at_return (((i:Nat):Int),()) [] h (by kernel_rfl) trivial (congrArg (fun z=>(z,())) (show (((i:Nat):Int))=D_spec_EdgeBetween x0 x1 x2 from by unfold D_spec_EdgeBetween;exact (idxF_at (z:=(0,(0,0))) (by omega) hok0.2 (by simp_all)).symm))
   ·replace h3 : ¬ ((x0.2.getD i (0, (0, 0))).2.1 = x2) := of_decide_eq_false h3
    refine wp_skip (in_normal (then_normal ?_))
    refine at_regq [{},{ nw:=true }] { ts:=[1,2,3,6,7,24,25,26,27,28,29,30,31],os:=[1] } [I64 (((i:Nat):Int)+1)] gamOK hT h (by kernel_rfl) ⟨⟨by first | omega | (simp only [lsA];omega) | (simp<;>omega),by first | omega | (simp only [lsA];omega) | (simp<;>omega)⟩,trivial⟩ fun a w h=>?_
    replace h:=at_out (σ':=⟨[(1,aI x1),(2,aI x2),(3,aP 1 0),(6,aI 0),(7,aI (((i:Nat):Int)+1))],[(1,oX 26 [cI x0.1,.ro s58 x0.2])]⟩) { ts:=[1,2,3,6,7],os:=[1] } h (by kernel_rfl)
    exact ⟨i+1,at_eq h (st_congr1 (fun (d0:Int)=>(⟨[(1,aI x1),(2,aI x2),(3,aP 1 0),(6,aI 0),(7,aI d0)],[(1,oX 26 [cI x0.1,.ro s58 x0.2])]⟩:St)) (show (((i:Nat):Int)+1:Int)=(((i+1):Nat):Int) from by first | with_reducible rfl | (omega) | rfl)),(by exact ⟨by omega,noneTo_succ hok0.2 (by simp_all)⟩),(by omega)⟩
  ·refine at_regq [{}, {}, {}, {}, {}, {}, {}, { hint := some (aB false) }] { ts := [1, 2, 3, 6, 7, 24, 25, 26, 27, 28, 29, 30, 31, 32], os := [1] } [(0 : Int) ≤ ((i : Nat) : Int) ∧ ((i : Nat) : Int) < ((List.length x0.2 : Nat) : Int), (AV.p (.c (.v (.bool (decide ((x0.2.getD i (0, (0, 0))).1 = x1))))) = AV.p (.c (.v (.bool false))))] gamOK hT h (by kernel_rfl) ⟨(by refine ⟨?_, ?_⟩ <;> (first | omega | (simp only [lsA]; omega) | (simp <;> omega))), hint_bool (decide_eq_false h2), trivial⟩ fun a w h => then_normal ?_
   refine at_test false h (by kernel_rfl) (fun hh=>nomatch hh) (fun hh=>?_)
   refine wp_skip (in_normal (then_normal ?_))
   refine at_regq [{},{ nw:=true }] { ts:=[1,2,3,6,7,24,25,26,27,28,29,30,31],os:=[1] } [I64 (((i:Nat):Int)+1)] gamOK hT h (by kernel_rfl) ⟨⟨by first | omega | (simp only [lsA];omega) | (simp<;>omega),by first | omega | (simp only [lsA];omega) | (simp<;>omega)⟩,trivial⟩ fun a w h=>?_
   replace h:=at_out (σ':=⟨[(1,aI x1),(2,aI x2),(3,aP 1 0),(6,aI 0),(7,aI (((i:Nat):Int)+1))],[(1,oX 26 [cI x0.1,.ro s58 x0.2])]⟩) { ts:=[1,2,3,6,7],os:=[1] } h (by kernel_rfl)
   exact ⟨i+1,at_eq h (st_congr1 (fun (d0:Int)=>(⟨[(1,aI x1),(2,aI x2),(3,aP 1 0),(6,aI 0),(7,aI d0)],[(1,oX 26 [cI x0.1,.ro s58 x0.2])]⟩:St)) (show (((i:Nat):Int)+1:Int)=(((i+1):Nat):Int) from by first | with_reducible rfl | (omega) | rfl)),(by exact ⟨by omega,noneTo_succ hok0.2 (by simp_all)⟩),(by omega)⟩
 ·replace h1 : ¬ (((i : Nat) : Int) < ((List.length x0.2 : Nat) : Int)) := of_decide_eq_false h1
  refine wp_exit (then_exit (then_exit (in_hit (then_normal (wp_seq ?_)))))
  refine at_regq [] { ts:=[6],os:=[] } [] gamOK hT h (by kernel_rfl) trivial fun a w h=>then_normal (wp_ret ?_)
  exact at_return ((-1),()) [] h (by kernel_rfl) trivial (congrArg (fun z=>(z,())) (show ((-1))=D_spec_EdgeBetween x0 x1 x2 from by unfold D_spec_EdgeBetween;exact (idxF_none (z:=(0,(0,0))) (by omega) hok0.2).symm))

def D_impl_IsValidFlow:=(fun (g:T26) (_:List Int) (s t:Int)=>qOK g s t)
abbrev Q_impl_IsValidFlow:=(fun (x0:T26) (x1:(List Int)) (x2:Int) (x3:Int)=>Sh.fit s26 x0∧Sh.fit s31 x1∧FlQ x0 x1 x2 x3)
def S_impl_IsValidFlow:Sum:={ fid:=19,dom:=[s26,s31,(.int 3),(.int 3)],cod:=[(.bool 4)],dp:=true,fz:=false,pre:=fun x=>Q_impl_IsValidFlow x.1 x.2.1 x.2.2.1 x.2.2.2.1,g:=fun x=>((D_impl_IsValidFlow x.1 x.2.1 x.2.2.1 x.2.2.2.1),()) }
def S_impl_IsValidFlow_tab:List (Nat×Sum):=[(34,S_impl_isQuestion),(35,S_impl_InRange)]
theorem S_impl_IsValidFlow_ok:FnOK Try.prog 19 S_impl_IsValidFlow:=by
 refine at_enter 93 (fun x=>⟨[(0,aG [cI x.1.1,.ro s58 x.1.2]),(1,aG [.ro (.int 3) x.2.1]),(2,aI x.2.2.1),(3,aI x.2.2.2.1)],[]⟩) Try.func19 rfl (by kernel_rfl) (fun x=>rfl) ?_
 rintro w0 Z0 ⟨x0,x1,x2,x3,u⟩ a w
 revert x0 x1 x2 x3
 intro (x0:T26) (x1:(List Int)) (x2:Int) (x3:Int) hpre hlens h
 replace hpre:Q_impl_IsValidFlow x0 x1 x2 x3:=hpre
 have hT:TabOK Try.prog w0 [] S_impl_IsValidFlow_tab:=(.cons S_impl_isQuestion_ok (.cons S_impl_InRange_ok .nil))
 obtain ⟨hf0,hf1,hpx⟩:=hpre
 have hn0_1:List.length x0.2≤1073741824:=hf0.2.1
 have hn1_2:List.length x1≤1073741824:=hf1.1
 refine wp_seq ?_
 refine at_regq [{ ids:=[1] },{ ids:=[2] }] { ts:=[2,3,4,5,8],os:=[1,2] } [] gamOK hT h (by kernel_rfl) trivial fun a w h=>then_normal (wp_seq (wp_seq ?_))
 rcases Bool.eq_false_or_eq_true (!(qOK x0 x2 x3)) with h1 | h1
 ·have hzh1 : (qOK x0 x2 x3) = false := notT h1
  refine at_regq [{},{},{},{},{ hint:=some (aB true) }] { ts:=[2,3,4,5,8,27],os:=[1,2] } [Q_impl_isQuestion x0 x2 x3,(AV.p (.c (.v (.bool (!(qOK x0 x2 x3)))))=AV.p (.c (.v (.bool true))))] gamOK hT h (by kernel_rfl) ⟨(by exact hf0),hint_bool (h1),trivial⟩ fun a w h=>then_normal ?_
  refine at_test true h (by kernel_rfl) (fun hh=>?_) (fun hh=>nomatch hh)
  refine wp_seq ?_
  refine at_regq [] { ts:=[2,3,4,5,8],os:=[1,2] } [] gamOK hT h (by kernel_rfl) trivial fun a w h=>then_normal (wp_ret (then_ret ?_))
  exact at_return (false,()) [] h (by kernel_rfl) trivial (congrArg (fun z=>(z,())) (show (false)=D_impl_IsValidFlow x0 x1 x2 x3 from by unfold D_impl_IsValidFlow;first | (symm;assumption) | assumption | exact absurd (hin.symm.trans (by assumption)) (by decide) | (simp_all;done) | (exfalso;have h9:=bal_fin (v:=v) (by assumption) hpx (by omega) (by assumption) (by assumption);exact absurd h9 (by assumption))))
 ·have hzh1 : (qOK x0 x2 x3) = true := notF h1
  have hqf:=hpx (by assumption)
  obtain ⟨K,hK1,hK2,hK3⟩:=hqf
  have hE:=(qOK_t (by assumption)).1
  have hC:=hK2.cap
  have hcl:=hC.1
  have hel:=hE.len
  have hsz:=hE.szb
  refine at_regq [{},{},{},{},{ hint:=some (aB false) }] { ts:=[2,3,4,5,8,27],os:=[1,2] } [Q_impl_isQuestion x0 x2 x3,(AV.p (.c (.v (.bool (!(qOK x0 x2 x3)))))=AV.p (.c (.v (.bool false))))] gamOK hT h (by kernel_rfl) ⟨(by exact hf0),hint_bool (h1),trivial⟩ fun a w h=>then_normal ?_
  refine at_test (!decide (((List.length x1:Nat):Int)=((List.length x0.2:Nat):Int))) h (by kernel_rfl) (fun h2=>?_) (fun h2=>?_)
  ·replace h2 : ¬ (((List.length x1 : Nat) : Int) = ((List.length x0.2 : Nat) : Int)) := of_decide_eq_false (notT h2)
   refine wp_seq ?_
   refine at_regq [] { ts:=[2,3,4,5,8],os:=[1,2] } [] gamOK hT h (by kernel_rfl) trivial fun a w h=>then_normal (wp_ret (then_ret ?_))
   exact at_return (false,()) [] h (by kernel_rfl) trivial (congrArg (fun z=>(z,())) (show (false)=D_impl_IsValidFlow x0 x1 x2 x3 from by unfold D_impl_IsValidFlow;first | (symm;assumption) | assumption | exact absurd (hin.symm.trans (by assumption)) (by decide) | (simp_all;done) | (exfalso;have h9:=bal_fin (v:=v) (by assumption) hpx (by omega) (by assumption) (by assumption);exact absurd h9 (by assumption))))
  ·replace h2 : ((List.length x1 : Nat) : Int) = ((List.length x0.2 : Nat) : Int) := of_decide_eq_true (notF h2)
   refine wp_skip (then_normal (wp_seq ?_))
   refine at_regq [{},{},{ ids:=[3] }] { ts:=[2,3,4,5,8,9],os:=[1,2,3] } [(0:Int)≤x0.1∧x0.1=x0.1∧x0.1*(8:Nat)≤(140737488355328:Int)] gamOK hT h (by kernel_rfl) ⟨(by refine ⟨?_,?_,?_⟩<;>((have hA0:=mul_f x0.1 (8:Nat);first | omega | (simp only [lsA];omega) | (simp<;>omega)))),trivial⟩ fun a w h=>then_normal (wp_seq (wp_seq ?_))
   refine at_regq [] { ts:=[2,3,5,8,9,32,33,34],os:=[2,3] } [] gamOK hT h (by kernel_rfl) trivial fun a w h=>then_normal (wp_block ?_)
   replace h:=at_out (σ':=⟨[(2,aI x2),(3,aI x3),(5,aP 2 0),(8,aB false),(9,aS 3),(32,aF s58 x0.2),(33,aI ((List.length x0.2:Nat):Int)),(34,aI 0)],[(2,oX 31 [.ro (.int 3) x1]),(3,oR (.int 3) (List.replicate ((x0.1).toNat) (0:Int)))]⟩) { ts:=[2,3,5,8,9,32,33,34],os:=[2,3] } h (by kernel_rfl)
   refine at_loop (fun i:Nat=>(⟨[(2,aI x2),(3,aI x3),(5,aP 2 0),(8,aB false),(9,aS 3),(32,aF s58 x0.2),(33,aI ((List.length x0.2:Nat):Int)),(34,aI ((i:Nat):Int))],[(2,oX 31 [.ro (.int 3) x1]),(3,oR (.int 3) (balTo x0.2 x1 x0.1.toNat i))]⟩:St)) (fun i=>i≤(List.length x0.2)) (fun i=>(List.length x0.2) - i) (0) h (st_congr2 (fun (d0:List Int) (d1:Int)=>(⟨[(2,aI x2),(3,aI x3),(5,aP 2 0),(8,aB false),(9,aS 3),(32,aF s58 x0.2),(33,aI ((List.length x0.2:Nat):Int)),(34,aI d1)],[(2,oX 31 [.ro (.int 3) x1]),(3,oR (.int 3) d0)]⟩:St)) (show ((List.replicate ((x0.1).toNat) (0:Int)):List Int)=(balTo x0.2 x1 x0.1.toNat (0)) from by first | with_reducible rfl | (exact bal_zero _ _ _) | rfl) (show (0:Int)=(((0):Nat):Int) from by first | with_reducible rfl | (exact bal_zero _ _ _) | rfl)) (by exact Nat.zero_le _) ?_
   intro i a w hok0 h
   have hbl:=bal_len x0.2 x1 x0.1.toNat i
   refine wp_seq ?_
   refine at_regq [] { ts:=[2,3,5,8,9,32,33,34,35],os:=[2,3] } [] gamOK hT h (by kernel_rfl) trivial fun a w h=>then_normal (wp_seq ?_)
   refine at_test (decide (((i:Nat):Int) < ((List.length x0.2:Nat):Int))) h (by kernel_rfl) (fun h3=>?_) (fun h3=>?_)
   ·replace h3 : ((i : Nat) : Int) < ((List.length x0.2 : Nat) : Int) := of_decide_eq_true h3
    have hke:=hE.ed i (by omega)
    have hkf:(0:Int)≤(x0.2.getD i (0,(0,0))).1∧(x0.2.getD i (0,(0,0))).1 < x0.1:=hke.1
    have hkt:(0:Int)≤(x0.2.getD i (0,(0,0))).2.1∧(x0.2.getD i (0,(0,0))).2.1 < x0.1:=hke.2.1
    have hkn:¬ (x0.2.getD i (0,(0,0))).1=(x0.2.getD i (0,(0,0))).2.1:=hke.2.2.1
    have hci:(0:Int)≤x1.getD i 0∧x1.getD i 0≤(x0.2.getD i (0,(0,0))).2.2:=hC.2 i (by omega)
    have hcc:(x0.2.getD i (0,(0,0))).2.2≤8:=hke.2.2.2.2
    have hin:inR (x1.getD i 0) 0 (x0.2.getD i (0,(0,0))).2.2=true:=inR_true (by omega)
    have hb1:=ex_bd hE hC (x0.2.getD i (0,(0,0))).1 i (by omega)
    have hb2:=ex_bd hE hC (x0.2.getD i (0,(0,0))).2.1 i (by omega)
    have hb3:(balTo x0.2 x1 x0.1.toNat i).getD (x0.2.getD i (0,(0,0))).1.toNat 0=exTo x0.2 x1 (x0.2.getD i (0,(0,0))).1 i:=by rw [bal_at (by omega),Int.toNat_of_nonneg hkf.1]
    have hb4:(List.set (balTo x0.2 x1 x0.1.toNat i) (x0.2.getD i (0,(0,0))).1.toNat ((balTo x0.2 x1 x0.1.toNat i).getD (x0.2.getD i (0,(0,0))).1.toNat 0 - x1.getD i 0)).getD (x0.2.getD i (0,(0,0))).2.1.toNat 0=exTo x0.2 x1 (x0.2.getD i (0,(0,0))).2.1 i:=by rw [getD_set_if (by rw [bal_len];omega),if_neg (by omega),bal_at (by omega),Int.toNat_of_nonneg hkt.1]
    refine wp_skip (then_normal (wp_seq (wp_block (wp_seq ?_))))
    refine at_regq [{},{},{},{ ids:=[4] }] { ts:=[2,3,5,8,9,10,11,32,33,34],os:=[2,3,4] } [(0:Int)≤((i:Nat):Int)∧((i:Nat):Int) < ((List.length x0.2:Nat):Int)] gamOK hT h (by kernel_rfl) ⟨(by refine ⟨?_,?_⟩<;>(first | omega | (simp only [lsA];omega) | (simp<;>omega))),trivial⟩ fun a w h=>then_normal (wp_seq (wp_seq ?_))
    refine at_anyq [{},{},{},{},{},{},{},{},{}] { ts:=[2,3,5,8,9,10,11,32,33,34,47],os:=[2,3,4] } [(0:Int)≤((i:Nat):Int)∧((i:Nat):Int) < ((List.length x1:Nat):Int),True] gamOK hT mixed h (by kernel_rfl) ⟨(by refine ⟨?_,?_⟩<;>(first | omega | (simp only [lsA];omega) | (simp<;>omega))),trivial,trivial⟩ fun a w h=>then_normal ?_
    refine at_test (!(inR (x1.getD i 0) 0 (x0.2.getD i (0,(0,0))).2.2)) h (by kernel_rfl) (fun h4=>?_) (fun h4=>?_)
    ·replace h4 : (inR (x1.getD i 0) 0 (x0.2.getD i (0, (0, 0))).2.2) = false := notT h4
     have hvh4:=inR_f h4
     refine wp_seq ?_
     refine at_regq [] { ts:=[2,3,5,8,9,10,11,32,33,34],os:=[2,3,4] } [] gamOK hT h (by kernel_rfl) trivial fun a w h=>then_normal (wp_ret (then_ret (in_ret (then_ret (then_ret (in_ret (then_ret ?_)))))))
     exact at_return (false,()) [] h (by kernel_rfl) trivial (congrArg (fun z=>(z,())) (show (false)=D_impl_IsValidFlow x0 x1 x2 x3 from by unfold D_impl_IsValidFlow;first | (symm;assumption) | assumption | exact absurd (hin.symm.trans (by assumption)) (by decide) | (simp_all;done) | (exfalso;have h9:=bal_fin (v:=v) (by assumption) hpx (by omega) (by assumption) (by assumption);exact absurd h9 (by assumption))))
    ·replace h4 : (inR (x1.getD i 0) 0 (x0.2.getD i (0, (0, 0))).2.2) = true := notF h4
     have hvh4:=inR_t h4
     refine wp_skip (then_normal (wp_seq ?_))
     refine at_anyq [{},{},{},{},{},{},{},{},{},{},{ nw:=true },{},{}] { ts:=[2,3,5,8,9,10,11,32,33,34],os:=[2,3,4] } [(0:Int)≤(x0.2.getD i (0,(0,0))).1∧(x0.2.getD i (0,(0,0))).1 < ((List.length (balTo x0.2 x1 x0.1.toNat i):Nat):Int),((x0.2.getD i (0,(0,0))).1).toNat < List.length (balTo x0.2 x1 x0.1.toNat i),(0:Int)≤((i:Nat):Int)∧((i:Nat):Int) < ((List.length x1:Nat):Int),I64 (((balTo x0.2 x1 x0.1.toNat i).getD (((x0.2.getD i (0,(0,0))).1).toNat) 0) - (x1.getD i 0)),(0:Int)≤(x0.2.getD i (0,(0,0))).1∧(x0.2.getD i (0,(0,0))).1 < ((List.length (balTo x0.2 x1 x0.1.toNat i):Nat):Int),((x0.2.getD i (0,(0,0))).1).toNat < List.length (balTo x0.2 x1 x0.1.toNat i)] gamOK hT mixed h (by kernel_rfl) ⟨(by refine ⟨?_,?_⟩<;>(first | omega | (simp only [lsA];omega) | (simp<;>omega))),(by first | omega | (simp only [lsA];omega) | (simp<;>omega)),(by refine ⟨?_,?_⟩<;>(first | omega | (simp only [lsA];omega) | (simp<;>omega))),⟨by first | omega | (simp only [lsA];omega) | (simp<;>omega),by first | omega | (simp only [lsA];omega) | (simp<;>omega)⟩,(by refine ⟨?_,?_⟩<;>(first | omega | (simp only [lsA];omega) | (simp<;>omega))),(by first | omega | (simp only [lsA];omega) | (simp<;>omega)),trivial⟩ fun a w h=>then_normal ?_
     refine at_anyq [{},{},{},{},{},{},{},{},{},{},{ nw:=true },{},{}] { ts:=[2,3,5,8,9,32,33,34],os:=[2,3] } [(0:Int)≤(x0.2.getD i (0,(0,0))).2.1∧(x0.2.getD i (0,(0,0))).2.1 < ((List.length (List.set (balTo x0.2 x1 x0.1.toNat i) (((x0.2.getD i (0,(0,0))).1).toNat) (((balTo x0.2 x1 x0.1.toNat i).getD (((x0.2.getD i (0,(0,0))).1).toNat) 0) - (x1.getD i 0))):Nat):Int),((x0.2.getD i (0,(0,0))).2.1).toNat < List.length (List.set (balTo x0.2 x1 x0.1.toNat i) (((x0.2.getD i (0,(0,0))).1).toNat) (((balTo x0.2 x1 x0.1.toNat i).getD (((x0.2.getD i (0,(0,0))).1).toNat) 0) - (x1.getD i 0))),(0:Int)≤((i:Nat):Int)∧((i:Nat):Int) < ((List.length x1:Nat):Int),I64 (((List.set (balTo x0.2 x1 x0.1.toNat i) (((x0.2.getD i (0,(0,0))).1).toNat) (((balTo x0.2 x1 x0.1.toNat i).getD (((x0.2.getD i (0,(0,0))).1).toNat) 0) - (x1.getD i 0))).getD (((x0.2.getD i (0,(0,0))).2.1).toNat) 0)+(x1.getD i 0)),(0:Int)≤(x0.2.getD i (0,(0,0))).2.1∧(x0.2.getD i (0,(0,0))).2.1 < ((List.length (List.set (balTo x0.2 x1 x0.1.toNat i) (((x0.2.getD i (0,(0,0))).1).toNat) (((balTo x0.2 x1 x0.1.toNat i).getD (((x0.2.getD i (0,(0,0))).1).toNat) 0) - (x1.getD i 0))):Nat):Int),((x0.2.getD i (0,(0,0))).2.1).toNat < List.length (List.set (balTo x0.2 x1 x0.1.toNat i) (((x0.2.getD i (0,(0,0))).1).toNat) (((balTo x0.2 x1 x0.1.toNat i).getD (((x0.2.getD i (0,(0,0))).1).toNat) 0) - (x1.getD i 0)))] gamOK hT mixed h (by kernel_rfl) ⟨(by refine ⟨?_,?_⟩<;>(first | omega | (simp only [lsA];omega) | (simp<;>omega))),(by first | omega | (simp only [lsA];omega) | (simp<;>omega)),(by refine ⟨?_,?_⟩<;>(first | omega | (simp only [lsA];omega) | (simp<;>omega))),⟨by first | omega | (simp only [lsA];omega) | (simp<;>omega),by first | omega | (simp only [lsA];omega) | (simp<;>omega)⟩,(by refine ⟨?_,?_⟩<;>(first | omega | (simp only [lsA];omega) | (simp<;>omega))),(by first | omega | (simp only [lsA];omega) | (simp<;>omega)),trivial⟩ fun a w h=>in_normal (then_normal ?_)
     refine at_regq [{ nw:=true }] { ts:=[2,3,5,8,9,32,33,34],os:=[2,3] } [I64 (((i:Nat):Int)+1)] gamOK hT h (by kernel_rfl) ⟨⟨by first | omega | (simp only [lsA];omega) | (simp<;>omega),by first | omega | (simp only [lsA];omega) | (simp<;>omega)⟩,trivial⟩ fun a w h=>?_
     replace h:=at_out (σ':=⟨[(2,aI x2),(3,aI x3),(5,aP 2 0),(8,aB false),(9,aS 3),(32,aF s58 x0.2),(33,aI ((List.length x0.2:Nat):Int)),(34,aI (((i:Nat):Int)+1))],[(2,oX 31 [.ro (.int 3) x1]),(3,oR (.int 3) (List.set (List.set (balTo x0.2 x1 x0.1.toNat i) (((x0.2.getD i (0,(0,0))).1).toNat) (((balTo x0.2 x1 x0.1.toNat i).getD (((x0.2.getD i (0,(0,0))).1).toNat) 0) - (x1.getD i 0))) (((x0.2.getD i (0,(0,0))).2.1).toNat) (((List.set (balTo x0.2 x1 x0.1.toNat i) (((x0.2.getD i (0,(0,0))).1).toNat) (((balTo x0.2 x1 x0.1.toNat i).getD (((x0.2.getD i (0,(0,0))).1).toNat) 0) - (x1.getD i 0))).getD (((x0.2.getD i (0,(0,0))).2.1).toNat) 0)+(x1.getD i 0))))]⟩) { ts:=[2,3,5,8,9,32,33,34],os:=[2,3] } h (by kernel_rfl)
     exact ⟨i+1,at_eq h (st_congr2 (fun (d0:List Int) (d1:Int)=>(⟨[(2,aI x2),(3,aI x3),(5,aP 2 0),(8,aB false),(9,aS 3),(32,aF s58 x0.2),(33,aI ((List.length x0.2:Nat):Int)),(34,aI d1)],[(2,oX 31 [.ro (.int 3) x1]),(3,oR (.int 3) d0)]⟩:St)) (show ((List.set (List.set (balTo x0.2 x1 x0.1.toNat i) (((x0.2.getD i (0,(0,0))).1).toNat) (((balTo x0.2 x1 x0.1.toNat i).getD (((x0.2.getD i (0,(0,0))).1).toNat) 0) - (x1.getD i 0))) (((x0.2.getD i (0,(0,0))).2.1).toNat) (((List.set (balTo x0.2 x1 x0.1.toNat i) (((x0.2.getD i (0,(0,0))).1).toNat) (((balTo x0.2 x1 x0.1.toNat i).getD (((x0.2.getD i (0,(0,0))).1).toNat) 0) - (x1.getD i 0))).getD (((x0.2.getD i (0,(0,0))).2.1).toNat) 0)+(x1.getD i 0))):List Int)=(balTo x0.2 x1 x0.1.toNat (i+1)) from by first | with_reducible rfl | (exact bal_set hE (by omega)) | rfl) (show (((i:Nat):Int)+1:Int)=(((i+1):Nat):Int) from by first | with_reducible rfl | (omega) | rfl)),(by omega),(by omega)⟩
   ·replace h3 : ¬ (((i : Nat) : Int) < ((List.length x0.2 : Nat) : Int)) := of_decide_eq_false h3
    refine wp_exit (then_exit ?_)
    replace h:=at_out (σ':=⟨[(2,aI x2),(3,aI x3),(8,aB false),(9,aS 3)],[(3,oR (.int 3) (balTo x0.2 x1 x0.1.toNat i))]⟩) { ts:=[2,3,8,9],os:=[3] } h (by kernel_rfl)
    replace h:=at_eq (σ':=⟨[(2,aI x2),(3,aI x3),(8,aB false),(9,aS 3)],[(3,oR (.int 3) (balTo x0.2 x1 x0.1.toNat (List.length x0.2)))]⟩) h (st_congr1 (fun (d0:List Int)=>(⟨[(2,aI x2),(3,aI x3),(8,aB false),(9,aS 3)],[(3,oR (.int 3) d0)]⟩:St)) (show ((balTo x0.2 x1 x0.1.toNat i):List Int)=(balTo x0.2 x1 x0.1.toNat (List.length x0.2)) from by first | with_reducible rfl | (rw [show (List.length x0.2)=i by omega]) | rfl))
    refine then_exit (in_hit (then_normal (wp_seq (wp_seq ?_))))
    refine at_regq [] { ts:=[2,3,8,73,74,75],os:=[3] } [] gamOK hT h (by kernel_rfl) trivial fun a w h=>then_normal (wp_block ?_)
    replace h:=at_out (σ':=⟨[(2,aI x2),(3,aI x3),(8,aB false),(73,aS 3),(74,aI ((List.length (balTo x0.2 x1 x0.1.toNat (List.length x0.2)):Nat):Int)),(75,aI 0)],[(3,oR (.int 3) (balTo x0.2 x1 x0.1.toNat (List.length x0.2)))]⟩) { ts:=[2,3,8,73,74,75],os:=[3] } h (by kernel_rfl)
    refine at_loop (fun v:Nat=>(⟨[(2,aI x2),(3,aI x3),(8,aB false),(73,aS 3),(74,aI ((List.length (balTo x0.2 x1 x0.1.toNat (List.length x0.2)):Nat):Int)),(75,aI ((v:Nat):Int))],[(3,oR (.int 3) (balTo x0.2 x1 x0.1.toNat (List.length x0.2)))]⟩:St)) (fun v=>v≤x0.1.toNat) (fun v=>x0.1.toNat - v) (0) h (st_congr1 (fun (d0:Int)=>(⟨[(2,aI x2),(3,aI x3),(8,aB false),(73,aS 3),(74,aI ((List.length (balTo x0.2 x1 x0.1.toNat (List.length x0.2)):Nat):Int)),(75,aI d0)],[(3,oR (.int 3) (balTo x0.2 x1 x0.1.toNat (List.length x0.2)))]⟩:St)) (show (0:Int)=(((0):Nat):Int) from by first | with_reducible rfl | (rfl) | rfl)) (by exact Nat.zero_le _) ?_
    intro v a w hok1 h
    have hbl:=bal_len x0.2 x1 x0.1.toNat (List.length x0.2)
    refine wp_seq ?_
    refine at_regq [] { ts:=[2,3,8,73,74,75,76],os:=[3] } [] gamOK hT h (by kernel_rfl) trivial fun a w h=>then_normal (wp_seq ?_)
    refine at_test (decide (((v:Nat):Int) < ((List.length (balTo x0.2 x1 x0.1.toNat (List.length x0.2)):Nat):Int))) h (by kernel_rfl) (fun h5=>?_) (fun h5=>?_)
    ·replace h5 : ((v : Nat) : Int) < ((List.length (balTo x0.2 x1 x0.1.toNat (List.length x0.2)) : Nat) : Int) := of_decide_eq_true h5
     refine wp_skip (then_normal (wp_seq (wp_block (wp_seq ?_))))
     refine at_regq [] { ts:=[2,3,8,12,13,73,74,75],os:=[3] } [(0:Int)≤((v:Nat):Int)∧((v:Nat):Int) < ((List.length (balTo x0.2 x1 x0.1.toNat (List.length x0.2)):Nat):Int),v < List.length (balTo x0.2 x1 x0.1.toNat (List.length x0.2))] gamOK hT h (by kernel_rfl) ⟨(by refine ⟨?_,?_⟩<;>(first | omega | (simp only [lsA];omega) | (simp<;>omega))),(by first | omega | (simp only [lsA];omega) | (simp<;>omega)),trivial⟩ fun a w h=>then_normal (wp_seq ?_)
     by_cases h6:((v:Nat):Int)=x2
     ·refine at_regq [{}, {}, { hint := some (aB false) }] { ts := [2, 3, 8, 73, 74, 75, 84, 85, 86, 89, 90, 91], os := [3] } [(AV.p (.c (.v (.bool (!decide (((v : Nat) : Int) = x2))))) = AV.p (.c (.v (.bool false))))] gamOK hT h (by kernel_rfl) ⟨hint_bool (ndT h6), trivial⟩ fun a w h => then_normal ?_
      refine at_test false h (by kernel_rfl) (fun hh=>nomatch hh) (fun hh=>?_)
      refine wp_skip (in_normal (then_normal ?_))
      refine at_regq [{ nw:=true }] { ts:=[2,3,8,73,74,75,84,85,86,89,90],os:=[3] } [I64 (((v:Nat):Int)+1)] gamOK hT h (by kernel_rfl) ⟨⟨by first | omega | (simp only [lsA];omega) | (simp<;>omega),by first | omega | (simp only [lsA];omega) | (simp<;>omega)⟩,trivial⟩ fun a w h=>?_
      replace h:=at_out (σ':=⟨[(2,aI x2),(3,aI x3),(8,aB false),(73,aS 3),(74,aI ((List.length (balTo x0.2 x1 x0.1.toNat (List.length x0.2)):Nat):Int)),(75,aI (((v:Nat):Int)+1))],[(3,oR (.int 3) (balTo x0.2 x1 x0.1.toNat (List.length x0.2)))]⟩) { ts:=[2,3,8,73,74,75],os:=[3] } h (by kernel_rfl)
      exact ⟨v+1,at_eq h (st_congr1 (fun (d0:Int)=>(⟨[(2,aI x2),(3,aI x3),(8,aB false),(73,aS 3),(74,aI ((List.length (balTo x0.2 x1 x0.1.toNat (List.length x0.2)):Nat):Int)),(75,aI d0)],[(3,oR (.int 3) (balTo x0.2 x1 x0.1.toNat (List.length x0.2)))]⟩:St)) (show (((v:Nat):Int)+1:Int)=(((v+1):Nat):Int) from by first | with_reducible rfl | (omega) | rfl)),(by omega),(by omega)⟩
     ·by_cases h7 : ((v : Nat) : Int) = x3
      ·refine at_regq [{}, {}, { hint := some (aB true) }, {}, {}, {}, { hint := some (aB false) }] { ts := [2, 3, 8, 73, 74, 75, 84, 85, 86, 89, 90, 91], os := [3] } [(AV.p (.c (.v (.bool (!decide (((v : Nat) : Int) = x2))))) = AV.p (.c (.v (.bool true)))), (AV.p (.c (.v (.bool (!decide (((v : Nat) : Int) = x3))))) = AV.p (.c (.v (.bool false))))] gamOK hT h (by kernel_rfl) ⟨hint_bool (ndF h6), hint_bool (ndT h7), trivial⟩ fun a w h => then_normal ?_
       refine at_test false h (by kernel_rfl) (fun hh=>nomatch hh) (fun hh=>?_)
       refine wp_skip (in_normal (then_normal ?_))
       refine at_regq [{ nw:=true }] { ts:=[2,3,8,73,74,75,84,85,86,89,90],os:=[3] } [I64 (((v:Nat):Int)+1)] gamOK hT h (by kernel_rfl) ⟨⟨by first | omega | (simp only [lsA];omega) | (simp<;>omega),by first | omega | (simp only [lsA];omega) | (simp<;>omega)⟩,trivial⟩ fun a w h=>?_
       replace h:=at_out (σ':=⟨[(2,aI x2),(3,aI x3),(8,aB false),(73,aS 3),(74,aI ((List.length (balTo x0.2 x1 x0.1.toNat (List.length x0.2)):Nat):Int)),(75,aI (((v:Nat):Int)+1))],[(3,oR (.int 3) (balTo x0.2 x1 x0.1.toNat (List.length x0.2)))]⟩) { ts:=[2,3,8,73,74,75],os:=[3] } h (by kernel_rfl)
       exact ⟨v+1,at_eq h (st_congr1 (fun (d0:Int)=>(⟨[(2,aI x2),(3,aI x3),(8,aB false),(73,aS 3),(74,aI ((List.length (balTo x0.2 x1 x0.1.toNat (List.length x0.2)):Nat):Int)),(75,aI d0)],[(3,oR (.int 3) (balTo x0.2 x1 x0.1.toNat (List.length x0.2)))]⟩:St)) (show (((v:Nat):Int)+1:Int)=(((v+1):Nat):Int) from by first | with_reducible rfl | (omega) | rfl)),(by omega),(by omega)⟩
      ·refine at_regq [{}, {}, { hint := some (aB true) }, {}, {}, {}, { hint := some (aB true) }] { ts := [2, 3, 8, 73, 74, 75, 84, 85, 86, 89, 90, 91], os := [3] } [(AV.p (.c (.v (.bool (!decide (((v : Nat) : Int) = x2))))) = AV.p (.c (.v (.bool true)))), (AV.p (.c (.v (.bool (!decide (((v : Nat) : Int) = x3))))) = AV.p (.c (.v (.bool true))))] gamOK hT h (by kernel_rfl) ⟨hint_bool (ndF h6), hint_bool (ndF h7), trivial⟩ fun a w h => then_normal ?_
       refine at_test (!decide (((balTo x0.2 x1 x0.1.toNat (List.length x0.2)).getD v 0)=0)) h (by kernel_rfl) (fun h8=>?_) (fun h8=>?_)
       ·replace h8 : ¬ (((balTo x0.2 x1 x0.1.toNat (List.length x0.2)).getD v 0) = 0) := of_decide_eq_false (notT h8)
        refine wp_seq ?_
        refine at_regq [] { ts:=[2,3,8,73,74,75,84,85,86,89,90],os:=[3] } [] gamOK hT h (by kernel_rfl) trivial fun a w h=>then_normal (wp_ret (in_ret (then_ret (then_ret (in_ret (then_ret ?_))))))
        exact at_return (false,()) [] h (by kernel_rfl) trivial (congrArg (fun z=>(z,())) (show (false)=D_impl_IsValidFlow x0 x1 x2 x3 from by unfold D_impl_IsValidFlow;first | (symm;assumption) | assumption | exact absurd (hin.symm.trans (by assumption)) (by decide) | (simp_all;done) | (exfalso;have h9:=bal_fin (v:=v) (by assumption) hpx (by omega) (by assumption) (by assumption);exact absurd h9 (by assumption))))
       ·replace h8 : ((balTo x0.2 x1 x0.1.toNat (List.length x0.2)).getD v 0) = 0 := of_decide_eq_true (notF h8)
        refine wp_skip (in_normal (then_normal ?_))
        refine at_regq [{ nw:=true }] { ts:=[2,3,8,73,74,75,84,85,86,89,90],os:=[3] } [I64 (((v:Nat):Int)+1)] gamOK hT h (by kernel_rfl) ⟨⟨by first | omega | (simp only [lsA];omega) | (simp<;>omega),by first | omega | (simp only [lsA];omega) | (simp<;>omega)⟩,trivial⟩ fun a w h=>?_
        replace h:=at_out (σ':=⟨[(2,aI x2),(3,aI x3),(8,aB false),(73,aS 3),(74,aI ((List.length (balTo x0.2 x1 x0.1.toNat (List.length x0.2)):Nat):Int)),(75,aI (((v:Nat):Int)+1))],[(3,oR (.int 3) (balTo x0.2 x1 x0.1.toNat (List.length x0.2)))]⟩) { ts:=[2,3,8,73,74,75],os:=[3] } h (by kernel_rfl)
        exact ⟨v+1,at_eq h (st_congr1 (fun (d0:Int)=>(⟨[(2,aI x2),(3,aI x3),(8,aB false),(73,aS 3),(74,aI ((List.length (balTo x0.2 x1 x0.1.toNat (List.length x0.2)):Nat):Int)),(75,aI d0)],[(3,oR (.int 3) (balTo x0.2 x1 x0.1.toNat (List.length x0.2)))]⟩:St)) (show (((v:Nat):Int)+1:Int)=(((v+1):Nat):Int) from by first | with_reducible rfl | (omega) | rfl)),(by omega),(by omega)⟩
    ·replace h5 : ¬ (((v : Nat) : Int) < ((List.length (balTo x0.2 x1 x0.1.toNat (List.length x0.2)) : Nat) : Int)) := of_decide_eq_false h5
     refine wp_exit (then_exit (then_exit (in_hit (then_normal (wp_seq ?_)))))
     refine at_regq [] { ts:=[8],os:=[] } [] gamOK hT h (by kernel_rfl) trivial fun a w h=>then_normal (wp_ret ?_)
     exact at_return (true,()) [] h (by kernel_rfl) trivial (congrArg (fun z=>(z,())) (show (true)=D_impl_IsValidFlow x0 x1 x2 x3 from by unfold D_impl_IsValidFlow;first | (symm;assumption) | assumption | exact absurd (hin.symm.trans (by assumption)) (by decide) | (simp_all;done) | (exfalso;have h9:=bal_fin (v:=v) (by assumption) hpx (by omega) (by assumption) (by assumption);exact absurd h9 (by assumption))))

def D_impl_pathEdges:=(fun (g:T26) (P:List Int)=>pEd g P (List.length P - 1))
abbrev Q_impl_pathEdges:=(fun (x0:T26) (x1:(List Int))=>Sh.fit s26 x0∧Sh.fit s37 x1)
def S_impl_pathEdges:Sum:={ fid:=23,dom:=[s26,s37],cod:=[s29],dp:=true,fz:=false,pre:=fun x=>Q_impl_pathEdges x.1 x.2.1,g:=fun x=>((D_impl_pathEdges x.1 x.2.1),()) }
def S_impl_pathEdges_tab:List (Nat×Sum):=[(37,S_impl_EdgeBetween)]
theorem S_impl_pathEdges_ok:FnOK Try.prog 23 S_impl_pathEdges:=by
 refine at_enter 31 (fun x=>⟨[(0,aG [cI x.1.1,.ro s58 x.1.2]),(1,aG [.ro (.int 3) x.2.1])],[]⟩) Try.func23 rfl (by kernel_rfl) (fun x=>rfl) ?_
 rintro w0 Z0 ⟨x0,x1,u⟩ a w
 revert x0 x1
 intro (x0:T26) (x1:(List Int)) hpre hlens h
 replace hpre:Q_impl_pathEdges x0 x1:=hpre
 have hT:TabOK Try.prog w0 [] S_impl_pathEdges_tab:=(.cons S_impl_EdgeBetween_ok .nil)
 obtain ⟨hf0,hf1⟩:=hpre
 have hn0_1:List.length x0.2≤1073741824:=hf0.2.1
 have hn1_2:List.length x1≤1073741824:=hf1.1
 refine wp_seq ?_
 refine at_regq [{ ids:=[1] },{ ids:=[2] }] { ts:=[2,3,4],os:=[1,2] } [] gamOK hT h (by kernel_rfl) trivial fun a w h=>then_normal (wp_seq ?_)
 refine at_regq [] { ts:=[2,3,4,5],os:=[1,2] } [] gamOK hT h (by kernel_rfl) trivial fun a w h=>then_normal (wp_seq (wp_seq ?_))
 refine at_regq [] { ts:=[2,3,4,5,6],os:=[1,2] } [] gamOK hT h (by kernel_rfl) trivial fun a w h=>then_normal (wp_block ?_)
 replace h:=at_out (σ':=⟨[(2,aP 1 0),(3,aP 2 0),(4,.p (.c (cN))),(5,aS 3),(6,aI 1)],[(1,oX 26 [cI x0.1,.ro s58 x0.2]),(2,oX 37 [.ro (.int 3) x1]),(3,oR (.int 3) ([]:List Int))]⟩) { mt:=[⟨none,5,3,true,(.int 3)⟩],ts:=[2,3,4,5,6],os:=[1,2,3] } h (by kernel_rfl)
 refine at_loop (fun i:Nat=>(⟨[(2,aP 1 0),(3,aP 2 0),(4,.p (.c (cN))),(5,aS 3),(6,aI (((i:Nat):Int)+1))],[(1,oX 26 [cI x0.1,.ro s58 x0.2]),(2,oX 37 [.ro (.int 3) x1]),(3,oR (.int 3) (pEd x0 x1 i))]⟩:St)) (fun i=>i≤List.length x1 - 1) (fun i=>List.length x1 - i) (0) h (st_congr2 (fun (d0:List Int) (d1:Int)=>(⟨[(2,aP 1 0),(3,aP 2 0),(4,.p (.c (cN))),(5,aS 3),(6,aI d1)],[(1,oX 26 [cI x0.1,.ro s58 x0.2]),(2,oX 37 [.ro (.int 3) x1]),(3,oR (.int 3) d0)]⟩:St)) (show (([]:List Int):List Int)=(pEd x0 x1 (0)) from by first | with_reducible rfl | (first | rfl | omega) | rfl) (show (1:Int)=((((0):Nat):Int)+1) from by first | with_reducible rfl | (first | rfl | omega) | rfl)) (by exact Nat.zero_le _) ?_
 intro i a w hok0 h
 have hpl:=pEd_len x0 x1 i
 refine wp_seq (wp_seq ?_)
 refine at_regq [] { ts:=[2,3,4,5,6,11],os:=[1,2,3] } [] gamOK hT h (by kernel_rfl) trivial fun a w h=>then_normal ?_
 refine at_test (decide ((((i:Nat):Int)+1) < ((List.length x1:Nat):Int))) h (by kernel_rfl) (fun h1=>?_) (fun h1=>?_)
 ·replace h1 : (((i : Nat) : Int) + 1) < ((List.length x1 : Nat) : Int) := of_decide_eq_true h1
  refine wp_skip (then_normal (wp_seq (wp_block ?_)))
  refine at_anyq [{},{},{},{},{},{ nw:=true },{},{},{},{},{},{},{},{},{ ids:=[4] },{ ids:=[5] },{}] { ts:=[2,3,4,5,6],os:=[1,2,5] } [I64 ((((i:Nat):Int)+1) - 1),(0:Int)≤(((i:Nat):Int)+1) - 1∧(((i:Nat):Int)+1) - 1 < ((List.length x1:Nat):Int),(0:Int)≤(((i:Nat):Int)+1)∧(((i:Nat):Int)+1) < ((List.length x1:Nat):Int),Q_impl_EdgeBetween x0 (x1.getD (((((i:Nat):Int)+1) - 1).toNat) 0) (x1.getD (((((i:Nat):Int)+1)).toNat) 0),(List.length (pEd x0 x1 i)+List.length ([(ebF x0.2 (x1.getD (((((i:Nat):Int)+1) - 1).toNat) 0) (x1.getD (((((i:Nat):Int)+1)).toNat) 0))]))*8≤140737488355328] gamOK hT mixed h (by kernel_rfl) ⟨⟨by first | omega | (simp only [lsA];omega) | (simp<;>omega),by first | omega | (simp only [lsA];omega) | (simp<;>omega)⟩,(by refine ⟨?_,?_⟩<;>(first | omega | (simp only [lsA];omega) | (simp<;>omega))),(by refine ⟨?_,?_⟩<;>(first | omega | (simp only [lsA];omega) | (simp<;>omega))),(by exact hf0),(by first | omega | (simp only [lsA];omega) | (simp<;>omega)),trivial⟩ fun a w h=>in_normal (then_normal ?_)
  refine at_regq [{},{ nw:=true }] { ts:=[2,3,4,5,6],os:=[1,2,5] } [I64 ((((i:Nat):Int)+1)+1)] gamOK hT h (by kernel_rfl) ⟨⟨by first | omega | (simp only [lsA];omega) | (simp<;>omega),by first | omega | (simp only [lsA];omega) | (simp<;>omega)⟩,trivial⟩ fun a w h=>?_
  replace h:=at_out (σ':=⟨[(2,aP 1 0),(3,aP 2 0),(4,.p (.c (cN))),(5,aS 3),(6,aI ((((i:Nat):Int)+1)+1))],[(1,oX 26 [cI x0.1,.ro s58 x0.2]),(2,oX 37 [.ro (.int 3) x1]),(3,oR (.int 3) ((pEd x0 x1 i)++([(ebF x0.2 (x1.getD (((((i:Nat):Int)+1) - 1).toNat) 0) (x1.getD (((((i:Nat):Int)+1)).toNat) 0))])))]⟩) { ts:=[2,3,4,5,6],os:=[1,2,5],rn:=[(5,3)] } h (by kernel_rfl)
  exact ⟨i+1,at_eq h (st_congr2 (fun (d0:List Int) (d1:Int)=>(⟨[(2,aP 1 0),(3,aP 2 0),(4,.p (.c (cN))),(5,aS 3),(6,aI d1)],[(1,oX 26 [cI x0.1,.ro s58 x0.2]),(2,oX 37 [.ro (.int 3) x1]),(3,oR (.int 3) d0)]⟩:St)) (show (((pEd x0 x1 i)++([(ebF x0.2 (x1.getD (((((i:Nat):Int)+1) - 1).toNat) 0) (x1.getD (((((i:Nat):Int)+1)).toNat) 0))])):List Int)=(pEd x0 x1 (i+1)) from by first | with_reducible rfl | ((rw [pEd_snoc,show (((i:Nat):Int)+1 - 1).toNat=i by omega,show (((i:Nat):Int)+1).toNat=i+1 by omega];done)) | rfl) (show ((((i:Nat):Int)+1)+1:Int)=((((i+1):Nat):Int)+1) from by first | with_reducible rfl | (omega) | rfl)),(by omega),(by omega)⟩
 ·replace h1 : ¬ ((((i : Nat) : Int) + 1) < ((List.length x1 : Nat) : Int)) := of_decide_eq_false h1
  refine wp_exit (then_exit ?_)
  replace h:=at_out (σ':=⟨[(4,.p (.c (cN))),(5,aS 3)],[(3,oR (.int 3) (pEd x0 x1 i))]⟩) { ts:=[4,5],os:=[3] } h (by kernel_rfl)
  replace h:=at_eq (σ':=⟨[(4,.p (.c (cN))),(5,aS 3)],[(3,oR (.int 3) (pEd x0 x1 (List.length x1 - 1)))]⟩) h (st_congr1 (fun (d0:List Int)=>(⟨[(4,.p (.c (cN))),(5,aS 3)],[(3,oR (.int 3) d0)]⟩:St)) (show ((pEd x0 x1 i):List Int)=(pEd x0 x1 (List.length x1 - 1)) from by first | with_reducible rfl | (rw [show List.length x1 - 1=i by omega]) | rfl))
  refine then_exit (in_hit (then_normal (wp_seq ?_)))
  refine at_regq [] { ts:=[4],os:=[3] } [] gamOK hT h (by kernel_rfl) trivial fun a w h=>then_normal (wp_ret ?_)
  exact at_return ((pEd x0 x1 (List.length x1 - 1)),()) [] h (by kernel_rfl) trivial (congrArg (fun z=>(z,())) (show ((pEd x0 x1 (List.length x1 - 1)))=D_impl_pathEdges x0 x1 from by unfold D_impl_pathEdges;rfl))

abbrev Q_slices_Reverse_S_int_int_:=(fun (x0:(List Int))=>Sh.fit s29 x0)
def S_slices_Reverse_S_int_int_:Sum:={ fid:=36,dom:=[s29],cod:=[],dp:=true,fz:=false,pre:=fun x=>Q_slices_Reverse_S_int_int_ x.1,g:=fun x=>(),kinds:=[.io],upd:=fun x=>(List.reverse x.1,()) }
def S_slices_Reverse_S_int_int__tab:List (Nat×Sum):=[]
theorem S_slices_Reverse_S_int_int__ok:FnOK Try.prog 36 S_slices_Reverse_S_int_int_:=by
 refine at_enterI 28 [1] [2] (fun us x=>⟨[(0,aS 1)],[(1,oR (.int 3) x.1),(2,oP 1 (S_slices_Reverse_S_int_int_.hd us 0))]⟩) Try.func36 rfl (by kernel_rfl) (fun us x=>rfl) ?_
 rintro w0 Z0 us ⟨x0,u⟩ L a w
 revert x0
 intro (x0:(List Int)) hio hpre hlens h
 replace h:At w0 Z0 L 28 ⟨[(0,aS 1)],[(1,oR (.int 3) x0),(2,oP 1 (S_slices_Reverse_S_int_int_.hd us 0))]⟩ a w:=h
 replace hpre:Q_slices_Reverse_S_int_int_ x0:=hpre
 have hT:TabOK Try.prog w0 L S_slices_Reverse_S_int_int__tab:=.nil
 have hf0:Sh.fit s29 x0:=hpre
 have hn0_1:List.length x0≤1073741824:=hf0.1
 refine wp_seq ?_
 refine at_regq [{},{},{ nw:=true }] { ts:=[0,2,3],os:=[1,2] } [I64 (((List.length x0:Nat):Int) - 1)] gamOK hT h (by kernel_rfl) ⟨⟨by first | omega | (simp only [lsA];omega) | (simp<;>omega),by first | omega | (simp only [lsA];omega) | (simp<;>omega)⟩,trivial⟩ fun a w h=>then_normal (wp_block ?_)
 replace h:=at_out (σ':=⟨[(0,aS 1),(2,aI 0),(3,aI (((List.length x0:Nat):Int) - 1))],[(1,oR (.int 3) x0),(2,oP 1 (S_slices_Reverse_S_int_int_.hd us 0))]⟩) { ts:=[0,2,3],os:=[1,2] } h (by kernel_rfl)
 refine at_loop (fun i:Nat=>(⟨[(0,aS 1),(2,aI ((i:Nat):Int)),(3,aI (((List.length x0:Nat):Int) - 1 - ((i:Nat):Int)))],[(1,oR (.int 3) (rvTo x0 i)),(2,oP 1 (S_slices_Reverse_S_int_int_.hd us 0))]⟩:St)) (fun i=>2*i≤List.length x0+1) (fun i=>List.length x0 - i) (0) h (st_congr3 (fun (d0:List Int) (d1:Int) (d2:Int)=>(⟨[(0,aS 1),(2,aI d1),(3,aI d2)],[(1,oR (.int 3) d0),(2,oP 1 (S_slices_Reverse_S_int_int_.hd us 0))]⟩:St)) (show (x0:List Int)=(rvTo x0 (0)) from by first | with_reducible rfl | (first | exact (rv_zero _).symm | omega) | rfl) (show (0:Int)=(((0):Nat):Int) from by first | with_reducible rfl | (first | exact (rv_zero _).symm | omega) | rfl) (show (((List.length x0:Nat):Int) - 1:Int)=(((List.length x0:Nat):Int) - 1 - (((0):Nat):Int)) from by first | with_reducible rfl | (first | exact (rv_zero _).symm | omega) | rfl)) (by omega) ?_
 intro i a w hok0 h
 have hrl:=rv_len x0 i
 refine wp_seq (wp_seq ?_)
 refine at_regq [] { ts:=[0,2,3,9],os:=[1,2] } [] gamOK hT h (by kernel_rfl) trivial fun a w h=>then_normal ?_
 refine at_test (decide (((i:Nat):Int) < (((List.length x0:Nat):Int) - 1 - ((i:Nat):Int)))) h (by kernel_rfl) (fun h1=>?_) (fun h1=>?_)
 ·replace h1 : ((i : Nat) : Int) < (((List.length x0 : Nat) : Int) - 1 - ((i : Nat) : Int)) := of_decide_eq_true h1
  refine wp_skip (then_normal (wp_seq (wp_block ?_)))
  refine at_anyq [{},{},{},{},{},{},{},{},{},{},{},{},{},{},{},{}] { ts:=[0,2,3],os:=[1,2] } [(0:Int)≤(((List.length x0:Nat):Int) - 1 - ((i:Nat):Int))∧(((List.length x0:Nat):Int) - 1 - ((i:Nat):Int)) < ((List.length (rvTo x0 i):Nat):Int),((((List.length x0:Nat):Int) - 1 - ((i:Nat):Int))).toNat < List.length (rvTo x0 i),(0:Int)≤((i:Nat):Int)∧((i:Nat):Int) < ((List.length (rvTo x0 i):Nat):Int),i < List.length (rvTo x0 i),(0:Int)≤((i:Nat):Int)∧((i:Nat):Int) < ((List.length (rvTo x0 i):Nat):Int),i < List.length (rvTo x0 i),(0:Int)≤(((List.length x0:Nat):Int) - 1 - ((i:Nat):Int))∧(((List.length x0:Nat):Int) - 1 - ((i:Nat):Int)) < ((List.length (List.set (rvTo x0 i) i ((rvTo x0 i).getD (((((List.length x0:Nat):Int) - 1 - ((i:Nat):Int))).toNat) 0)):Nat):Int),((((List.length x0:Nat):Int) - 1 - ((i:Nat):Int))).toNat < List.length (List.set (rvTo x0 i) i ((rvTo x0 i).getD (((((List.length x0:Nat):Int) - 1 - ((i:Nat):Int))).toNat) 0))] gamOK hT mixed h (by kernel_rfl) ⟨(by refine ⟨?_,?_⟩<;>(first | omega | (simp only [lsA];omega) | (simp<;>omega))),(by first | omega | (simp only [lsA];omega) | (simp<;>omega)),(by refine ⟨?_,?_⟩<;>(first | omega | (simp only [lsA];omega) | (simp<;>omega))),(by first | omega | (simp only [lsA];omega) | (simp<;>omega)),(by refine ⟨?_,?_⟩<;>(first | omega | (simp only [lsA];omega) | (simp<;>omega))),(by first | omega | (simp only [lsA];omega) | (simp<;>omega)),(by refine ⟨?_,?_⟩<;>(first | omega | (simp only [lsA];omega) | (simp<;>omega))),(by first | omega | (simp only [lsA];omega) | (simp<;>omega)),trivial⟩ fun a w h=>in_normal (then_normal ?_)
  refine at_regq [{},{ nw:=true },{},{ nw:=true }] { ts:=[0,2,3],os:=[1,2] } [I64 (((i:Nat):Int)+1),I64 ((((List.length x0:Nat):Int) - 1 - ((i:Nat):Int)) - 1)] gamOK hT h (by kernel_rfl) ⟨⟨by first | omega | (simp only [lsA];omega) | (simp<;>omega),by first | omega | (simp only [lsA];omega) | (simp<;>omega)⟩,⟨by first | omega | (simp only [lsA];omega) | (simp<;>omega),by first | omega | (simp only [lsA];omega) | (simp<;>omega)⟩,trivial⟩ fun a w h=>?_
  replace h:=at_out (σ':=⟨[(0,aS 1),(2,aI (((i:Nat):Int)+1)),(3,aI ((((List.length x0:Nat):Int) - 1 - ((i:Nat):Int)) - 1))],[(1,oR (.int 3) (List.set (List.set (rvTo x0 i) i ((rvTo x0 i).getD (((((List.length x0:Nat):Int) - 1 - ((i:Nat):Int))).toNat) 0)) (((((List.length x0:Nat):Int) - 1 - ((i:Nat):Int))).toNat) ((rvTo x0 i).getD i 0))),(2,oP 1 (S_slices_Reverse_S_int_int_.hd us 0))]⟩) { ts:=[0,2,3],os:=[1,2] } h (by kernel_rfl)
  exact ⟨i+1,at_eq h (st_congr3 (fun (d0:List Int) (d1:Int) (d2:Int)=>(⟨[(0,aS 1),(2,aI d1),(3,aI d2)],[(1,oR (.int 3) d0),(2,oP 1 (S_slices_Reverse_S_int_int_.hd us 0))]⟩:St)) (show ((List.set (List.set (rvTo x0 i) i ((rvTo x0 i).getD (((((List.length x0:Nat):Int) - 1 - ((i:Nat):Int))).toNat) 0)) (((((List.length x0:Nat):Int) - 1 - ((i:Nat):Int))).toNat) ((rvTo x0 i).getD i 0)):List Int)=(rvTo x0 (i+1)) from by first | with_reducible rfl | (exact rv_set (by omega) (by omega)) | rfl) (show (((i:Nat):Int)+1:Int)=(((i+1):Nat):Int) from by first | with_reducible rfl | (omega) | rfl) (show ((((List.length x0:Nat):Int) - 1 - ((i:Nat):Int)) - 1:Int)=(((List.length x0:Nat):Int) - 1 - (((i+1):Nat):Int)) from by first | with_reducible rfl | (omega) | rfl)),(by omega),(by omega)⟩
 ·replace h1 : ¬ (((i : Nat) : Int) < (((List.length x0 : Nat) : Int) - 1 - ((i : Nat) : Int))) := of_decide_eq_false h1
  refine wp_exit (then_exit (then_exit (in_hit ?_)))
  exact at_returnI (S:=S_slices_Reverse_S_int_int_) (x:=(x0,())) [1] [2] ((rvTo x0 i),()) (some ()) [S_slices_Reverse_S_int_int_.hd us 0=S_slices_Reverse_S_int_int_.hd us 0] hio h (by kernel_rfl) ⟨rfl,trivial⟩ (by first | rfl | exact congrArg (fun (z:(List Int))=>(z,())) (show ((rvTo x0 i):(List Int))=List.reverse x0 from by (exact rv_all (by omega)))) (fun z e=>(Option.some.inj e) ▸ rfl)

def D_impl_DecomposeFlow_1:=(fun (i:Int) (L:List Int)=>decide (0 < L.getD i.toNat 0))
abbrev Q_impl_DecomposeFlow_1:=(fun (x0:Int) (x1:(List Int))=>Sh.fit (.pt s29) x1∧(0≤x0∧x0 < ((List.length x1:Nat):Int)))
def S_impl_DecomposeFlow_1:Sum:={ fid:=22,dom:=[(.int 3),(.pt s29)],cod:=[(.bool 4)],dp:=true,fz:=false,pre:=fun x=>Q_impl_DecomposeFlow_1 x.1 x.2.1,g:=fun x=>((D_impl_DecomposeFlow_1 x.1 x.2.1),()) }
def S_impl_DecomposeFlow_1_tab:List (Nat×Sum):=[]
theorem S_impl_DecomposeFlow_1_ok:FnOK Try.prog 22 S_impl_DecomposeFlow_1:=by
 refine at_enter 9 (fun x=>⟨[(0,aI x.1),(1,aR s29 x.2.1 0)],[]⟩) Try.func22 rfl (by kernel_rfl) (fun x=>rfl) ?_
 rintro w0 Z0 ⟨x0,x1,u⟩ a w
 revert x0 x1
 intro (x0:Int) (x1:(List Int)) hpre hlens h
 replace hpre:Q_impl_DecomposeFlow_1 x0 x1:=hpre
 have hT:TabOK Try.prog w0 [] S_impl_DecomposeFlow_1_tab:=.nil
 obtain ⟨hf1,hpx⟩:=hpre
 have hn1_1:List.length x1≤1073741824:=hf1.1
 refine wp_seq ?_
 refine at_regq [] { ts:=[0,1,3],os:=[] } [] gamOK hT h (by kernel_rfl) trivial fun a w h=>then_normal (wp_seq ?_)
 refine at_regq [] { ts:=[3],os:=[] } [(0:Int)≤x0∧x0 < ((List.length x1:Nat):Int)] gamOK hT h (by kernel_rfl) ⟨(by refine ⟨?_,?_⟩<;>(first | omega | (simp only [lsA];omega) | (simp<;>omega))),trivial⟩ fun a w h=>then_normal (wp_ret ?_)
 exact at_return (decide ((x1.getD ((x0).toNat) 0) > 0),()) [] h (by kernel_rfl) trivial (congrArg (fun z=>(z,())) (show (decide ((x1.getD ((x0).toNat) 0) > 0))=D_impl_DecomposeFlow_1 x0 x1 from by unfold D_impl_DecomposeFlow_1;first | rfl | (exact decide_eq_decide.2 Iff.rfl)))

abbrev Q_impl_shortestPath:=(fun (x0:T26) (x1:Int) (x2:Int) (x3:(List Int))=>Sh.fit s26 x0∧Sh.fit (.fn 22 (.pt s29)) x3∧((EOK x0.2 x0.1∧AmtOK x0.2 x3)∧0≤x1∧x1 < x0.1))
def S_impl_shortestPath:Sum:={ fid:=21,dom:=[s26,(.int 3),(.int 3),(.fn 22 (.pt s29))],cod:=[s37,(.bool 4)],dp:=true,fz:=false,pre:=fun x=>Q_impl_shortestPath x.1 x.2.1 x.2.2.1 x.2.2.2.1,g:=fun x=>((shPF x.1 x.2.1 x.2.2.1 x.2.2.2.1).1,((shPF x.1 x.2.1 x.2.2.1 x.2.2.2.1).2,())) }
def S_impl_shortestPath_tab:List (Nat×Sum):=[(22,S_impl_DecomposeFlow_1),(36,S_slices_Reverse_S_int_int_)]
theorem S_impl_shortestPath_ok:FnOK Try.prog 21 S_impl_shortestPath:=by
 refine at_enter 98 (fun x=>⟨[(0,aG [cI x.1.1,.ro s58 x.1.2]),(1,aI x.2.1),(2,aI x.2.2.1),(3,.p (.c (.cl 22 (.ccons (.pr s29 x.2.2.2.1 0) .cnil))))],[]⟩) Try.func21 rfl (by kernel_rfl) (fun x=>rfl) ?_
 rintro w0 Z0 ⟨x0,x1,x2,x3,u⟩ a w
 revert x0 x1 x2 x3
 intro (x0:T26) (x1:Int) (x2:Int) (x3:(List Int)) hpre hlens h
 replace hpre:Q_impl_shortestPath x0 x1 x2 x3:=hpre
 have hT:TabOK Try.prog w0 [] S_impl_shortestPath_tab:=(.cons S_impl_DecomposeFlow_1_ok (.cons S_slices_Reverse_S_int_int__ok .nil))
 obtain ⟨hf0,hf3,hpx⟩:=hpre
 have hn0_1:List.length x0.2≤1073741824:=hf0.2.1
 have hn3_2:List.length x3≤1073741824:=hf3.1
 have hE:=hpx.1.1
 have hL:=hpx.1.2
 have hs:=hpx.2
 have hsz:=hE.szb
 have hel:=hE.len
 have hll:=hL.1
 have hE9:=capE_EOK hE hL
 have hcl:=capE_len x0.2 x3
 refine wp_seq ?_
 refine at_regq [{ ids:=[1] },{ ids:=[2] }] { ts:=[1,2,3,4,8,9],os:=[1,2] } [] gamOK hT h (by kernel_rfl) trivial fun a w h=>then_normal (wp_seq ?_)
 refine at_regq [{ ids:=[3] }] { ts:=[1,2,3,4,8,9,10],os:=[1,2,3] } [I64 (x1)] gamOK hT h (by kernel_rfl) ⟨⟨by first | omega | (simp only [lsA];omega) | (simp<;>omega),by first | omega | (simp only [lsA];omega) | (simp<;>omega)⟩,trivial⟩ fun a w h=>then_normal (wp_seq (wp_seq ?_))
 refine at_regq [{},{ ids:=[4] }] { ts:=[1,2,3,4,8,9,10,11],os:=[1,2,3,4] } [] gamOK hT h (by kernel_rfl) trivial fun a w h=>then_normal (wp_block ?_)
 replace h:=at_out (σ':=⟨[(1,aI x1),(2,aI x2),(3,.p (.c (.cl 22 (.ccons (.pr s29 x3 0) .cnil)))),(4,aP 1 0),(8,aP 2 0),(9,aB false),(10,aS 3),(11,aS 4)],[(1,oX 26 [cI x0.1,.ro s58 x0.2]),(2,oX 37 [cN]),(3,some (.mp false (mset ([]:List (Int×Int)) x1 x1))),(4,oR (.int 3) ([x1]))]⟩) { ts:=[1,2,3,4,8,9,10,11],os:=[1,2,3,4] } h (by kernel_rfl)
 refine at_loop (fun i:Nat=>(⟨[(1,aI x1),(2,aI x2),(3,.p (.c (.cl 22 (.ccons (.pr s29 x3 0) .cnil)))),(4,aP 1 0),(8,aP 2 0),(9,aB false),(10,aS 3),(11,aS 4)],[(1,oX 26 [cI x0.1,.ro s58 x0.2]),(2,oX 37 [cN]),(3,some (.mp false (prs x0.2 (srP x0.2 x3 x1 i)))),(4,oR (.int 3) (List.drop i (fsts (srP x0.2 x3 x1 i))))]⟩:St)) (fun i=>i≤List.length (srP x0.2 x3 x1 i)) (fun i=>8 - i) (0) h (st_congr2 (fun (d0:List (Int×Int)) (d1:List Int)=>(⟨[(1,aI x1),(2,aI x2),(3,.p (.c (.cl 22 (.ccons (.pr s29 x3 0) .cnil)))),(4,aP 1 0),(8,aP 2 0),(9,aB false),(10,aS 3),(11,aS 4)],[(1,oX 26 [cI x0.1,.ro s58 x0.2]),(2,oX 37 [cN]),(3,some (.mp false d0)),(4,oR (.int 3) d1)]⟩:St)) (show ((mset ([]:List (Int×Int)) x1 x1):List (Int×Int))=(prs x0.2 (srP x0.2 x3 x1 (0))) from by first | with_reducible rfl | (first | rfl | exact prs_zero _ _ _ _) | rfl) (show ([x1]:List Int)=(List.drop (0) (fsts (srP x0.2 x3 x1 (0)))) from by first | with_reducible rfl | (first | rfl | exact prs_zero _ _ _ _) | rfl)) (by exact Nat.zero_le _) ?_
 intro i a w hok0 h
 have hG:=srIt_good (f:=[]) hE9 hs i
 have hsl:=fsts_len (srP x0.2 x3 x1 i)
 have hsb:List.length (srP x0.2 x3 x1 i)≤8:=srIt_le (f:=[]) hE9 hs i
 have hsm:List.length (srP x0.2 x3 x1 i)≤List.length (srP x0.2 x3 x1 (i+1)):=srIt_mono (f:=[]) hE9 hs i
 have hdl:(List.drop i (fsts (srP x0.2 x3 x1 i))).length=(fsts (srP x0.2 x3 x1 i)).length - i:=List.length_drop
 refine wp_seq (wp_seq ?_)
 refine at_regq [] { ts:=[1,2,3,4,8,9,10,11,28],os:=[1,2,3,4] } [] gamOK hT h (by kernel_rfl) trivial fun a w h=>then_normal ?_
 refine at_test (decide (((List.length (List.drop i (fsts (srP x0.2 x3 x1 i))):Nat):Int) > 0)) h (by kernel_rfl) (fun h1=>?_) (fun h1=>?_)
 ·replace h1 : ((List.length (List.drop i (fsts (srP x0.2 x3 x1 i))) : Nat) : Int) > 0 := of_decide_eq_true h1
  refine wp_skip (then_normal (wp_seq (wp_block (wp_seq ?_))))
  refine at_regq [] { ts:=[1,2,3,4,8,9,10,11,32,33,34],os:=[1,2,3,4] } [] gamOK hT h (by kernel_rfl) trivial fun a w h=>then_normal (wp_block ?_)
  replace h:=at_out (σ':=⟨[(1,aI x1),(2,aI x2),(3,.p (.c (.cl 22 (.ccons (.pr s29 x3 0) .cnil)))),(4,aP 1 0),(8,aP 2 0),(9,aB false),(10,aS 3),(11,aS 4),(32,aF s58 x0.2),(33,aI ((List.length x0.2:Nat):Int)),(34,aI 0)],[(1,oX 26 [cI x0.1,.ro s58 x0.2]),(2,oX 37 [cN]),(3,some (.mp false (prs x0.2 (srP x0.2 x3 x1 i)))),(4,oR (.int 3) (List.drop i (fsts (srP x0.2 x3 x1 i))))]⟩) { ts:=[1,2,3,4,8,9,10,11,32,33,34],os:=[1,2,3,4] } h (by kernel_rfl)
  refine at_loop (fun k:Nat=>(⟨[(1,aI x1),(2,aI x2),(3,.p (.c (.cl 22 (.ccons (.pr s29 x3 0) .cnil)))),(4,aP 1 0),(8,aP 2 0),(9,aB false),(10,aS 3),(11,aS 4),(32,aF s58 x0.2),(33,aI ((List.length x0.2:Nat):Int)),(34,aI ((k:Nat):Int))],[(1,oX 26 [cI x0.1,.ro s58 x0.2]),(2,oX 37 [cN]),(3,some (.mp false (prs x0.2 (fwP x0.2 x3 ((fsts (srP x0.2 x3 x1 i)).getD i 0) (srP x0.2 x3 x1 i) k)))),(4,oR (.int 3) (List.drop i (fsts (fwP x0.2 x3 ((fsts (srP x0.2 x3 x1 i)).getD i 0) (srP x0.2 x3 x1 i) k))))]⟩:St)) (fun k=>k≤(List.length x0.2)) (fun k=>(List.length x0.2) - k) (0) h (st_congr3 (fun (d0:List (Int×Int)) (d1:List Int) (d2:Int)=>(⟨[(1,aI x1),(2,aI x2),(3,.p (.c (.cl 22 (.ccons (.pr s29 x3 0) .cnil)))),(4,aP 1 0),(8,aP 2 0),(9,aB false),(10,aS 3),(11,aS 4),(32,aF s58 x0.2),(33,aI ((List.length x0.2:Nat):Int)),(34,aI d2)],[(1,oX 26 [cI x0.1,.ro s58 x0.2]),(2,oX 37 [cN]),(3,some (.mp false d0)),(4,oR (.int 3) d1)]⟩:St)) (show ((prs x0.2 (srP x0.2 x3 x1 i)):List (Int×Int))=(prs x0.2 (fwP x0.2 x3 ((fsts (srP x0.2 x3 x1 i)).getD i 0) (srP x0.2 x3 x1 i) (0))) from by first | with_reducible rfl | (rfl) | rfl) (show ((List.drop i (fsts (srP x0.2 x3 x1 i))):List Int)=(List.drop i (fsts (fwP x0.2 x3 ((fsts (srP x0.2 x3 x1 i)).getD i 0) (srP x0.2 x3 x1 i) (0)))) from by first | with_reducible rfl | (rfl) | rfl) (show (0:Int)=(((0):Nat):Int) from by first | with_reducible rfl | (rfl) | rfl)) (by exact Nat.zero_le _) ?_
  intro k a w hok1 h
  have hfg:=fwTo_good hE9 hG (a:=((fsts (srP x0.2 x3 x1 i)).getD i 0)) ⟨i,show i < List.length (srP x0.2 x3 x1 i) by omega,(fst_at _ _).symm⟩ k (by omega)
  have hfb:List.length (fwP x0.2 x3 ((fsts (srP x0.2 x3 x1 i)).getD i 0) (srP x0.2 x3 x1 i) k)≤8:=hfg.1.len hE9
  have hfl:List.length (srP x0.2 x3 x1 i)≤List.length (fwP x0.2 x3 ((fsts (srP x0.2 x3 x1 i)).getD i 0) (srP x0.2 x3 x1 i) k):=hfg.2.2.1
  have hfsl:=fsts_len (fwP x0.2 x3 ((fsts (srP x0.2 x3 x1 i)).getD i 0) (srP x0.2 x3 x1 i) k)
  have hq0:(List.drop i (fsts (fwP x0.2 x3 ((fsts (srP x0.2 x3 x1 i)).getD i 0) (srP x0.2 x3 x1 i) k))).getD 0 0=((fsts (srP x0.2 x3 x1 i)).getD i 0):=que_at hfg.2.2.2 (by omega)
  have hdl2:(List.drop i (fsts (fwP x0.2 x3 ((fsts (srP x0.2 x3 x1 i)).getD i 0) (srP x0.2 x3 x1 i) k))).length=(fsts (fwP x0.2 x3 ((fsts (srP x0.2 x3 x1 i)).getD i 0) (srP x0.2 x3 x1 i) k)).length - i:=List.length_drop
  refine wp_seq ?_
  refine at_regq [] { ts:=[1,2,3,4,8,9,10,11,32,33,34,35],os:=[1,2,3,4] } [] gamOK hT h (by kernel_rfl) trivial fun a w h=>then_normal (wp_seq ?_)
  refine at_test (decide (((k:Nat):Int) < ((List.length x0.2:Nat):Int))) h (by kernel_rfl) (fun h2=>?_) (fun h2=>?_)
  ·replace h2 : ((k : Nat) : Int) < ((List.length x0.2 : Nat) : Int) := of_decide_eq_true h2
   have hke:=hE.ed k (by omega)
   have hkf:(0:Int)≤(x0.2.getD k (0,(0,0))).1∧(x0.2.getD k (0,(0,0))).1 < x0.1:=hke.1
   have hkt:(0:Int)≤(x0.2.getD k (0,(0,0))).2.1∧(x0.2.getD k (0,(0,0))).2.1 < x0.1:=hke.2.1
   refine wp_skip (then_normal (wp_seq (wp_block (wp_seq ?_))))
   refine at_regq [{},{},{},{ ids:=[5] }] { ts:=[1,2,3,4,8,9,10,11,12,13,32,33,34],os:=[1,2,3,4,5] } [(0:Int)≤((k:Nat):Int)∧((k:Nat):Int) < ((List.length x0.2:Nat):Int)] gamOK hT h (by kernel_rfl) ⟨(by refine ⟨?_,?_⟩<;>(first | omega | (simp only [lsA];omega) | (simp<;>omega))),trivial⟩ fun a w h=>then_normal (wp_seq ?_)
   refine at_regq [] { ts:=[1,2,3,4,8,9,10,11,12,13,15,32,33,34],os:=[1,2,3,4,5] } [] gamOK hT h (by kernel_rfl) trivial fun a w h=>then_normal (wp_seq ?_)
   by_cases h3:(x0.2.getD k (0,(0,0))).1=((List.drop i (fsts (fwP x0.2 x3 ((fsts (srP x0.2 x3 x1 i)).getD i 0) (srP x0.2 x3 x1 i) k))).getD 0 0)
   ·rcases Bool.eq_false_or_eq_true (!((mget (prs x0.2 (fwP x0.2 x3 ((fsts (srP x0.2 x3 x1 i)).getD i 0) (srP x0.2 x3 x1 i) k)) (x0.2.getD k (0, (0, 0))).2.1).isSome)) with h4 | h4
    ·have hzh4 : ((mget (prs x0.2 (fwP x0.2 x3 ((fsts (srP x0.2 x3 x1 i)).getD i 0) (srP x0.2 x3 x1 i) k)) (x0.2.getD k (0, (0, 0))).2.1).isSome) = false := notT h4
     refine at_anyq [{},{},{},{},{},{ hint:=some (aB true) },{},{},{ hint:=some (aB true) },{},{},{},{},{},{}] { ts:=[1,2,3,4,8,9,10,11,13,32,33,34,53,54,57,58,59,60],os:=[1,2,3,4,5] } [(0:Int)≤0∧0 < ((List.length (List.drop i (fsts (fwP x0.2 x3 ((fsts (srP x0.2 x3 x1 i)).getD i 0) (srP x0.2 x3 x1 i) k))):Nat):Int),0 < List.length (List.drop i (fsts (fwP x0.2 x3 ((fsts (srP x0.2 x3 x1 i)).getD i 0) (srP x0.2 x3 x1 i) k))),(AV.p (.c (.v (.bool (decide ((x0.2.getD k (0,(0,0))).1=((List.drop i (fsts (fwP x0.2 x3 ((fsts (srP x0.2 x3 x1 i)).getD i 0) (srP x0.2 x3 x1 i) k))).getD 0 0))))))=AV.p (.c (.v (.bool true)))),(AV.p (.c (.v (.bool (!((mget (prs x0.2 (fwP x0.2 x3 ((fsts (srP x0.2 x3 x1 i)).getD i 0) (srP x0.2 x3 x1 i) k)) (x0.2.getD k (0,(0,0))).2.1).isSome)))))=AV.p (.c (.v (.bool true)))),Q_impl_DecomposeFlow_1 ((k:Nat):Int) x3] gamOK hT mixed h (by kernel_rfl) ⟨(by refine ⟨?_,?_⟩<;>(first | omega | (simp only [lsA];omega) | (simp<;>omega))),(by first | omega | (simp only [lsA];omega) | (simp<;>omega)),hint_bool (decide_eq_true h3),hint_bool (h4),(by exact ⟨hf3,(by first | assumption | omega | (refine ⟨?_,?_⟩<;>omega))⟩),trivial⟩ fun a w h=>then_normal ?_
     refine at_test ((decide (0 < x3.getD k 0))) h (by kernel_rfl) (fun h5=>?_) (fun h5=>?_)
     ·refine wp_seq ?_
      refine at_regq [] { ts:=[1,2,3,4,8,9,10,11,13,32,33,34,53,54,57,58,59],os:=[1,2,3,4,5] } [I64 ((x0.2.getD k (0,(0,0))).2.1)] gamOK hT h (by kernel_rfl) ⟨⟨by first | omega | (simp only [lsA];omega) | (simp<;>omega),by first | omega | (simp only [lsA];omega) | (simp<;>omega)⟩,trivial⟩ fun a w h=>then_normal ?_
      refine at_regq [{},{},{},{ ids:=[6] },{ ids:=[7] }] { ts:=[1,2,3,4,8,9,10,11,32,33,34,53,54,57,58,59],os:=[1,2,3,7] } [(List.length (List.drop i (fsts (fwP x0.2 x3 ((fsts (srP x0.2 x3 x1 i)).getD i 0) (srP x0.2 x3 x1 i) k)))+List.length ([(x0.2.getD k (0,(0,0))).2.1]))*8≤140737488355328] gamOK hT h (by kernel_rfl) ⟨(by first | omega | (simp only [lsA];omega) | (simp<;>omega)),trivial⟩ fun a w h=>in_normal (then_normal ?_)
      refine at_regq [{ nw:=true }] { ts:=[1,2,3,4,8,9,10,11,32,33,34,53,54,57,58,59],os:=[1,2,3,7] } [I64 (((k:Nat):Int)+1)] gamOK hT h (by kernel_rfl) ⟨⟨by first | omega | (simp only [lsA];omega) | (simp<;>omega),by first | omega | (simp only [lsA];omega) | (simp<;>omega)⟩,trivial⟩ fun a w h=>?_
      replace h:=at_out (σ':=⟨[(1,aI x1),(2,aI x2),(3,.p (.c (.cl 22 (.ccons (.pr s29 x3 0) .cnil)))),(4,aP 1 0),(8,aP 2 0),(9,aB false),(10,aS 3),(11,aS 4),(32,aF s58 x0.2),(33,aI ((List.length x0.2:Nat):Int)),(34,aI (((k:Nat):Int)+1))],[(1,oX 26 [cI x0.1,.ro s58 x0.2]),(2,oX 37 [cN]),(3,some (.mp false (mset (prs x0.2 (fwP x0.2 x3 ((fsts (srP x0.2 x3 x1 i)).getD i 0) (srP x0.2 x3 x1 i) k)) (x0.2.getD k (0,(0,0))).2.1 (x0.2.getD k (0,(0,0))).1))),(4,oR (.int 3) ((List.drop i (fsts (fwP x0.2 x3 ((fsts (srP x0.2 x3 x1 i)).getD i 0) (srP x0.2 x3 x1 i) k)))++([(x0.2.getD k (0,(0,0))).2.1])))]⟩) { ts:=[1,2,3,4,8,9,10,11,32,33,34],os:=[1,2,3,7],rn:=[(7,4)] } h (by kernel_rfl)
      exact ⟨k+1,at_eq h (st_congr3 (fun (d0:List (Int×Int)) (d1:List Int) (d2:Int)=>(⟨[(1,aI x1),(2,aI x2),(3,.p (.c (.cl 22 (.ccons (.pr s29 x3 0) .cnil)))),(4,aP 1 0),(8,aP 2 0),(9,aB false),(10,aS 3),(11,aS 4),(32,aF s58 x0.2),(33,aI ((List.length x0.2:Nat):Int)),(34,aI d2)],[(1,oX 26 [cI x0.1,.ro s58 x0.2]),(2,oX 37 [cN]),(3,some (.mp false d0)),(4,oR (.int 3) d1)]⟩:St)) (show ((mset (prs x0.2 (fwP x0.2 x3 ((fsts (srP x0.2 x3 x1 i)).getD i 0) (srP x0.2 x3 x1 i) k)) (x0.2.getD k (0,(0,0))).2.1 (x0.2.getD k (0,(0,0))).1):List (Int×Int))=(prs x0.2 (fwP x0.2 x3 ((fsts (srP x0.2 x3 x1 i)).getD i 0) (srP x0.2 x3 x1 i) (k+1))) from by first | with_reducible rfl | (first | exact (sp_y (i:=i) (by omega) (by omega) (by first | assumption | exact Eq.trans (by assumption) hq0) (by first | assumption | exact of_decide_eq_true (by assumption)) (by assumption)).1 | (rw [sp_n (by omega) (by first | (left;exact fun e9=>absurd (e9.trans hq0.symm) (by assumption)) | (right;left;exact of_decide_eq_false (by assumption)) | (right;right;assumption))];done)) | rfl) (show (((List.drop i (fsts (fwP x0.2 x3 ((fsts (srP x0.2 x3 x1 i)).getD i 0) (srP x0.2 x3 x1 i) k)))++([(x0.2.getD k (0,(0,0))).2.1])):List Int)=(List.drop i (fsts (fwP x0.2 x3 ((fsts (srP x0.2 x3 x1 i)).getD i 0) (srP x0.2 x3 x1 i) (k+1)))) from by first | with_reducible rfl | (first | exact (sp_y (i:=i) (by omega) (by omega) (by first | assumption | exact Eq.trans (by assumption) hq0) (by first | assumption | exact of_decide_eq_true (by assumption)) (by assumption)).2 | (rw [sp_n (by omega) (by first | (left;exact fun e9=>absurd (e9.trans hq0.symm) (by assumption)) | (right;left;exact of_decide_eq_false (by assumption)) | (right;right;assumption))];done)) | rfl) (show (((k:Nat):Int)+1:Int)=(((k+1):Nat):Int) from by first | with_reducible rfl | (omega) | rfl)),(by omega),(by omega)⟩
     ·refine wp_skip (in_normal (then_normal ?_))
      refine at_regq [{ nw:=true }] { ts:=[1,2,3,4,8,9,10,11,32,33,34,53,54,57,58,59],os:=[1,2,3,4] } [I64 (((k:Nat):Int)+1)] gamOK hT h (by kernel_rfl) ⟨⟨by first | omega | (simp only [lsA];omega) | (simp<;>omega),by first | omega | (simp only [lsA];omega) | (simp<;>omega)⟩,trivial⟩ fun a w h=>?_
      replace h:=at_out (σ':=⟨[(1,aI x1),(2,aI x2),(3,.p (.c (.cl 22 (.ccons (.pr s29 x3 0) .cnil)))),(4,aP 1 0),(8,aP 2 0),(9,aB false),(10,aS 3),(11,aS 4),(32,aF s58 x0.2),(33,aI ((List.length x0.2:Nat):Int)),(34,aI (((k:Nat):Int)+1))],[(1,oX 26 [cI x0.1,.ro s58 x0.2]),(2,oX 37 [cN]),(3,some (.mp false (prs x0.2 (fwP x0.2 x3 ((fsts (srP x0.2 x3 x1 i)).getD i 0) (srP x0.2 x3 x1 i) k)))),(4,oR (.int 3) (List.drop i (fsts (fwP x0.2 x3 ((fsts (srP x0.2 x3 x1 i)).getD i 0) (srP x0.2 x3 x1 i) k))))]⟩) { ts:=[1,2,3,4,8,9,10,11,32,33,34],os:=[1,2,3,4] } h (by kernel_rfl)
      exact ⟨k+1,at_eq h (st_congr3 (fun (d0:List (Int×Int)) (d1:List Int) (d2:Int)=>(⟨[(1,aI x1),(2,aI x2),(3,.p (.c (.cl 22 (.ccons (.pr s29 x3 0) .cnil)))),(4,aP 1 0),(8,aP 2 0),(9,aB false),(10,aS 3),(11,aS 4),(32,aF s58 x0.2),(33,aI ((List.length x0.2:Nat):Int)),(34,aI d2)],[(1,oX 26 [cI x0.1,.ro s58 x0.2]),(2,oX 37 [cN]),(3,some (.mp false d0)),(4,oR (.int 3) d1)]⟩:St)) (show ((prs x0.2 (fwP x0.2 x3 ((fsts (srP x0.2 x3 x1 i)).getD i 0) (srP x0.2 x3 x1 i) k)):List (Int×Int))=(prs x0.2 (fwP x0.2 x3 ((fsts (srP x0.2 x3 x1 i)).getD i 0) (srP x0.2 x3 x1 i) (k+1))) from by first | with_reducible rfl | (first | exact (sp_y (i:=i) (by omega) (by omega) (by first | assumption | exact Eq.trans (by assumption) hq0) (by first | assumption | exact of_decide_eq_true (by assumption)) (by assumption)).1 | (rw [sp_n (by omega) (by first | (left;exact fun e9=>absurd (e9.trans hq0.symm) (by assumption)) | (right;left;exact of_decide_eq_false (by assumption)) | (right;right;assumption))];done)) | rfl) (show ((List.drop i (fsts (fwP x0.2 x3 ((fsts (srP x0.2 x3 x1 i)).getD i 0) (srP x0.2 x3 x1 i) k))):List Int)=(List.drop i (fsts (fwP x0.2 x3 ((fsts (srP x0.2 x3 x1 i)).getD i 0) (srP x0.2 x3 x1 i) (k+1)))) from by first | with_reducible rfl | (first | exact (sp_y (i:=i) (by omega) (by omega) (by first | assumption | exact Eq.trans (by assumption) hq0) (by first | assumption | exact of_decide_eq_true (by assumption)) (by assumption)).2 | (rw [sp_n (by omega) (by first | (left;exact fun e9=>absurd (e9.trans hq0.symm) (by assumption)) | (right;left;exact of_decide_eq_false (by assumption)) | (right;right;assumption))];done)) | rfl) (show (((k:Nat):Int)+1:Int)=(((k+1):Nat):Int) from by first | with_reducible rfl | (omega) | rfl)),(by omega),(by omega)⟩
    ·have hzh4 : ((mget (prs x0.2 (fwP x0.2 x3 ((fsts (srP x0.2 x3 x1 i)).getD i 0) (srP x0.2 x3 x1 i) k)) (x0.2.getD k (0, (0, 0))).2.1).isSome) = true := notF h4
     refine at_anyq [{},{},{},{},{},{ hint:=some (aB true) },{},{},{ hint:=some (aB false) },{},{},{},{},{},{}] { ts:=[1,2,3,4,8,9,10,11,13,32,33,34,53,54,57,58,59,60],os:=[1,2,3,4,5] } [(0:Int)≤0∧0 < ((List.length (List.drop i (fsts (fwP x0.2 x3 ((fsts (srP x0.2 x3 x1 i)).getD i 0) (srP x0.2 x3 x1 i) k))):Nat):Int),0 < List.length (List.drop i (fsts (fwP x0.2 x3 ((fsts (srP x0.2 x3 x1 i)).getD i 0) (srP x0.2 x3 x1 i) k))),(AV.p (.c (.v (.bool (decide ((x0.2.getD k (0,(0,0))).1=((List.drop i (fsts (fwP x0.2 x3 ((fsts (srP x0.2 x3 x1 i)).getD i 0) (srP x0.2 x3 x1 i) k))).getD 0 0))))))=AV.p (.c (.v (.bool true)))),(AV.p (.c (.v (.bool (!((mget (prs x0.2 (fwP x0.2 x3 ((fsts (srP x0.2 x3 x1 i)).getD i 0) (srP x0.2 x3 x1 i) k)) (x0.2.getD k (0,(0,0))).2.1).isSome)))))=AV.p (.c (.v (.bool false))))] gamOK hT mixed h (by kernel_rfl) ⟨(by refine ⟨?_,?_⟩<;>(first | omega | (simp only [lsA];omega) | (simp<;>omega))),(by first | omega | (simp only [lsA];omega) | (simp<;>omega)),hint_bool (decide_eq_true h3),hint_bool (h4),trivial⟩ fun a w h=>then_normal ?_
     refine at_test false h (by kernel_rfl) (fun hh=>nomatch hh) (fun hh=>?_)
     refine wp_skip (in_normal (then_normal ?_))
     refine at_regq [{ nw:=true }] { ts:=[1,2,3,4,8,9,10,11,32,33,34,53,54,57,58,59],os:=[1,2,3,4] } [I64 (((k:Nat):Int)+1)] gamOK hT h (by kernel_rfl) ⟨⟨by first | omega | (simp only [lsA];omega) | (simp<;>omega),by first | omega | (simp only [lsA];omega) | (simp<;>omega)⟩,trivial⟩ fun a w h=>?_
     replace h:=at_out (σ':=⟨[(1,aI x1),(2,aI x2),(3,.p (.c (.cl 22 (.ccons (.pr s29 x3 0) .cnil)))),(4,aP 1 0),(8,aP 2 0),(9,aB false),(10,aS 3),(11,aS 4),(32,aF s58 x0.2),(33,aI ((List.length x0.2:Nat):Int)),(34,aI (((k:Nat):Int)+1))],[(1,oX 26 [cI x0.1,.ro s58 x0.2]),(2,oX 37 [cN]),(3,some (.mp false (prs x0.2 (fwP x0.2 x3 ((fsts (srP x0.2 x3 x1 i)).getD i 0) (srP x0.2 x3 x1 i) k)))),(4,oR (.int 3) (List.drop i (fsts (fwP x0.2 x3 ((fsts (srP x0.2 x3 x1 i)).getD i 0) (srP x0.2 x3 x1 i) k))))]⟩) { ts:=[1,2,3,4,8,9,10,11,32,33,34],os:=[1,2,3,4] } h (by kernel_rfl)
     exact ⟨k+1,at_eq h (st_congr3 (fun (d0:List (Int×Int)) (d1:List Int) (d2:Int)=>(⟨[(1,aI x1),(2,aI x2),(3,.p (.c (.cl 22 (.ccons (.pr s29 x3 0) .cnil)))),(4,aP 1 0),(8,aP 2 0),(9,aB false),(10,aS 3),(11,aS 4),(32,aF s58 x0.2),(33,aI ((List.length x0.2:Nat):Int)),(34,aI d2)],[(1,oX 26 [cI x0.1,.ro s58 x0.2]),(2,oX 37 [cN]),(3,some (.mp false d0)),(4,oR (.int 3) d1)]⟩:St)) (show ((prs x0.2 (fwP x0.2 x3 ((fsts (srP x0.2 x3 x1 i)).getD i 0) (srP x0.2 x3 x1 i) k)):List (Int×Int))=(prs x0.2 (fwP x0.2 x3 ((fsts (srP x0.2 x3 x1 i)).getD i 0) (srP x0.2 x3 x1 i) (k+1))) from by first | with_reducible rfl | (first | exact (sp_y (i:=i) (by omega) (by omega) (by first | assumption | exact Eq.trans (by assumption) hq0) (by first | assumption | exact of_decide_eq_true (by assumption)) (by assumption)).1 | (rw [sp_n (by omega) (by first | (left;exact fun e9=>absurd (e9.trans hq0.symm) (by assumption)) | (right;left;exact of_decide_eq_false (by assumption)) | (right;right;assumption))];done)) | rfl) (show ((List.drop i (fsts (fwP x0.2 x3 ((fsts (srP x0.2 x3 x1 i)).getD i 0) (srP x0.2 x3 x1 i) k))):List Int)=(List.drop i (fsts (fwP x0.2 x3 ((fsts (srP x0.2 x3 x1 i)).getD i 0) (srP x0.2 x3 x1 i) (k+1)))) from by first | with_reducible rfl | (first | exact (sp_y (i:=i) (by omega) (by omega) (by first | assumption | exact Eq.trans (by assumption) hq0) (by first | assumption | exact of_decide_eq_true (by assumption)) (by assumption)).2 | (rw [sp_n (by omega) (by first | (left;exact fun e9=>absurd (e9.trans hq0.symm) (by assumption)) | (right;left;exact of_decide_eq_false (by assumption)) | (right;right;assumption))];done)) | rfl) (show (((k:Nat):Int)+1:Int)=(((k+1):Nat):Int) from by first | with_reducible rfl | (omega) | rfl)),(by omega),(by omega)⟩
   ·refine at_anyq [{}, {}, {}, {}, {}, { hint := some (aB false) }, {}, {}, {}, {}, {}, {}, {}, {}, {}] { ts := [1, 2, 3, 4, 8, 9, 10, 11, 13, 32, 33, 34, 53, 54, 57, 58, 59, 60], os := [1, 2, 3, 4, 5] } [(0 : Int) ≤ 0 ∧ 0 < ((List.length (List.drop i (fsts (fwP x0.2 x3 ((fsts (srP x0.2 x3 x1 i)).getD i 0) (srP x0.2 x3 x1 i) k))) : Nat) : Int), 0 < List.length (List.drop i (fsts (fwP x0.2 x3 ((fsts (srP x0.2 x3 x1 i)).getD i 0) (srP x0.2 x3 x1 i) k))), (AV.p (.c (.v (.bool (decide ((x0.2.getD k (0, (0, 0))).1 = ((List.drop i (fsts (fwP x0.2 x3 ((fsts (srP x0.2 x3 x1 i)).getD i 0) (srP x0.2 x3 x1 i) k))).getD 0 0)))))) = AV.p (.c (.v (.bool false))))] gamOK hT mixed h (by kernel_rfl) ⟨(by refine ⟨?_, ?_⟩ <;> (first | omega | (simp only [lsA]; omega) | (simp <;> omega))), (by first | omega | (simp only [lsA]; omega) | (simp <;> omega)), hint_bool (decide_eq_false h3), trivial⟩ fun a w h => then_normal ?_
    refine at_test false h (by kernel_rfl) (fun hh=>nomatch hh) (fun hh=>?_)
    refine wp_skip (in_normal (then_normal ?_))
    refine at_regq [{ nw:=true }] { ts:=[1,2,3,4,8,9,10,11,32,33,34,53,54,57,58,59],os:=[1,2,3,4] } [I64 (((k:Nat):Int)+1)] gamOK hT h (by kernel_rfl) ⟨⟨by first | omega | (simp only [lsA];omega) | (simp<;>omega),by first | omega | (simp only [lsA];omega) | (simp<;>omega)⟩,trivial⟩ fun a w h=>?_
    replace h:=at_out (σ':=⟨[(1,aI x1),(2,aI x2),(3,.p (.c (.cl 22 (.ccons (.pr s29 x3 0) .cnil)))),(4,aP 1 0),(8,aP 2 0),(9,aB false),(10,aS 3),(11,aS 4),(32,aF s58 x0.2),(33,aI ((List.length x0.2:Nat):Int)),(34,aI (((k:Nat):Int)+1))],[(1,oX 26 [cI x0.1,.ro s58 x0.2]),(2,oX 37 [cN]),(3,some (.mp false (prs x0.2 (fwP x0.2 x3 ((fsts (srP x0.2 x3 x1 i)).getD i 0) (srP x0.2 x3 x1 i) k)))),(4,oR (.int 3) (List.drop i (fsts (fwP x0.2 x3 ((fsts (srP x0.2 x3 x1 i)).getD i 0) (srP x0.2 x3 x1 i) k))))]⟩) { ts:=[1,2,3,4,8,9,10,11,32,33,34],os:=[1,2,3,4] } h (by kernel_rfl)
    exact ⟨k+1,at_eq h (st_congr3 (fun (d0:List (Int×Int)) (d1:List Int) (d2:Int)=>(⟨[(1,aI x1),(2,aI x2),(3,.p (.c (.cl 22 (.ccons (.pr s29 x3 0) .cnil)))),(4,aP 1 0),(8,aP 2 0),(9,aB false),(10,aS 3),(11,aS 4),(32,aF s58 x0.2),(33,aI ((List.length x0.2:Nat):Int)),(34,aI d2)],[(1,oX 26 [cI x0.1,.ro s58 x0.2]),(2,oX 37 [cN]),(3,some (.mp false d0)),(4,oR (.int 3) d1)]⟩:St)) (show ((prs x0.2 (fwP x0.2 x3 ((fsts (srP x0.2 x3 x1 i)).getD i 0) (srP x0.2 x3 x1 i) k)):List (Int×Int))=(prs x0.2 (fwP x0.2 x3 ((fsts (srP x0.2 x3 x1 i)).getD i 0) (srP x0.2 x3 x1 i) (k+1))) from by first | with_reducible rfl | (first | exact (sp_y (i:=i) (by omega) (by omega) (by first | assumption | exact Eq.trans (by assumption) hq0) (by first | assumption | exact of_decide_eq_true (by assumption)) (by assumption)).1 | (rw [sp_n (by omega) (by first | (left;exact fun e9=>absurd (e9.trans hq0.symm) (by assumption)) | (right;left;exact of_decide_eq_false (by assumption)) | (right;right;assumption))];done)) | rfl) (show ((List.drop i (fsts (fwP x0.2 x3 ((fsts (srP x0.2 x3 x1 i)).getD i 0) (srP x0.2 x3 x1 i) k))):List Int)=(List.drop i (fsts (fwP x0.2 x3 ((fsts (srP x0.2 x3 x1 i)).getD i 0) (srP x0.2 x3 x1 i) (k+1)))) from by first | with_reducible rfl | (first | exact (sp_y (i:=i) (by omega) (by omega) (by first | assumption | exact Eq.trans (by assumption) hq0) (by first | assumption | exact of_decide_eq_true (by assumption)) (by assumption)).2 | (rw [sp_n (by omega) (by first | (left;exact fun e9=>absurd (e9.trans hq0.symm) (by assumption)) | (right;left;exact of_decide_eq_false (by assumption)) | (right;right;assumption))];done)) | rfl) (show (((k:Nat):Int)+1:Int)=(((k+1):Nat):Int) from by first | with_reducible rfl | (omega) | rfl)),(by omega),(by omega)⟩
  ·replace h2 : ¬ (((k : Nat) : Int) < ((List.length x0.2 : Nat) : Int)) := of_decide_eq_false h2
   refine wp_exit (then_exit ?_)
   replace h:=at_out (σ':=⟨[(1,aI x1),(2,aI x2),(3,.p (.c (.cl 22 (.ccons (.pr s29 x3 0) .cnil)))),(4,aP 1 0),(8,aP 2 0),(9,aB false),(10,aS 3),(11,aS 4)],[(1,oX 26 [cI x0.1,.ro s58 x0.2]),(2,oX 37 [cN]),(3,some (.mp false (prs x0.2 (fwP x0.2 x3 ((fsts (srP x0.2 x3 x1 i)).getD i 0) (srP x0.2 x3 x1 i) k)))),(4,oR (.int 3) (List.drop i (fsts (fwP x0.2 x3 ((fsts (srP x0.2 x3 x1 i)).getD i 0) (srP x0.2 x3 x1 i) k))))]⟩) { ts:=[1,2,3,4,8,9,10,11],os:=[1,2,3,4] } h (by kernel_rfl)
   replace h:=at_eq (σ':=⟨[(1,aI x1),(2,aI x2),(3,.p (.c (.cl 22 (.ccons (.pr s29 x3 0) .cnil)))),(4,aP 1 0),(8,aP 2 0),(9,aB false),(10,aS 3),(11,aS 4)],[(1,oX 26 [cI x0.1,.ro s58 x0.2]),(2,oX 37 [cN]),(3,some (.mp false (prs x0.2 (fwP x0.2 x3 ((fsts (srP x0.2 x3 x1 i)).getD i 0) (srP x0.2 x3 x1 i) (List.length x0.2))))),(4,oR (.int 3) (List.drop i (fsts (fwP x0.2 x3 ((fsts (srP x0.2 x3 x1 i)).getD i 0) (srP x0.2 x3 x1 i) (List.length x0.2)))))]⟩) h (st_congr2 (fun (d0:List (Int×Int)) (d1:List Int)=>(⟨[(1,aI x1),(2,aI x2),(3,.p (.c (.cl 22 (.ccons (.pr s29 x3 0) .cnil)))),(4,aP 1 0),(8,aP 2 0),(9,aB false),(10,aS 3),(11,aS 4)],[(1,oX 26 [cI x0.1,.ro s58 x0.2]),(2,oX 37 [cN]),(3,some (.mp false d0)),(4,oR (.int 3) d1)]⟩:St)) (show ((prs x0.2 (fwP x0.2 x3 ((fsts (srP x0.2 x3 x1 i)).getD i 0) (srP x0.2 x3 x1 i) k)):List (Int×Int))=(prs x0.2 (fwP x0.2 x3 ((fsts (srP x0.2 x3 x1 i)).getD i 0) (srP x0.2 x3 x1 i) (List.length x0.2))) from by first | with_reducible rfl | (rw [show (List.length x0.2)=k by omega]) | rfl) (show ((List.drop i (fsts (fwP x0.2 x3 ((fsts (srP x0.2 x3 x1 i)).getD i 0) (srP x0.2 x3 x1 i) k))):List Int)=(List.drop i (fsts (fwP x0.2 x3 ((fsts (srP x0.2 x3 x1 i)).getD i 0) (srP x0.2 x3 x1 i) (List.length x0.2)))) from by first | with_reducible rfl | (rw [show (List.length x0.2)=k by omega]) | rfl))
   have hfln:List.length (srP x0.2 x3 x1 i)≤List.length (fwP x0.2 x3 ((fsts (srP x0.2 x3 x1 i)).getD i 0) (srP x0.2 x3 x1 i) (List.length x0.2)):=by rw [show (List.length x0.2)=k by omega];exact hfl
   have hfsn:=fsts_len (fwP x0.2 x3 ((fsts (srP x0.2 x3 x1 i)).getD i 0) (srP x0.2 x3 x1 i) (List.length x0.2))
   have hdln:(List.drop i (fsts (fwP x0.2 x3 ((fsts (srP x0.2 x3 x1 i)).getD i 0) (srP x0.2 x3 x1 i) (List.length x0.2)))).length=(fsts (fwP x0.2 x3 ((fsts (srP x0.2 x3 x1 i)).getD i 0) (srP x0.2 x3 x1 i) (List.length x0.2))).length - i:=List.length_drop
   refine then_exit (in_hit (in_normal (then_normal ?_)))
   refine at_regq [{},{ ids:=[6] }] { ts:=[1,2,3,4,8,9,10,11],os:=[1,2,3,6] } [(0:Int)≤1∧1≤((List.length (List.drop i (fsts (fwP x0.2 x3 ((fsts (srP x0.2 x3 x1 i)).getD i 0) (srP x0.2 x3 x1 i) (List.length x0.2)))):Nat):Int)] gamOK hT h (by kernel_rfl) ⟨(by refine ⟨?_,?_⟩<;>(first | omega | (simp only [lsA];omega) | (simp<;>omega))),trivial⟩ fun a w h=>?_
   replace h:=at_out (σ':=⟨[(1,aI x1),(2,aI x2),(3,.p (.c (.cl 22 (.ccons (.pr s29 x3 0) .cnil)))),(4,aP 1 0),(8,aP 2 0),(9,aB false),(10,aS 3),(11,aS 4)],[(1,oX 26 [cI x0.1,.ro s58 x0.2]),(2,oX 37 [cN]),(3,some (.mp false (prs x0.2 (fwP x0.2 x3 ((fsts (srP x0.2 x3 x1 i)).getD i 0) (srP x0.2 x3 x1 i) (List.length x0.2))))),(4,oR (.int 3) (List.drop 1 (List.drop i (fsts (fwP x0.2 x3 ((fsts (srP x0.2 x3 x1 i)).getD i 0) (srP x0.2 x3 x1 i) (List.length x0.2))))))]⟩) { ts:=[1,2,3,4,8,9,10,11],os:=[1,2,3,6],rn:=[(6,4)] } h (by kernel_rfl)
   exact ⟨i+1,at_eq h (st_congr2 (fun (d0:List (Int×Int)) (d1:List Int)=>(⟨[(1,aI x1),(2,aI x2),(3,.p (.c (.cl 22 (.ccons (.pr s29 x3 0) .cnil)))),(4,aP 1 0),(8,aP 2 0),(9,aB false),(10,aS 3),(11,aS 4)],[(1,oX 26 [cI x0.1,.ro s58 x0.2]),(2,oX 37 [cN]),(3,some (.mp false d0)),(4,oR (.int 3) d1)]⟩:St)) (show ((prs x0.2 (fwP x0.2 x3 ((fsts (srP x0.2 x3 x1 i)).getD i 0) (srP x0.2 x3 x1 i) (List.length x0.2))):List (Int×Int))=(prs x0.2 (srP x0.2 x3 x1 (i+1))) from by first | with_reducible rfl | ((rw [srP_nx (by omega)];done)) | rfl) (show ((List.drop 1 (List.drop i (fsts (fwP x0.2 x3 ((fsts (srP x0.2 x3 x1 i)).getD i 0) (srP x0.2 x3 x1 i) (List.length x0.2))))):List Int)=(List.drop (i+1) (fsts (srP x0.2 x3 x1 (i+1)))) from by first | with_reducible rfl | (exact que_nx (by omega)) | rfl)),(by omega),(by omega)⟩
 ·replace h1 : ¬ (((List.length (List.drop i (fsts (srP x0.2 x3 x1 i))) : Nat) : Int) > 0) := of_decide_eq_false h1
  refine wp_exit (then_exit ?_)
  replace h:=at_out (σ':=⟨[(1,aI x1),(2,aI x2),(8,aP 2 0),(9,aB false),(10,aS 3)],[(2,oX 37 [cN]),(3,some (.mp false (prs x0.2 (srP x0.2 x3 x1 i))))]⟩) { ts:=[1,2,8,9,10],os:=[2,3] } h (by kernel_rfl)
  replace h:=at_eq (σ':=⟨[(1,aI x1),(2,aI x2),(8,aP 2 0),(9,aB false),(10,aS 3)],[(2,oX 37 [cN]),(3,some (.mp false (prs x0.2 (srcP x0.2 x3 x1))))]⟩) h (st_congr1 (fun (d0:List (Int×Int))=>(⟨[(1,aI x1),(2,aI x2),(8,aP 2 0),(9,aB false),(10,aS 3)],[(2,oX 37 [cN]),(3,some (.mp false d0))]⟩:St)) (show ((prs x0.2 (srP x0.2 x3 x1 i)):List (Int×Int))=(prs x0.2 (srcP x0.2 x3 x1)) from by first | with_reducible rfl | (exact srcP_end (by omega) (by omega)) | rfl))
  refine then_exit (in_hit (then_normal (wp_seq (wp_seq ?_))))
  refine at_regq [] { ts:=[1,2,8,9,10,17],os:=[2,3] } [] gamOK hT h (by kernel_rfl) trivial fun a w h=>then_normal (wp_seq ?_)
  refine at_regq [] { ts:=[1,2,8,9,10,79],os:=[2,3] } [] gamOK hT h (by kernel_rfl) trivial fun a w h=>then_normal ?_
  refine at_test (!((mget (prs x0.2 (srcP x0.2 x3 x1)) x2).isSome)) h (by kernel_rfl) (fun h6=>?_) (fun h6=>?_)
  ·replace h6 : ((mget (prs x0.2 (srcP x0.2 x3 x1)) x2).isSome) = false := notT h6
   refine wp_seq ?_
   refine at_regq [] { ts:=[1,2,8,9,10],os:=[2,3] } [] gamOK hT h (by kernel_rfl) trivial fun a w h=>then_normal (wp_ret (then_ret ?_))
   exact at_return (([]:List Int),(false,())) [] h (by kernel_rfl) trivial (congrArg (fun z=>(z.1,z.2,())) (show ((([]:List Int),false))=shPF x0 x1 x2 x3 from by first | exact shPF_n (by assumption) | exact shPF_y (i:=j) (by assumption) (by assumption) (by omega)))
  ·replace h6 : ((mget (prs x0.2 (srcP x0.2 x3 x1)) x2).isSome) = true := notF h6
   refine wp_skip (then_normal (wp_seq ?_))
   refine at_regq [{},{ ids:=[7] }] { ts:=[1,2,8,9,10,18],os:=[2,3,7] } [] gamOK hT h (by kernel_rfl) trivial fun a w h=>then_normal (wp_seq (wp_seq ?_))
   refine at_regq [] { ts:=[1,8,9,10,18,19],os:=[2,3,7] } [] gamOK hT h (by kernel_rfl) trivial fun a w h=>then_normal (wp_block ?_)
   replace h:=at_out (σ':=⟨[(1,aI x1),(8,aP 2 0),(9,aB false),(10,aS 3),(18,aS 7),(19,aI x2)],[(2,oX 37 [cN]),(3,some (.mp false (prs x0.2 (srcP x0.2 x3 x1)))),(7,oR (.int 3) ([x2]))]⟩) { ts:=[1,8,9,10,18,19],os:=[2,3,7] } h (by kernel_rfl)
   refine at_loop (fun j:Nat=>(⟨[(1,aI x1),(8,aP 2 0),(9,aB false),(10,aS 3),(18,aS 7),(19,aI (ptIt x0.2 (srcP x0.2 x3 x1) x1 ([x2],x2) j).2)],[(2,oX 37 [cN]),(3,some (.mp false (prs x0.2 (srcP x0.2 x3 x1)))),(7,oR (.int 3) (ptIt x0.2 (srcP x0.2 x3 x1) x1 ([x2],x2) j).1)]⟩:St)) (fun j=>PtOK x0.2 x3 x0.1 x1 x2 (srcP x0.2 x3 x1) j (ptIt x0.2 (srcP x0.2 x3 x1) x1 ([x2],x2) j)) (fun j=>8 - j) (0) h (st_congr2 (fun (d0:List Int) (d1:Int)=>(⟨[(1,aI x1),(8,aP 2 0),(9,aB false),(10,aS 3),(18,aS 7),(19,aI d1)],[(2,oX 37 [cN]),(3,some (.mp false (prs x0.2 (srcP x0.2 x3 x1)))),(7,oR (.int 3) d0)]⟩:St)) (show ([x2]:List Int)=(ptIt x0.2 (srcP x0.2 x3 x1) x1 ([x2],x2) (0)).1 from by first | with_reducible rfl | (rfl) | rfl) (show (x2:Int)=(ptIt x0.2 (srcP x0.2 x3 x1) x1 ([x2],x2) (0)).2 from by first | with_reducible rfl | (rfl) | rfl)) (by exact pt_zero hE hL (srcP_good hE hL hs) (by rw [← prs_some x0.2];assumption)) ?_
   intro j a w hok2 h
   have hptl:=hok2.len
   have hp7:j≤7:=by obtain ⟨p,_,_,h7,_⟩:=hok2.pos;omega
   refine wp_seq (wp_seq ?_)
   refine at_regq [] { ts:=[1,8,9,10,18,19,86],os:=[2,3,7] } [] gamOK hT h (by kernel_rfl) trivial fun a w h=>then_normal ?_
   refine at_test (!decide ((ptIt x0.2 (srcP x0.2 x3 x1) x1 ([x2],x2) j).2=x1)) h (by kernel_rfl) (fun h7=>?_) (fun h7=>?_)
   ·replace h7 : ¬ ((ptIt x0.2 (srcP x0.2 x3 x1) x1 ([x2], x2) j).2 = x1) := of_decide_eq_false (notT h7)
    refine wp_skip (then_normal (wp_block (wp_seq ?_)))
    refine at_regq [] { ts:=[1,8,9,10,18,19],os:=[2,3,7] } [] gamOK hT h (by kernel_rfl) trivial fun a w h=>then_normal ?_
    refine at_regq [{},{},{ ids:=[8] },{ ids:=[9] }] { ts:=[1,8,9,10,18,19],os:=[2,3,9] } [(List.length (ptIt x0.2 (srcP x0.2 x3 x1) x1 ([x2],x2) j).1+List.length ([((mget (prs x0.2 (srcP x0.2 x3 x1)) (ptIt x0.2 (srcP x0.2 x3 x1) x1 ([x2],x2) j).2).getD 0)]))*8≤140737488355328] gamOK hT h (by kernel_rfl) ⟨(by first | omega | (simp only [lsA];omega) | (simp<;>omega)),trivial⟩ fun a w h=>in_normal ?_
    replace h:=at_out (σ':=⟨[(1,aI x1),(8,aP 2 0),(9,aB false),(10,aS 3),(18,aS 7),(19,aI ((mget (prs x0.2 (srcP x0.2 x3 x1)) (ptIt x0.2 (srcP x0.2 x3 x1) x1 ([x2],x2) j).2).getD 0))],[(2,oX 37 [cN]),(3,some (.mp false (prs x0.2 (srcP x0.2 x3 x1)))),(7,oR (.int 3) ((ptIt x0.2 (srcP x0.2 x3 x1) x1 ([x2],x2) j).1++([((mget (prs x0.2 (srcP x0.2 x3 x1)) (ptIt x0.2 (srcP x0.2 x3 x1) x1 ([x2],x2) j).2).getD 0)])))]⟩) { ts:=[1,8,9,10,18,19],os:=[2,3,9],rn:=[(9,7)] } h (by kernel_rfl)
    exact ⟨j+1,at_eq h (st_congr2 (fun (d0:List Int) (d1:Int)=>(⟨[(1,aI x1),(8,aP 2 0),(9,aB false),(10,aS 3),(18,aS 7),(19,aI d1)],[(2,oX 37 [cN]),(3,some (.mp false (prs x0.2 (srcP x0.2 x3 x1)))),(7,oR (.int 3) d0)]⟩:St)) (show (((ptIt x0.2 (srcP x0.2 x3 x1) x1 ([x2],x2) j).1++([((mget (prs x0.2 (srcP x0.2 x3 x1)) (ptIt x0.2 (srcP x0.2 x3 x1) x1 ([x2],x2) j).2).getD 0)])):List Int)=(ptIt x0.2 (srcP x0.2 x3 x1) x1 ([x2],x2) (j+1)).1 from by first | with_reducible rfl | ((rw [ptIt_next (by assumption)];rfl)) | rfl) (show (((mget (prs x0.2 (srcP x0.2 x3 x1)) (ptIt x0.2 (srcP x0.2 x3 x1) x1 ([x2],x2) j).2).getD 0):Int)=(ptIt x0.2 (srcP x0.2 x3 x1) x1 ([x2],x2) (j+1)).2 from by first | with_reducible rfl | ((rw [ptIt_next (by assumption)];rfl)) | rfl)),(by (rw [ptIt_next (by assumption)];exact pt_step hE (srcP_good hE hL hs) hok2 (by assumption))),(by omega)⟩
   ·replace h7 : (ptIt x0.2 (srcP x0.2 x3 x1) x1 ([x2], x2) j).2 = x1 := of_decide_eq_true (notF h7)
    refine wp_exit (then_exit (then_exit (in_hit (then_normal (wp_seq ?_)))))
    refine at_regq [] { ts:=[8,9,18],os:=[2,7] } [Q_slices_Reverse_S_int_int_ (ptIt x0.2 (srcP x0.2 x3 x1) x1 ([x2],x2) j).1] gamOK hT h (by kernel_rfl) ⟨(by exact Sh.fit_len rfl (by omega)),trivial⟩ fun a w h=>then_normal (wp_seq ?_)
    refine at_regq [] { ts:=[8,9],os:=[2,7] } [] gamOK hT h (by kernel_rfl) trivial fun a w h=>then_normal (wp_ret ?_)
    exact at_return ((List.reverse (ptIt x0.2 (srcP x0.2 x3 x1) x1 ([x2],x2) j).1),(true,())) [] h (by kernel_rfl) trivial (congrArg (fun z=>(z.1,z.2,())) (show (((List.reverse (ptIt x0.2 (srcP x0.2 x3 x1) x1 ([x2],x2) j).1),true))=shPF x0 x1 x2 x3 from by first | exact shPF_n (by assumption) | exact shPF_y (i:=j) (by assumption) (by assumption) (by omega)))

abbrev Q_impl_DecomposeFlow:=(fun (x0:T26) (x1:(List Int)) (x2:Int) (x3:Int)=>Sh.fit s26 x0∧Sh.fit s31 x1∧FlQ x0 x1 x2 x3)
def S_impl_DecomposeFlow:Sum:={ fid:=7,dom:=[s26,s31,(.int 3),(.int 3)],cod:=[s33],dp:=true,fz:=false,pre:=fun x=>Q_impl_DecomposeFlow x.1 x.2.1 x.2.2.1 x.2.2.2.1,g:=fun x=>((decF x.1 x.2.1 x.2.2.1 x.2.2.2.1),()) }
def S_impl_DecomposeFlow_tab:List (Nat×Sum):=[(19,S_impl_IsValidFlow),(20,S_slices_Clone_S_int_int_),(21,S_impl_shortestPath),(23,S_impl_pathEdges)]
theorem S_impl_DecomposeFlow_ok:FnOK Try.prog 7 S_impl_DecomposeFlow:=by
 refine at_enter 54 (fun x=>⟨[(0,aG [cI x.1.1,.ro s58 x.1.2]),(1,aG [.ro (.int 3) x.2.1]),(2,aI x.2.2.1),(3,aI x.2.2.2.1)],[]⟩) Try.func7 rfl (by kernel_rfl) (fun x=>rfl) ?_
 rintro w0 Z0 ⟨x0,x1,x2,x3,u⟩ a w
 revert x0 x1 x2 x3
 intro (x0:T26) (x1:(List Int)) (x2:Int) (x3:Int) hpre hlens h
 replace hpre:Q_impl_DecomposeFlow x0 x1 x2 x3:=hpre
 have hT:TabOK Try.prog w0 [] S_impl_DecomposeFlow_tab:=(.cons S_impl_IsValidFlow_ok (.cons S_slices_Clone_S_int_int__ok (.cons S_impl_shortestPath_ok (.cons S_impl_pathEdges_ok .nil))))
 obtain ⟨hf0,hf1,hpx⟩:=hpre
 have hn0_1:List.length x0.2≤1073741824:=hf0.2.1
 have hn1_2:List.length x1≤1073741824:=hf1.1
 refine wp_seq ?_
 refine at_regq [{ ids:=[1] },{ ids:=[2] }] { ts:=[2,3,4,5,8],os:=[1,2] } [] gamOK hT h (by kernel_rfl) trivial fun a w h=>then_normal (wp_seq (wp_seq ?_))
 refine at_regq [] { ts:=[2,3,4,5,8,20],os:=[1,2] } [Q_impl_IsValidFlow x0 x1 x2 x3] gamOK hT h (by kernel_rfl) ⟨(by exact ⟨hf0,hf1,hpx⟩),trivial⟩ fun a w h=>then_normal ?_
 refine at_test (!(qOK x0 x2 x3)) h (by kernel_rfl) (fun h1=>?_) (fun h1=>?_)
 ·replace h1 : (qOK x0 x2 x3) = false := notT h1
  refine wp_seq ?_
  refine at_regq [] { ts:=[2,3,4,5,8],os:=[1,2] } [] gamOK hT h (by kernel_rfl) trivial fun a w h=>then_normal (wp_ret (then_ret ?_))
  exact at_return (([]:List (List Int)),()) [] h (by kernel_rfl) trivial (congrArg (fun z=>(z,())) (show (([]:List (List Int)))=decF x0 x1 x2 x3 from by first | exact dec_n (by assumption) | exact dec_y hqq hpx hok0 (by assumption)))
 ·replace h1 : (qOK x0 x2 x3) = true := notF h1
  have hqq:qOK x0 x2 x3=true:=by assumption
  have hE:=(qOK_t hqq).1
  have hs:=(qOK_t hqq).2.1
  have hel:=hE.len
  have hsz:=hE.szb
  refine wp_skip (then_normal (wp_seq ?_))
  refine at_regq [{},{},{ ids:=[3] },{ ids:=[4] }] { ts:=[2,3,4,8,9],os:=[1,3,4] } [(lenOK (α:=Int)) x1] gamOK hT h (by kernel_rfl) ⟨(by first | assumption | trivial | (first | omega | (simp only [lsA];omega) | (simp<;>omega))),trivial⟩ fun a w h=>then_normal (wp_seq ?_)
  refine at_regq [] { ts:=[2,3,4,8,9,10],os:=[1,3,4] } [] gamOK hT h (by kernel_rfl) trivial fun a w h=>then_normal (wp_block ?_)
  replace h:=at_out (σ':=⟨[(2,aI x2),(3,aI x3),(4,aP 1 0),(8,.p (.c (cN))),(9,aP 4 0),(10,aS 5)],[(1,oX 26 [cI x0.1,.ro s58 x0.2]),(3,oR (.int 3) x1),(4,oX 29 [.sl 3]),(5,oR s37 ([]:List (List Int)))]⟩) { mt:=[⟨none,10,5,true,s37⟩],ts:=[2,3,4,8,9,10],os:=[1,3,4,5] } h (by kernel_rfl)
  refine at_loop (fun m:Nat=>(⟨[(2,aI x2),(3,aI x3),(4,aP 1 0),(8,.p (.c (cN))),(9,aP 4 0),(10,aS 5)],[(1,oX 26 [cI x0.1,.ro s58 x0.2]),(3,oR (.int 3) (lft x0.2 x1 x2 x3 m)),(4,oX 29 [.sl 3]),(5,oR s37 (List.map (fun (j:Nat)=>pthF x0.2 (lft x0.2 x1 x2 x3 j) x2 x3) (List.range m)))]⟩:St)) (fun m=>(∀ j,j < m→fndP x0.2 (lft x0.2 x1 x2 x3 j) x2 x3=true)) (fun m=>200 - m) (0) h (st_congr2 (fun (d0:List Int) (d1:List (List Int))=>(⟨[(2,aI x2),(3,aI x3),(4,aP 1 0),(8,.p (.c (cN))),(9,aP 4 0),(10,aS 5)],[(1,oX 26 [cI x0.1,.ro s58 x0.2]),(3,oR (.int 3) d0),(4,oX 29 [.sl 3]),(5,oR s37 d1)]⟩:St)) (show (x1:List Int)=(lft x0.2 x1 x2 x3 (0)) from by first | with_reducible rfl | (rfl) | rfl) (show (([]:List (List Int)):List (List Int))=(List.map (fun (j:Nat)=>pthF x0.2 (lft x0.2 x1 x2 x3 j) x2 x3) (List.range (0))) from by first | with_reducible rfl | (rfl) | rfl)) (by exact fun j h=>absurd h (by omega)) ?_
  intro m a w hok0 h
  have hdf:=dec_fnd hqq hpx hok0
  have hm1:=hdf.1
  have hAm:=hdf.2.amt hE
  have hal:=hAm.1
  have hpll:List.length (List.map (fun (j:Nat)=>pthF x0.2 (lft x0.2 x1 x2 x3 j) x2 x3) (List.range m))=m:=by simp
  refine wp_block (wp_seq ?_)
  refine at_regq [{},{},{},{},{ ids:=[6] },{},{},{},{ ids:=[7] }] { ts:=[2,3,4,8,9,10,11,12],os:=[1,3,4,5,6,7] } [Q_impl_shortestPath x0 x2 x3 (lft x0.2 x1 x2 x3 m)] gamOK hT h (by kernel_rfl) ⟨(by exact ⟨hf0,(show Sh.fit (.sl 29 (.int 3)) (lft x0.2 x1 x2 x3 m) from Sh.fit_len rfl (by omega)),⟨hE,hAm⟩,hs⟩),trivial⟩ fun a w h=>then_normal (wp_seq (wp_seq ?_))
  refine at_regq [] { ts:=[2,3,4,8,9,10,11,33],os:=[1,3,4,5,6,7] } [] gamOK hT h (by kernel_rfl) trivial fun a w h=>then_normal ?_
  refine at_test (!(fndP x0.2 (lft x0.2 x1 x2 x3 m) x2 x3)) h (by kernel_rfl) (fun h2=>?_) (fun h2=>?_)
  ·replace h2 : (fndP x0.2 (lft x0.2 x1 x2 x3 m) x2 x3) = false := notT h2
   refine wp_seq ?_
   refine at_regq [] { ts:=[2,3,4,8,9,10,11],os:=[1,3,4,5,6,7] } [] gamOK hT h (by kernel_rfl) trivial fun a w h=>then_normal (wp_ret (then_ret (in_ret (then_ret (in_ret ?_)))))
   exact at_return ((List.map (fun (j:Nat)=>pthF x0.2 (lft x0.2 x1 x2 x3 j) x2 x3) (List.range m)),()) [] h (by kernel_rfl) trivial (congrArg (fun z=>(z,())) (show ((List.map (fun (j:Nat)=>pthF x0.2 (lft x0.2 x1 x2 x3 j) x2 x3) (List.range m)))=decF x0 x1 x2 x3 from by first | exact dec_n (by assumption) | exact dec_y hqq hpx hok0 (by assumption)))
  ·replace h2 : (fndP x0.2 (lft x0.2 x1 x2 x3 m) x2 x3) = true := notF h2
   have hfn:(fndP x0.2 (lft x0.2 x1 x2 x3 m) x2 x3)=true:=by assumption
   have hpo:=pth_ok hE hAm hs hfn
   have hpol:=hpo.len
   refine wp_skip (then_normal (wp_seq (wp_seq ?_)))
   refine at_regq [{},{},{ ids:=[8] }] { ts:=[2,3,4,8,9,10,11,37,38,39],os:=[1,3,4,5,6,7,8] } [Q_impl_pathEdges x0 (pthF x0.2 (lft x0.2 x1 x2 x3 m) x2 x3)] gamOK hT h (by kernel_rfl) ⟨(by exact ⟨hf0,(show Sh.fit (.sl 29 (.int 3)) (pthF x0.2 (lft x0.2 x1 x2 x3 m) x2 x3) from Sh.fit_len rfl (by omega))⟩),trivial⟩ fun a w h=>then_normal (wp_block ?_)
   replace h:=at_out (σ':=⟨[(2,aI x2),(3,aI x3),(4,aP 1 0),(8,.p (.c (cN))),(9,aP 4 0),(10,aS 5),(11,aP 7 0),(37,aS 8),(38,aI ((List.length (pEd x0 (pthF x0.2 (lft x0.2 x1 x2 x3 m) x2 x3) (List.length (pthF x0.2 (lft x0.2 x1 x2 x3 m) x2 x3) - 1)):Nat):Int)),(39,aI 0)],[(1,oX 26 [cI x0.1,.ro s58 x0.2]),(3,oR (.int 3) (lft x0.2 x1 x2 x3 m)),(4,oX 29 [.sl 3]),(5,oR s37 (List.map (fun (j:Nat)=>pthF x0.2 (lft x0.2 x1 x2 x3 j) x2 x3) (List.range m))),(6,oR (.int 3) (pthF x0.2 (lft x0.2 x1 x2 x3 m) x2 x3)),(7,oX 37 [.sl 6]),(8,oR (.int 3) (pEd x0 (pthF x0.2 (lft x0.2 x1 x2 x3 m) x2 x3) (List.length (pthF x0.2 (lft x0.2 x1 x2 x3 m) x2 x3) - 1)))]⟩) { ts:=[2,3,4,8,9,10,11,37,38,39],os:=[1,3,4,5,6,7,8] } h (by kernel_rfl)
   refine at_loop (fun i:Nat=>(⟨[(2,aI x2),(3,aI x3),(4,aP 1 0),(8,.p (.c (cN))),(9,aP 4 0),(10,aS 5),(11,aP 7 0),(37,aS 8),(38,aI ((List.length (pEd x0 (pthF x0.2 (lft x0.2 x1 x2 x3 m) x2 x3) (List.length (pthF x0.2 (lft x0.2 x1 x2 x3 m) x2 x3) - 1)):Nat):Int)),(39,aI ((i:Nat):Int))],[(1,oX 26 [cI x0.1,.ro s58 x0.2]),(3,oR (.int 3) (dcTo x0.2 (pthF x0.2 (lft x0.2 x1 x2 x3 m) x2 x3) (lft x0.2 x1 x2 x3 m) i)),(4,oX 29 [.sl 3]),(5,oR s37 (List.map (fun (j:Nat)=>pthF x0.2 (lft x0.2 x1 x2 x3 j) x2 x3) (List.range m))),(6,oR (.int 3) (pthF x0.2 (lft x0.2 x1 x2 x3 m) x2 x3)),(7,oX 37 [.sl 6]),(8,oR (.int 3) (pEd x0 (pthF x0.2 (lft x0.2 x1 x2 x3 m) x2 x3) (List.length (pthF x0.2 (lft x0.2 x1 x2 x3 m) x2 x3) - 1)))]⟩:St)) (fun i=>i≤(List.length (pthF x0.2 (lft x0.2 x1 x2 x3 m) x2 x3) - 1)) (fun i=>(List.length (pthF x0.2 (lft x0.2 x1 x2 x3 m) x2 x3) - 1) - i) (0) h (st_congr2 (fun (d0:List Int) (d1:Int)=>(⟨[(2,aI x2),(3,aI x3),(4,aP 1 0),(8,.p (.c (cN))),(9,aP 4 0),(10,aS 5),(11,aP 7 0),(37,aS 8),(38,aI ((List.length (pEd x0 (pthF x0.2 (lft x0.2 x1 x2 x3 m) x2 x3) (List.length (pthF x0.2 (lft x0.2 x1 x2 x3 m) x2 x3) - 1)):Nat):Int)),(39,aI d1)],[(1,oX 26 [cI x0.1,.ro s58 x0.2]),(3,oR (.int 3) d0),(4,oX 29 [.sl 3]),(5,oR s37 (List.map (fun (j:Nat)=>pthF x0.2 (lft x0.2 x1 x2 x3 j) x2 x3) (List.range m))),(6,oR (.int 3) (pthF x0.2 (lft x0.2 x1 x2 x3 m) x2 x3)),(7,oX 37 [.sl 6]),(8,oR (.int 3) (pEd x0 (pthF x0.2 (lft x0.2 x1 x2 x3 m) x2 x3) (List.length (pthF x0.2 (lft x0.2 x1 x2 x3 m) x2 x3) - 1)))]⟩:St)) (show ((lft x0.2 x1 x2 x3 m):List Int)=(dcTo x0.2 (pthF x0.2 (lft x0.2 x1 x2 x3 m) x2 x3) (lft x0.2 x1 x2 x3 m) (0)) from by first | with_reducible rfl | (rfl) | rfl) (show (0:Int)=(((0):Nat):Int) from by first | with_reducible rfl | (rfl) | rfl)) (by exact Nat.zero_le _) ?_
   intro i a w hok1 h
   have hpel:=pEd_len x0 (pthF x0.2 (lft x0.2 x1 x2 x3 m) x2 x3) (List.length (pthF x0.2 (lft x0.2 x1 x2 x3 m) x2 x3) - 1)
   have hdcl:=dc_len x0.2 (pthF x0.2 (lft x0.2 x1 x2 x3 m) x2 x3) (lft x0.2 x1 x2 x3 m) i
   refine wp_seq ?_
   refine at_regq [] { ts:=[2,3,4,8,9,10,11,37,38,39,40],os:=[1,3,4,5,6,7,8] } [] gamOK hT h (by kernel_rfl) trivial fun a w h=>then_normal (wp_seq ?_)
   refine at_test (decide (((i:Nat):Int) < ((List.length (pEd x0 (pthF x0.2 (lft x0.2 x1 x2 x3 m) x2 x3) (List.length (pthF x0.2 (lft x0.2 x1 x2 x3 m) x2 x3) - 1)):Nat):Int))) h (by kernel_rfl) (fun h3=>?_) (fun h3=>?_)
   ·replace h3 : ((i : Nat) : Int) < ((List.length (pEd x0 (pthF x0.2 (lft x0.2 x1 x2 x3 m) x2 x3) (List.length (pthF x0.2 (lft x0.2 x1 x2 x3 m) x2 x3) - 1)) : Nat) : Int) := of_decide_eq_true h3
    have hat:=hpo.at_ hE (m:=i) (by omega)
    have hix:((pEd x0 (pthF x0.2 (lft x0.2 x1 x2 x3 m) x2 x3) (List.length (pthF x0.2 (lft x0.2 x1 x2 x3 m) x2 x3) - 1)).getD i 0)=((peN x0.2 (pthF x0.2 (lft x0.2 x1 x2 x3 m) x2 x3) i:Nat):Int):=(pEd_at (by omega)).trans hat.1
    have hixl:=hat.2.1
    have hdk:(0:Int)≤(dcTo x0.2 (pthF x0.2 (lft x0.2 x1 x2 x3 m) x2 x3) (lft x0.2 x1 x2 x3 m) i).getD ((pEd x0 (pthF x0.2 (lft x0.2 x1 x2 x3 m) x2 x3) (List.length (pthF x0.2 (lft x0.2 x1 x2 x3 m) x2 x3) - 1)).getD i 0).toNat 0∧(dcTo x0.2 (pthF x0.2 (lft x0.2 x1 x2 x3 m) x2 x3) (lft x0.2 x1 x2 x3 m) i).getD ((pEd x0 (pthF x0.2 (lft x0.2 x1 x2 x3 m) x2 x3) (List.length (pthF x0.2 (lft x0.2 x1 x2 x3 m) x2 x3) - 1)).getD i 0).toNat 0≤(lft x0.2 x1 x2 x3 m).getD ((pEd x0 (pthF x0.2 (lft x0.2 x1 x2 x3 m) x2 x3) (List.length (pthF x0.2 (lft x0.2 x1 x2 x3 m) x2 x3) - 1)).getD i 0).toNat 0:=(dc_ok hE hAm hpo i (by omega)).1 ((pEd x0 (pthF x0.2 (lft x0.2 x1 x2 x3 m) x2 x3) (List.length (pthF x0.2 (lft x0.2 x1 x2 x3 m) x2 x3) - 1)).getD i 0).toNat (by omega)
    have hd8:=(hAm.2 ((pEd x0 (pthF x0.2 (lft x0.2 x1 x2 x3 m) x2 x3) (List.length (pthF x0.2 (lft x0.2 x1 x2 x3 m) x2 x3) - 1)).getD i 0).toNat (by omega)).2
    refine wp_skip (then_normal (wp_seq (wp_block (wp_seq ?_))))
    refine at_regq [] { ts:=[2,3,4,8,9,10,11,14,37,38,39],os:=[1,3,4,5,6,7,8] } [(0:Int)≤((i:Nat):Int)∧((i:Nat):Int) < ((List.length (pEd x0 (pthF x0.2 (lft x0.2 x1 x2 x3 m) x2 x3) (List.length (pthF x0.2 (lft x0.2 x1 x2 x3 m) x2 x3) - 1)):Nat):Int),i < List.length (pEd x0 (pthF x0.2 (lft x0.2 x1 x2 x3 m) x2 x3) (List.length (pthF x0.2 (lft x0.2 x1 x2 x3 m) x2 x3) - 1))] gamOK hT h (by kernel_rfl) ⟨(by refine ⟨?_,?_⟩<;>(first | omega | (simp only [lsA];omega) | (simp<;>omega))),(by first | omega | (simp only [lsA];omega) | (simp<;>omega)),trivial⟩ fun a w h=>then_normal ?_
    refine at_regq [{},{},{},{},{ nw:=true }] { ts:=[2,3,4,8,9,10,11,37,38,39],os:=[1,3,4,5,6,7,8] } [(0:Int)≤((pEd x0 (pthF x0.2 (lft x0.2 x1 x2 x3 m) x2 x3) (List.length (pthF x0.2 (lft x0.2 x1 x2 x3 m) x2 x3) - 1)).getD i 0)∧((pEd x0 (pthF x0.2 (lft x0.2 x1 x2 x3 m) x2 x3) (List.length (pthF x0.2 (lft x0.2 x1 x2 x3 m) x2 x3) - 1)).getD i 0) < ((List.length (dcTo x0.2 (pthF x0.2 (lft x0.2 x1 x2 x3 m) x2 x3) (lft x0.2 x1 x2 x3 m) i):Nat):Int),(((pEd x0 (pthF x0.2 (lft x0.2 x1 x2 x3 m) x2 x3) (List.length (pthF x0.2 (lft x0.2 x1 x2 x3 m) x2 x3) - 1)).getD i 0)).toNat < List.length (dcTo x0.2 (pthF x0.2 (lft x0.2 x1 x2 x3 m) x2 x3) (lft x0.2 x1 x2 x3 m) i),I64 (((dcTo x0.2 (pthF x0.2 (lft x0.2 x1 x2 x3 m) x2 x3) (lft x0.2 x1 x2 x3 m) i).getD ((((pEd x0 (pthF x0.2 (lft x0.2 x1 x2 x3 m) x2 x3) (List.length (pthF x0.2 (lft x0.2 x1 x2 x3 m) x2 x3) - 1)).getD i 0)).toNat) 0) - 1),(0:Int)≤((pEd x0 (pthF x0.2 (lft x0.2 x1 x2 x3 m) x2 x3) (List.length (pthF x0.2 (lft x0.2 x1 x2 x3 m) x2 x3) - 1)).getD i 0)∧((pEd x0 (pthF x0.2 (lft x0.2 x1 x2 x3 m) x2 x3) (List.length (pthF x0.2 (lft x0.2 x1 x2 x3 m) x2 x3) - 1)).getD i 0) < ((List.length (dcTo x0.2 (pthF x0.2 (lft x0.2 x1 x2 x3 m) x2 x3) (lft x0.2 x1 x2 x3 m) i):Nat):Int),(((pEd x0 (pthF x0.2 (lft x0.2 x1 x2 x3 m) x2 x3) (List.length (pthF x0.2 (lft x0.2 x1 x2 x3 m) x2 x3) - 1)).getD i 0)).toNat < List.length (dcTo x0.2 (pthF x0.2 (lft x0.2 x1 x2 x3 m) x2 x3) (lft x0.2 x1 x2 x3 m) i)] gamOK hT h (by kernel_rfl) ⟨(by refine ⟨?_,?_⟩<;>(first | omega | (simp only [lsA];omega) | (simp<;>omega))),(by first | omega | (simp only [lsA];omega) | (simp<;>omega)),⟨by first | omega | (simp only [lsA];omega) | (simp<;>omega),by first | omega | (simp only [lsA];omega) | (simp<;>omega)⟩,(by refine ⟨?_,?_⟩<;>(first | omega | (simp only [lsA];omega) | (simp<;>omega))),(by first | omega | (simp only [lsA];omega) | (simp<;>omega)),trivial⟩ fun a w h=>in_normal (then_normal ?_)
    refine at_regq [{ nw:=true }] { ts:=[2,3,4,8,9,10,11,37,38,39],os:=[1,3,4,5,6,7,8] } [I64 (((i:Nat):Int)+1)] gamOK hT h (by kernel_rfl) ⟨⟨by first | omega | (simp only [lsA];omega) | (simp<;>omega),by first | omega | (simp only [lsA];omega) | (simp<;>omega)⟩,trivial⟩ fun a w h=>?_
    replace h:=at_out (σ':=⟨[(2,aI x2),(3,aI x3),(4,aP 1 0),(8,.p (.c (cN))),(9,aP 4 0),(10,aS 5),(11,aP 7 0),(37,aS 8),(38,aI ((List.length (pEd x0 (pthF x0.2 (lft x0.2 x1 x2 x3 m) x2 x3) (List.length (pthF x0.2 (lft x0.2 x1 x2 x3 m) x2 x3) - 1)):Nat):Int)),(39,aI (((i:Nat):Int)+1))],[(1,oX 26 [cI x0.1,.ro s58 x0.2]),(3,oR (.int 3) (List.set (dcTo x0.2 (pthF x0.2 (lft x0.2 x1 x2 x3 m) x2 x3) (lft x0.2 x1 x2 x3 m) i) ((((pEd x0 (pthF x0.2 (lft x0.2 x1 x2 x3 m) x2 x3) (List.length (pthF x0.2 (lft x0.2 x1 x2 x3 m) x2 x3) - 1)).getD i 0)).toNat) (((dcTo x0.2 (pthF x0.2 (lft x0.2 x1 x2 x3 m) x2 x3) (lft x0.2 x1 x2 x3 m) i).getD ((((pEd x0 (pthF x0.2 (lft x0.2 x1 x2 x3 m) x2 x3) (List.length (pthF x0.2 (lft x0.2 x1 x2 x3 m) x2 x3) - 1)).getD i 0)).toNat) 0) - 1))),(4,oX 29 [.sl 3]),(5,oR s37 (List.map (fun (j:Nat)=>pthF x0.2 (lft x0.2 x1 x2 x3 j) x2 x3) (List.range m))),(6,oR (.int 3) (pthF x0.2 (lft x0.2 x1 x2 x3 m) x2 x3)),(7,oX 37 [.sl 6]),(8,oR (.int 3) (pEd x0 (pthF x0.2 (lft x0.2 x1 x2 x3 m) x2 x3) (List.length (pthF x0.2 (lft x0.2 x1 x2 x3 m) x2 x3) - 1)))]⟩) { ts:=[2,3,4,8,9,10,11,37,38,39],os:=[1,3,4,5,6,7,8] } h (by kernel_rfl)
    exact ⟨i+1,at_eq h (st_congr2 (fun (d0:List Int) (d1:Int)=>(⟨[(2,aI x2),(3,aI x3),(4,aP 1 0),(8,.p (.c (cN))),(9,aP 4 0),(10,aS 5),(11,aP 7 0),(37,aS 8),(38,aI ((List.length (pEd x0 (pthF x0.2 (lft x0.2 x1 x2 x3 m) x2 x3) (List.length (pthF x0.2 (lft x0.2 x1 x2 x3 m) x2 x3) - 1)):Nat):Int)),(39,aI d1)],[(1,oX 26 [cI x0.1,.ro s58 x0.2]),(3,oR (.int 3) d0),(4,oX 29 [.sl 3]),(5,oR s37 (List.map (fun (j:Nat)=>pthF x0.2 (lft x0.2 x1 x2 x3 j) x2 x3) (List.range m))),(6,oR (.int 3) (pthF x0.2 (lft x0.2 x1 x2 x3 m) x2 x3)),(7,oX 37 [.sl 6]),(8,oR (.int 3) (pEd x0 (pthF x0.2 (lft x0.2 x1 x2 x3 m) x2 x3) (List.length (pthF x0.2 (lft x0.2 x1 x2 x3 m) x2 x3) - 1)))]⟩:St)) (show ((List.set (dcTo x0.2 (pthF x0.2 (lft x0.2 x1 x2 x3 m) x2 x3) (lft x0.2 x1 x2 x3 m) i) ((((pEd x0 (pthF x0.2 (lft x0.2 x1 x2 x3 m) x2 x3) (List.length (pthF x0.2 (lft x0.2 x1 x2 x3 m) x2 x3) - 1)).getD i 0)).toNat) (((dcTo x0.2 (pthF x0.2 (lft x0.2 x1 x2 x3 m) x2 x3) (lft x0.2 x1 x2 x3 m) i).getD ((((pEd x0 (pthF x0.2 (lft x0.2 x1 x2 x3 m) x2 x3) (List.length (pthF x0.2 (lft x0.2 x1 x2 x3 m) x2 x3) - 1)).getD i 0)).toNat) 0) - 1)):List Int)=(dcTo x0.2 (pthF x0.2 (lft x0.2 x1 x2 x3 m) x2 x3) (lft x0.2 x1 x2 x3 m) (i+1)) from by first | with_reducible rfl | ((rw [hix,Int.toNat_natCast];rfl)) | rfl) (show (((i:Nat):Int)+1:Int)=(((i+1):Nat):Int) from by first | with_reducible rfl | (omega) | rfl)),(by omega),(by omega)⟩
   ·replace h3 : ¬ (((i : Nat) : Int) < ((List.length (pEd x0 (pthF x0.2 (lft x0.2 x1 x2 x3 m) x2 x3) (List.length (pthF x0.2 (lft x0.2 x1 x2 x3 m) x2 x3) - 1)) : Nat) : Int)) := of_decide_eq_false h3
    refine wp_exit (then_exit ?_)
    replace h:=at_out (σ':=⟨[(2,aI x2),(3,aI x3),(4,aP 1 0),(8,.p (.c (cN))),(9,aP 4 0),(10,aS 5),(11,aP 7 0)],[(1,oX 26 [cI x0.1,.ro s58 x0.2]),(3,oR (.int 3) (dcTo x0.2 (pthF x0.2 (lft x0.2 x1 x2 x3 m) x2 x3) (lft x0.2 x1 x2 x3 m) i)),(4,oX 29 [.sl 3]),(5,oR s37 (List.map (fun (j:Nat)=>pthF x0.2 (lft x0.2 x1 x2 x3 j) x2 x3) (List.range m))),(6,oR (.int 3) (pthF x0.2 (lft x0.2 x1 x2 x3 m) x2 x3)),(7,oX 37 [.sl 6])]⟩) { ts:=[2,3,4,8,9,10,11],os:=[1,3,4,5,6,7] } h (by kernel_rfl)
    replace h:=at_eq (σ':=⟨[(2,aI x2),(3,aI x3),(4,aP 1 0),(8,.p (.c (cN))),(9,aP 4 0),(10,aS 5),(11,aP 7 0)],[(1,oX 26 [cI x0.1,.ro s58 x0.2]),(3,oR (.int 3) (lft x0.2 x1 x2 x3 (m+1))),(4,oX 29 [.sl 3]),(5,oR s37 (List.map (fun (j:Nat)=>pthF x0.2 (lft x0.2 x1 x2 x3 j) x2 x3) (List.range m))),(6,oR (.int 3) (pthF x0.2 (lft x0.2 x1 x2 x3 m) x2 x3)),(7,oX 37 [.sl 6])]⟩) h (st_congr1 (fun (d0:List Int)=>(⟨[(2,aI x2),(3,aI x3),(4,aP 1 0),(8,.p (.c (cN))),(9,aP 4 0),(10,aS 5),(11,aP 7 0)],[(1,oX 26 [cI x0.1,.ro s58 x0.2]),(3,oR (.int 3) d0),(4,oX 29 [.sl 3]),(5,oR s37 (List.map (fun (j:Nat)=>pthF x0.2 (lft x0.2 x1 x2 x3 j) x2 x3) (List.range m))),(6,oR (.int 3) (pthF x0.2 (lft x0.2 x1 x2 x3 m) x2 x3)),(7,oX 37 [.sl 6])]⟩:St)) (show ((dcTo x0.2 (pthF x0.2 (lft x0.2 x1 x2 x3 m) x2 x3) (lft x0.2 x1 x2 x3 m) i):List Int)=(lft x0.2 x1 x2 x3 (m+1)) from by first | with_reducible rfl | (exact lft_end (by omega)) | rfl))
    refine then_exit (in_hit (then_normal ?_))
    refine at_regq [{},{},{ ids:=[9] },{ ids:=[10] }] { ts:=[2,3,4,8,9,10],os:=[1,3,4,10] } [(List.length (List.map (fun (j:Nat)=>pthF x0.2 (lft x0.2 x1 x2 x3 j) x2 x3) (List.range m))+List.length ([(pthF x0.2 (lft x0.2 x1 x2 x3 m) x2 x3)]))*24≤140737488355328] gamOK hT h (by kernel_rfl) ⟨(by first | omega | (simp only [lsA];omega) | (simp<;>omega)),trivial⟩ fun a w h=>in_normal ?_
    replace h:=at_out (σ':=⟨[(2,aI x2),(3,aI x3),(4,aP 1 0),(8,.p (.c (cN))),(9,aP 4 0),(10,aS 5)],[(1,oX 26 [cI x0.1,.ro s58 x0.2]),(3,oR (.int 3) (lft x0.2 x1 x2 x3 (m+1))),(4,oX 29 [.sl 3]),(5,oR s37 ((List.map (fun (j:Nat)=>pthF x0.2 (lft x0.2 x1 x2 x3 j) x2 x3) (List.range m))++([(pthF x0.2 (lft x0.2 x1 x2 x3 m) x2 x3)])))]⟩) { ts:=[2,3,4,8,9,10],os:=[1,3,4,10],rn:=[(10,5)] } h (by kernel_rfl)
    exact ⟨m+1,at_eq h (st_congr2 (fun (d0:List Int) (d1:List (List Int))=>(⟨[(2,aI x2),(3,aI x3),(4,aP 1 0),(8,.p (.c (cN))),(9,aP 4 0),(10,aS 5)],[(1,oX 26 [cI x0.1,.ro s58 x0.2]),(3,oR (.int 3) d0),(4,oX 29 [.sl 3]),(5,oR s37 d1)]⟩:St)) (show ((lft x0.2 x1 x2 x3 (m+1)):List Int)=(lft x0.2 x1 x2 x3 (m+1)) from by first | with_reducible rfl | (rfl) | rfl) (show (((List.map (fun (j:Nat)=>pthF x0.2 (lft x0.2 x1 x2 x3 j) x2 x3) (List.range m))++([(pthF x0.2 (lft x0.2 x1 x2 x3 m) x2 x3)])):List (List Int))=(List.map (fun (j:Nat)=>pthF x0.2 (lft x0.2 x1 x2 x3 j) x2 x3) (List.range (m+1))) from by first | with_reducible rfl | (exact (pl_snoc m).symm) | rfl)),(by exact fnd_suc3 (by assumption) hok0),(by omega)⟩

abbrev Q_spec_IsPath:=(fun (x0:T26) (x1:(List Int))=>Sh.fit s26 x0∧Sh.fit s37 x1)
def S_spec_IsPath:Sum:={ fid:=8,dom:=[s26,s37],cod:=[(.bool 4)],dp:=true,fz:=false,pre:=fun x=>Q_spec_IsPath x.1 x.2.1,g:=fun x=>((isPa x.1 x.2.1),()) }
def S_spec_IsPath_tab:List (Nat×Sum):=[(24,S_spec_IsValidGraph),(25,S_spec_l1In),(26,S_spec_l21Has),(9,S_spec_EdgeBetween)]
theorem S_spec_IsPath_ok:FnOK Try.prog 8 S_spec_IsPath:=by
 refine at_enter 64 (fun x=>⟨[(0,aG [cI x.1.1,.ro s58 x.1.2]),(1,aG [.ro (.int 3) x.2.1])],[]⟩) Try.func8 rfl (by kernel_rfl) (fun x=>rfl) ?_
 rintro w0 Z0 ⟨x0,x1,u⟩ a w
 revert x0 x1
 intro (x0:T26) (x1:(List Int)) hpre hlens h
 replace hpre:Q_spec_IsPath x0 x1:=hpre
 have hT:TabOK Try.prog w0 [] S_spec_IsPath_tab:=(.cons S_spec_IsValidGraph_ok (.cons S_spec_l1In_ok (.cons S_spec_l21Has_ok (.cons S_spec_EdgeBetween_ok .nil))))
 obtain ⟨hf0,hf1⟩:=hpre
 have hn0_1:List.length x0.2≤1073741824:=hf0.2.1
 have hn1_2:List.length x1≤1073741824:=hf1.1
 refine wp_seq ?_
 refine at_regq [{ ids:=[1] },{ ids:=[2] }] { ts:=[2,3,4],os:=[1,2] } [] gamOK hT h (by kernel_rfl) trivial fun a w h=>then_normal (wp_seq (wp_seq ?_))
 rcases Bool.eq_false_or_eq_true (!(validGr x0)) with h1 | h1
 ·have hzh1 : (validGr x0) = false := notT h1
  refine at_regq [{},{},{ hint:=some (aB true) }] { ts:=[2,3,4,14],os:=[1,2] } [Q_spec_IsValidGraph x0,(AV.p (.c (.v (.bool (!(validGr x0)))))=AV.p (.c (.v (.bool true))))] gamOK hT h (by kernel_rfl) ⟨(by exact hf0),hint_bool (h1),trivial⟩ fun a w h=>then_normal ?_
  refine at_test true h (by kernel_rfl) (fun hh=>?_) (fun hh=>nomatch hh)
  refine wp_seq ?_
  refine at_regq [] { ts:=[2,3,4],os:=[1,2] } [] gamOK hT h (by kernel_rfl) trivial fun a w h=>then_normal (wp_ret (then_ret ?_))
  exact at_return (false,()) [] h (by kernel_rfl) trivial (congrArg (fun z=>(z,())) (show (false)=isPa x0 x1 from by first | exact isPa_n (by first | (left;assumption) | (right;left;omega) | (right;right;assumption)) | exact isPa_y hvv (by omega) (by assumption) | (simp_all;done)))
 ·have hzh1 : (validGr x0) = true := notF h1
  have hvv:validGr x0=true:=by assumption
  have hE:=gr_EOK hvv
  have hsz:=hE.szb
  refine at_regq [{},{},{ hint:=some (aB false) }] { ts:=[2,3,4,14],os:=[1,2] } [Q_spec_IsValidGraph x0,(AV.p (.c (.v (.bool (!(validGr x0)))))=AV.p (.c (.v (.bool false))))] gamOK hT h (by kernel_rfl) ⟨(by exact hf0),hint_bool (h1),trivial⟩ fun a w h=>then_normal ?_
  refine at_test (decide (((List.length x1:Nat):Int)=0)) h (by kernel_rfl) (fun h2=>?_) (fun h2=>?_)
  ·replace h2 : ((List.length x1 : Nat) : Int) = 0 := of_decide_eq_true h2
   refine wp_seq ?_
   refine at_regq [] { ts:=[2,3,4],os:=[1,2] } [] gamOK hT h (by kernel_rfl) trivial fun a w h=>then_normal (wp_ret (then_ret ?_))
   exact at_return (false,()) [] h (by kernel_rfl) trivial (congrArg (fun z=>(z,())) (show (false)=isPa x0 x1 from by first | exact isPa_n (by first | (left;assumption) | (right;left;omega) | (right;right;assumption)) | exact isPa_y hvv (by omega) (by assumption) | (simp_all;done)))
  ·replace h2 : ¬ (((List.length x1 : Nat) : Int) = 0) := of_decide_eq_false h2
   refine wp_skip (then_normal (wp_seq (wp_seq ?_)))
   refine at_regq [] { ts:=[2,3,4,5],os:=[1,2] } [] gamOK hT h (by kernel_rfl) trivial fun a w h=>then_normal (wp_block ?_)
   replace h:=at_out (σ':=⟨[(2,aP 1 0),(3,aP 2 0),(4,aB false),(5,aI 0)],[(1,oX 26 [cI x0.1,.ro s58 x0.2]),(2,oX 37 [.ro (.int 3) x1])]⟩) { ts:=[2,3,4,5],os:=[1,2] } h (by kernel_rfl)
   refine at_loop (fun i:Nat=>(⟨[(2,aP 1 0),(3,aP 2 0),(4,aB false),(5,aI ((i:Nat):Int))],[(1,oX 26 [cI x0.1,.ro s58 x0.2]),(2,oX 37 [.ro (.int 3) x1])]⟩:St)) (fun i=>(i≤(List.length x1)∧allN (pB x0 x1) i=true)) (fun i=>(List.length x1) - i) (0) h (st_congr1 (fun (d0:Int)=>(⟨[(2,aP 1 0),(3,aP 2 0),(4,aB false),(5,aI d0)],[(1,oX 26 [cI x0.1,.ro s58 x0.2]),(2,oX 37 [.ro (.int 3) x1])]⟩:St)) (show (0:Int)=(((0):Nat):Int) from by first | with_reducible rfl | (rfl) | rfl)) (by exact ⟨Nat.zero_le _,rfl⟩) ?_
   intro i a w hok0 h
   refine wp_seq (wp_seq ?_)
   refine at_regq [] { ts:=[2,3,4,5,19],os:=[1,2] } [] gamOK hT h (by kernel_rfl) trivial fun a w h=>then_normal ?_
   refine at_test (decide (((i:Nat):Int) < ((List.length x1:Nat):Int))) h (by kernel_rfl) (fun h3=>?_) (fun h3=>?_)
   ·replace h3 : ((i : Nat) : Int) < ((List.length x1 : Nat) : Int) := of_decide_eq_true h3
    refine wp_skip (then_normal (wp_seq (wp_block (wp_seq ?_))))
    rcases Bool.eq_false_or_eq_true (!(inR (x1.getD i 0) 0 (x0.1 - 1))) with h4 | h4
    ·have hzh4 : (inR (x1.getD i 0) 0 (x0.1 - 1)) = false := notT h4
     have hvh4:=inR_f (notT h4)
     refine at_anyq [{},{},{},{},{},{},{},{ nw:=true },{},{ hint:=some (aB true) },{},{},{},{},{},{},{},{},{},{},{},{},{},{},{},{},{},{},{},{},{},{},{},{},{},{},{},{},{},{},{},{}] { ts:=[2,3,4,5,33,34,35,36,37,38,39,40,41,42,45,46,47,48,49,50,51,52,53,54,55,56,57,58,59,60,61,62,63],os:=[1,2] } [(0:Int)≤((i:Nat):Int)∧((i:Nat):Int) < ((List.length x1:Nat):Int),I64 (x0.1 - 1),True,(AV.p (.c (.v (.bool (!(inR (x1.getD i 0) 0 (x0.1 - 1))))))=AV.p (.c (.v (.bool true))))] gamOK hT mixed h (by kernel_rfl) ⟨(by refine ⟨?_,?_⟩<;>(first | omega | (simp only [lsA];omega) | (simp<;>omega))),⟨by first | omega | (simp only [lsA];omega) | (simp<;>omega),by first | omega | (simp only [lsA];omega) | (simp<;>omega)⟩,trivial,hint_bool (h4),trivial⟩ fun a w h=>then_normal ?_
     refine at_test true h (by kernel_rfl) (fun hh=>?_) (fun hh=>nomatch hh)
     refine wp_seq ?_
     refine at_regq [] { ts:=[2,3,4,5,33,34,35,36,37,38,39,40,41,42,45,46,47,48,49,50,51,52,53,54,55,56,57,58,59,60,61,62],os:=[1,2] } [] gamOK hT h (by kernel_rfl) trivial fun a w h=>then_normal (wp_ret (in_ret (then_ret ?_)))
     have hs5:(allN (pB x0 x1) (List.length x1))=false:=by exact allN_at (i:=i) (by omega) (by exact pB_f (by first | (left;assumption) | (right;left;assumption) | (right;right;exact ⟨by omega,by assumption⟩)))
     refine then_ret (in_ret (then_ret ?_))
     exact at_return (false,()) [] h (by kernel_rfl) trivial (congrArg (fun z=>(z,())) (show (false)=isPa x0 x1 from by first | exact isPa_n (by first | (left;assumption) | (right;left;omega) | (right;right;assumption)) | exact isPa_y hvv (by omega) (by assumption) | (simp_all;done)))
    ·have hzh4 : (inR (x1.getD i 0) 0 (x0.1 - 1)) = true := notF h4
     have hvh4:=inR_t (notF h4)
     rcases Bool.eq_false_or_eq_true ((hasL (List.drop 0 (List.take i x1)) (x1.getD i 0))) with h6 | h6
     ·refine at_anyq [{}, {}, {}, {}, {}, {}, {}, { nw := true }, {}, { hint := some (aB false) }, {}, {}, {}, {}, {}, {}, {}, {}, {}, {}, { hint := some (aB true) }, {}, {}, {}, {}, {}, {}, {}, {}, {}, {}, {}, {}, {}, {}, {}, {}, {}, {}, {}, {}, {}] { ts := [2, 3, 4, 5, 33, 34, 35, 36, 37, 38, 39, 40, 41, 42, 45, 46, 47, 48, 49, 50, 51, 52, 53, 54, 55, 56, 57, 58, 59, 60, 61, 62, 63], os := [1, 2] } [(0 : Int) ≤ ((i : Nat) : Int) ∧ ((i : Nat) : Int) < ((List.length x1 : Nat) : Int), I64 (x0.1 - 1), True, (AV.p (.c (.v (.bool (!(inR (x1.getD i 0) 0 (x0.1 - 1)))))) = AV.p (.c (.v (.bool false)))), (0 : Int) ≤ 0 ∧ (0 : Int) ≤ ((i : Nat) : Int) ∧ ((i : Nat) : Int) ≤ ((List.length x1 : Nat) : Int), (0 : Int) ≤ ((i : Nat) : Int) ∧ ((i : Nat) : Int) < ((List.length x1 : Nat) : Int), Q_spec_l21Has (List.drop 0 (List.take i x1)) (x1.getD i 0), (AV.p (.c (.v (.bool ((hasL (List.drop 0 (List.take i x1)) (x1.getD i 0)))))) = AV.p (.c (.v (.bool true))))] gamOK hT mixed h (by kernel_rfl) ⟨(by refine ⟨?_, ?_⟩ <;> (first | omega | (simp only [lsA]; omega) | (simp <;> omega))), ⟨by first | omega | (simp only [lsA]; omega) | (simp <;> omega), by first | omega | (simp only [lsA]; omega) | (simp <;> omega)⟩, trivial, hint_bool (h4), (by refine ⟨?_, ?_, ?_⟩ <;> (first | omega | (simp only [lsA]; omega) | (simp <;> omega))), (by refine ⟨?_, ?_⟩ <;> (first | omega | (simp only [lsA]; omega) | (simp <;> omega))), (by exact Sh.fit_len rfl (by rw [List.length_drop, List.length_take]; omega)), hint_bool (h6), trivial⟩ fun a w h => then_normal ?_
      refine at_test true h (by kernel_rfl) (fun hh=>?_) (fun hh=>nomatch hh)
      refine wp_seq ?_
      refine at_regq [] { ts:=[2,3,4,5,33,34,35,36,37,38,39,40,41,42,45,46,47,48,49,50,51,52,53,54,55,56,57,58,59,60,61,62],os:=[1,2] } [] gamOK hT h (by kernel_rfl) trivial fun a w h=>then_normal (wp_ret (in_ret (then_ret ?_)))
      have hs7:(allN (pB x0 x1) (List.length x1))=false:=by exact allN_at (i:=i) (by omega) (by exact pB_f (by first | (left;assumption) | (right;left;assumption) | (right;right;exact ⟨by omega,by assumption⟩)))
      refine then_ret (in_ret (then_ret ?_))
      exact at_return (false,()) [] h (by kernel_rfl) trivial (congrArg (fun z=>(z,())) (show (false)=isPa x0 x1 from by first | exact isPa_n (by first | (left;assumption) | (right;left;omega) | (right;right;assumption)) | exact isPa_y hvv (by omega) (by assumption) | (simp_all;done)))
     ·by_cases h8 : ((i : Nat) : Int) > 0
      ·refine at_anyq [{}, {}, {}, {}, {}, {}, {}, { nw := true }, {}, { hint := some (aB false) }, {}, {}, {}, {}, {}, {}, {}, {}, {}, {}, { hint := some (aB false) }, {}, {}, {}, { hint := some (aB true) }, {}, {}, {}, {}, {}, { nw := true }, {}, {}, {}, {}, {}, {}, {}, {}, {}, {}, {}] { ts := [2, 3, 4, 5, 33, 34, 35, 36, 37, 38, 39, 40, 41, 42, 45, 46, 47, 48, 49, 50, 51, 52, 53, 54, 55, 56, 57, 58, 59, 60, 61, 62, 63], os := [1, 2] } [(0 : Int) ≤ ((i : Nat) : Int) ∧ ((i : Nat) : Int) < ((List.length x1 : Nat) : Int), I64 (x0.1 - 1), True, (AV.p (.c (.v (.bool (!(inR (x1.getD i 0) 0 (x0.1 - 1)))))) = AV.p (.c (.v (.bool false)))), (0 : Int) ≤ 0 ∧ (0 : Int) ≤ ((i : Nat) : Int) ∧ ((i : Nat) : Int) ≤ ((List.length x1 : Nat) : Int), (0 : Int) ≤ ((i : Nat) : Int) ∧ ((i : Nat) : Int) < ((List.length x1 : Nat) : Int), Q_spec_l21Has (List.drop 0 (List.take i x1)) (x1.getD i 0), (AV.p (.c (.v (.bool ((hasL (List.drop 0 (List.take i x1)) (x1.getD i 0)))))) = AV.p (.c (.v (.bool false)))), (AV.p (.c (.v (.bool (decide (((i : Nat) : Int) > 0))))) = AV.p (.c (.v (.bool true)))), I64 (((i : Nat) : Int) - 1), (0 : Int) ≤ ((i : Nat) : Int) - 1 ∧ ((i : Nat) : Int) - 1 < ((List.length x1 : Nat) : Int), (0 : Int) ≤ ((i : Nat) : Int) ∧ ((i : Nat) : Int) < ((List.length x1 : Nat) : Int), Q_spec_EdgeBetween x0 (x1.getD ((((i : Nat) : Int) - 1).toNat) 0) (x1.getD i 0)] gamOK hT mixed h (by kernel_rfl) ⟨(by refine ⟨?_, ?_⟩ <;> (first | omega | (simp only [lsA]; omega) | (simp <;> omega))), ⟨by first | omega | (simp only [lsA]; omega) | (simp <;> omega), by first | omega | (simp only [lsA]; omega) | (simp <;> omega)⟩, trivial, hint_bool (h4), (by refine ⟨?_, ?_, ?_⟩ <;> (first | omega | (simp only [lsA]; omega) | (simp <;> omega))), (by refine ⟨?_, ?_⟩ <;> (first | omega | (simp only [lsA]; omega) | (simp <;> omega))), (by exact Sh.fit_len rfl (by rw [List.length_drop, List.length_take]; omega)), hint_bool (h6), hint_bool (decide_eq_true h8), ⟨by first | omega | (simp only [lsA]; omega) | (simp <;> omega), by first | omega | (simp only [lsA]; omega) | (simp <;> omega)⟩, (by refine ⟨?_, ?_⟩ <;> (first | omega | (simp only [lsA]; omega) | (simp <;> omega))), (by refine ⟨?_, ?_⟩ <;> (first | omega | (simp only [lsA]; omega) | (simp <;> omega))), (by exact hf0), trivial⟩ fun a w h => then_normal ?_
       refine at_test (decide ((ebF x0.2 (x1.getD ((((i:Nat):Int) - 1).toNat) 0) (x1.getD i 0)) < 0)) h (by kernel_rfl) (fun h9=>?_) (fun h9=>?_)
       ·replace h9 : (ebF x0.2 (x1.getD ((((i : Nat) : Int) - 1).toNat) 0) (x1.getD i 0)) < 0 := of_decide_eq_true h9
        refine wp_seq ?_
        refine at_regq [] { ts:=[2,3,4,5,33,34,35,36,37,38,39,40,41,42,45,46,47,48,49,50,51,52,53,54,55,56,57,58,59,60,61,62],os:=[1,2] } [] gamOK hT h (by kernel_rfl) trivial fun a w h=>then_normal (wp_ret (in_ret (then_ret ?_)))
        have hs10:(allN (pB x0 x1) (List.length x1))=false:=by exact allN_at (i:=i) (by omega) (by exact pB_f (by first | (left;assumption) | (right;left;assumption) | (right;right;exact ⟨by omega,by assumption⟩)))
        refine then_ret (in_ret (then_ret ?_))
        exact at_return (false,()) [] h (by kernel_rfl) trivial (congrArg (fun z=>(z,())) (show (false)=isPa x0 x1 from by first | exact isPa_n (by first | (left;assumption) | (right;left;omega) | (right;right;assumption)) | exact isPa_y hvv (by omega) (by assumption) | (simp_all;done)))
       ·replace h9 : ¬ ((ebF x0.2 (x1.getD ((((i : Nat) : Int) - 1).toNat) 0) (x1.getD i 0)) < 0) := of_decide_eq_false h9
        refine wp_skip (in_normal (then_normal ?_))
        refine at_regq [{},{ nw:=true }] { ts:=[2,3,4,5,33,34,35,36,37,38,39,40,41,42,45,46,47,48,49,50,51,52,53,54,55,56,57,58,59,60,61,62],os:=[1,2] } [I64 (((i:Nat):Int)+1)] gamOK hT h (by kernel_rfl) ⟨⟨by first | omega | (simp only [lsA];omega) | (simp<;>omega),by first | omega | (simp only [lsA];omega) | (simp<;>omega)⟩,trivial⟩ fun a w h=>?_
        replace h:=at_out (σ':=⟨[(2,aP 1 0),(3,aP 2 0),(4,aB false),(5,aI (((i:Nat):Int)+1))],[(1,oX 26 [cI x0.1,.ro s58 x0.2]),(2,oX 37 [.ro (.int 3) x1])]⟩) { ts:=[2,3,4,5],os:=[1,2] } h (by kernel_rfl)
        exact ⟨i+1,at_eq h (st_congr1 (fun (d0:Int)=>(⟨[(2,aP 1 0),(3,aP 2 0),(4,aB false),(5,aI d0)],[(1,oX 26 [cI x0.1,.ro s58 x0.2]),(2,oX 37 [.ro (.int 3) x1])]⟩:St)) (show (((i:Nat):Int)+1:Int)=(((i+1):Nat):Int) from by first | with_reducible rfl | (omega) | rfl)),(by exact ⟨by omega,allN_succ hok0.2 (by exact pB_t (by assumption) (by assumption) (by first | (left;omega) | (right;assumption)))⟩),(by omega)⟩
      ·refine at_anyq [{}, {}, {}, {}, {}, {}, {}, { nw := true }, {}, { hint := some (aB false) }, {}, {}, {}, {}, {}, {}, {}, {}, {}, {}, { hint := some (aB false) }, {}, {}, {}, { hint := some (aB false) }, {}, {}, {}, {}, {}, {}, {}, {}, {}, {}, {}, {}, {}, {}, {}, {}, {}] { ts := [2, 3, 4, 5, 33, 34, 35, 36, 37, 38, 39, 40, 41, 42, 45, 46, 47, 48, 49, 50, 51, 52, 53, 54, 55, 56, 57, 58, 59, 60, 61, 62, 63], os := [1, 2] } [(0 : Int) ≤ ((i : Nat) : Int) ∧ ((i : Nat) : Int) < ((List.length x1 : Nat) : Int), I64 (x0.1 - 1), True, (AV.p (.c (.v (.bool (!(inR (x1.getD i 0) 0 (x0.1 - 1)))))) = AV.p (.c (.v (.bool false)))), (0 : Int) ≤ 0 ∧ (0 : Int) ≤ ((i : Nat) : Int) ∧ ((i : Nat) : Int) ≤ ((List.length x1 : Nat) : Int), (0 : Int) ≤ ((i : Nat) : Int) ∧ ((i : Nat) : Int) < ((List.length x1 : Nat) : Int), Q_spec_l21Has (List.drop 0 (List.take i x1)) (x1.getD i 0), (AV.p (.c (.v (.bool ((hasL (List.drop 0 (List.take i x1)) (x1.getD i 0)))))) = AV.p (.c (.v (.bool false)))), (AV.p (.c (.v (.bool (decide (((i : Nat) : Int) > 0))))) = AV.p (.c (.v (.bool false))))] gamOK hT mixed h (by kernel_rfl) ⟨(by refine ⟨?_, ?_⟩ <;> (first | omega | (simp only [lsA]; omega) | (simp <;> omega))), ⟨by first | omega | (simp only [lsA]; omega) | (simp <;> omega), by first | omega | (simp only [lsA]; omega) | (simp <;> omega)⟩, trivial, hint_bool (h4), (by refine ⟨?_, ?_, ?_⟩ <;> (first | omega | (simp only [lsA]; omega) | (simp <;> omega))), (by refine ⟨?_, ?_⟩ <;> (first | omega | (simp only [lsA]; omega) | (simp <;> omega))), (by exact Sh.fit_len rfl (by rw [List.length_drop, List.length_take]; omega)), hint_bool (h6), hint_bool (decide_eq_false h8), trivial⟩ fun a w h => then_normal ?_
       refine at_test false h (by kernel_rfl) (fun hh=>nomatch hh) (fun hh=>?_)
       refine wp_skip (in_normal (then_normal ?_))
       refine at_regq [{},{ nw:=true }] { ts:=[2,3,4,5,33,34,35,36,37,38,39,40,41,42,45,46,47,48,49,50,51,52,53,54,55,56,57,58,59,60,61,62],os:=[1,2] } [I64 (((i:Nat):Int)+1)] gamOK hT h (by kernel_rfl) ⟨⟨by first | omega | (simp only [lsA];omega) | (simp<;>omega),by first | omega | (simp only [lsA];omega) | (simp<;>omega)⟩,trivial⟩ fun a w h=>?_
       replace h:=at_out (σ':=⟨[(2,aP 1 0),(3,aP 2 0),(4,aB false),(5,aI (((i:Nat):Int)+1))],[(1,oX 26 [cI x0.1,.ro s58 x0.2]),(2,oX 37 [.ro (.int 3) x1])]⟩) { ts:=[2,3,4,5],os:=[1,2] } h (by kernel_rfl)
       exact ⟨i+1,at_eq h (st_congr1 (fun (d0:Int)=>(⟨[(2,aP 1 0),(3,aP 2 0),(4,aB false),(5,aI d0)],[(1,oX 26 [cI x0.1,.ro s58 x0.2]),(2,oX 37 [.ro (.int 3) x1])]⟩:St)) (show (((i:Nat):Int)+1:Int)=(((i+1):Nat):Int) from by first | with_reducible rfl | (omega) | rfl)),(by exact ⟨by omega,allN_succ hok0.2 (by exact pB_t (by assumption) (by assumption) (by first | (left;omega) | (right;assumption)))⟩),(by omega)⟩
   ·replace h3 : ¬ (((i : Nat) : Int) < ((List.length x1 : Nat) : Int)) := of_decide_eq_false h3
    refine wp_exit (then_exit ?_)
    have hs11:(allN (pB x0 x1) (List.length x1))=true:=by exact allN_eq (by omega) hok0.1 hok0.2
    refine then_exit (in_hit (then_normal (wp_seq ?_)))
    refine at_regq [] { ts:=[4],os:=[] } [] gamOK hT h (by kernel_rfl) trivial fun a w h=>then_normal (wp_ret ?_)
    exact at_return (true,()) [] h (by kernel_rfl) trivial (congrArg (fun z=>(z,())) (show (true)=isPa x0 x1 from by first | exact isPa_n (by first | (left;assumption) | (right;left;omega) | (right;right;assumption)) | exact isPa_y hvv (by omega) (by assumption) | (simp_all;done)))

end Go.Proofs.Ytmcpigcpachdkaa
