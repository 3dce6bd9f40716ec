/- The walks of the functions that the law reaches: each summary holds. No condition. -/
import Derived.Test.YtgeonngfipikeaaFnRecoding2
import Derived.Test.YtgeonngfipikeaaLA
import Derived.Test.YtgeonngfipikeaaProg
namespace Go.Proofs.Ytgeonngfipikeaa
open Go.RowKit
set_option linter.unusedVariables false
set_option linter.unusedSimpArgs false
abbrev Q__P_impl_Recoder_accept:=(fun (x0:T54) (x1:T38)=>Sh.fit s54 x0∧Sh.fit s38 x1∧recP x0)
def S__P_impl_Recoder_accept:Sum:={ fid:=59,dom:=[s54,s38],cod:=[(.bool 4)],dp:=true,fz:=false,pre:=fun x=>Q__P_impl_Recoder_accept x.1 x.2.1,g:=fun x=>((accOK x.1 x.2.1),()),kinds:=[(.bx 54 0),.rd],upd:=fun x=>(accU x.1 x.2.1,(x.2.1,())) }
def S__P_impl_Recoder_accept_tab:List (Nat×Sum):=[(52,S_impl_IsValidPacket),(51,S_impl_NewBasis),(53,S__P_impl_Basis_insert),(84,S__impl_CodedPacket_clone)]
theorem S__P_impl_Recoder_accept_ok:FnOK Try.prog 59 S__P_impl_Recoder_accept:=by
 refine at_enterI 69 [1,2] [3] (fun us x=>⟨[(0,aP 1 0),(1,aG [cI x.2.1.1,.ro (.int 3) x.2.1.2.1,.ro (.int 3) x.2.1.2.2])],[(1,oX 54 [cI x.1.1,cI x.1.2.1,cI x.1.2.2.1,.sl 2,cI x.1.2.2.2.2]),(2,oR s38 x.1.2.2.2.1),(3,oP 1 (S__P_impl_Recoder_accept.hd us 0))]⟩) Try.func59 rfl (by kernel_rfl) (fun us x=>rfl) ?_
 rintro w0 Z0 us ⟨x0,x1,u⟩ L a w
 revert x0 x1
 intro (x0:T54) (x1:T38) hio hpre hlens h
 replace h:At w0 Z0 L 69 ⟨[(0,aP 1 0),(1,aG [cI x1.1,.ro (.int 3) x1.2.1,.ro (.int 3) x1.2.2])],[(1,oX 54 [cI x0.1,cI x0.2.1,cI x0.2.2.1,.sl 2,cI x0.2.2.2.2]),(2,oR s38 x0.2.2.2.1),(3,oP 1 (S__P_impl_Recoder_accept.hd us 0))]⟩ a w:=h
 replace hpre:Q__P_impl_Recoder_accept x0 x1:=hpre
 have hT:TabOK Try.prog S__P_impl_Recoder_accept_tab:=(.cons S_impl_IsValidPacket_ok (.cons S_impl_NewBasis_ok (.cons S__P_impl_Basis_insert_ok (.cons S__impl_CodedPacket_clone_ok .nil))))
 obtain ⟨hf0,hf1,hpx⟩:=hpre
 have hn0_1:List.length x0.2.2.2.1≤1073741824:=hf0.2.2.2.1.1
 have hn1_2:List.length x1.2.1≤1073741824:=hf1.2.1.1
 have hn1_3:List.length x1.2.2≤1073741824:=hf1.2.2.1
 have hpl:=hpx.1
 refine wp_seq ?_
 refine at_regq [{ ids:=[4] }] { ts:=[0,3,4],os:=[1,2,3,4] } [] gamOK hT h (by kernel_rfl) trivial fun a w h=>then_normal (wp_seq (wp_seq ?_))
 by_cases h1:((List.length x0.2.2.2.1:Nat):Int)=8
 ·refine at_anyq [{}, {}, {}, {}, {}, { hint := some (aB true) }, {}, {}, {}, {}, {}, {}, {}, {}, {}, {}, {}, {}, {}, {}, {}, {}, {}, {}, {}, {}, {}, {}] { ts := [0, 3, 4, 35], os := [1, 2, 3, 4] } [(AV.p (.c (.v (.bool (decide (((List.length x0.2.2.2.1 : Nat) : Int) = 8))))) = AV.p (.c (.v (.bool true))))] gamOK hT mixed h (by kernel_rfl) ⟨hint_bool (decide_eq_true h1), trivial⟩ fun a w h => then_normal ?_
  refine at_test true h (by kernel_rfl) (fun hh=>?_) (fun hh=>nomatch hh)
  refine wp_seq ?_
  refine at_regq [] { ts:=[0,3,4],os:=[1,2,3,4] } [] gamOK hT h (by kernel_rfl) trivial fun a w h=>then_normal (wp_ret (then_ret ?_))
  exact at_returnI (S:=S__P_impl_Recoder_accept) (x:=(x0,x1,())) [1,2] [3] (x0,(x1,())) (some (false,())) [S__P_impl_Recoder_accept.hd us 0=S__P_impl_Recoder_accept.hd us 0] hio h (by kernel_rfl) ⟨rfl,trivial⟩ (by first | rfl | exact congrArg (fun (z:T54)=>(z,(x1,()))) (show (x0:T54)=accU x0 x1 from by (first | (rw [accU_no (accOK_f (by first | (left;omega) | (right;left;assumption) | (right;right;left;omega) | (right;right;right;rw [← hie];assumption)))];done) | (rw [accU_yes (accOK_t (by omega) (by assumption) (by omega) (by rw [← hie];assumption))];done)))) (fun z e=>(Option.some.inj e) ▸ (congrArg (fun z=>(z,())) (show (false)=accOK x0 x1 from by (first | exact (accOK_f (by first | (left;omega) | (right;left;assumption) | (right;right;left;omega) | (right;right;right;rw [← hie];assumption))).symm | exact (accOK_t (by omega) (by assumption) (by omega) (by rw [← hie];assumption)).symm))))
 ·rcases Bool.eq_false_or_eq_true (!(validP x1 x0.2.1 x0.2.2.1)) with h2 | h2
  ·have hzh2 : (validP x1 x0.2.1 x0.2.2.1) = false := notT h2
   refine at_anyq [{},{},{},{},{},{ hint:=some (aB false) },{},{},{},{},{},{},{},{},{},{},{},{ hint:=some (aB true) },{},{},{},{},{},{},{},{},{},{}] { ts:=[0,3,4,35],os:=[1,2,3,4] } [(AV.p (.c (.v (.bool (decide (((List.length x0.2.2.2.1:Nat):Int)=8)))))=AV.p (.c (.v (.bool false)))),Q_impl_IsValidPacket x1 x0.2.1 x0.2.2.1,(AV.p (.c (.v (.bool (!(validP x1 x0.2.1 x0.2.2.1)))))=AV.p (.c (.v (.bool true))))] gamOK hT mixed h (by kernel_rfl) ⟨hint_bool (decide_eq_false h1),(by exact hf1),hint_bool (h2),trivial⟩ fun a w h=>then_normal ?_
   refine at_test true h (by kernel_rfl) (fun hh=>?_) (fun hh=>nomatch hh)
   refine wp_seq ?_
   refine at_regq [] { ts:=[0,3,4],os:=[1,2,3,4] } [] gamOK hT h (by kernel_rfl) trivial fun a w h=>then_normal (wp_ret (then_ret ?_))
   exact at_returnI (S:=S__P_impl_Recoder_accept) (x:=(x0,x1,())) [1,2] [3] (x0,(x1,())) (some (false,())) [S__P_impl_Recoder_accept.hd us 0=S__P_impl_Recoder_accept.hd us 0] hio h (by kernel_rfl) ⟨rfl,trivial⟩ (by first | rfl | exact congrArg (fun (z:T54)=>(z,(x1,()))) (show (x0:T54)=accU x0 x1 from by (first | (rw [accU_no (accOK_f (by first | (left;omega) | (right;left;assumption) | (right;right;left;omega) | (right;right;right;rw [← hie];assumption)))];done) | (rw [accU_yes (accOK_t (by omega) (by assumption) (by omega) (by rw [← hie];assumption))];done)))) (fun z e=>(Option.some.inj e) ▸ (congrArg (fun z=>(z,())) (show (false)=accOK x0 x1 from by (first | exact (accOK_f (by first | (left;omega) | (right;left;assumption) | (right;right;left;omega) | (right;right;right;rw [← hie];assumption))).symm | exact (accOK_t (by omega) (by assumption) (by omega) (by rw [← hie];assumption)).symm))))
  ·have hzh2 : (validP x1 x0.2.1 x0.2.2.1) = true := notF h2
   have hvh2:=validP_n (notF h2)
   refine at_anyq [{},{},{},{},{},{ hint:=some (aB false) },{},{},{},{},{},{},{},{},{},{},{},{ hint:=some (aB false) },{},{},{},{},{},{},{},{},{},{}] { ts:=[0,3,4,35],os:=[1,2,3,4] } [(AV.p (.c (.v (.bool (decide (((List.length x0.2.2.2.1:Nat):Int)=8)))))=AV.p (.c (.v (.bool false)))),Q_impl_IsValidPacket x1 x0.2.1 x0.2.2.1,(AV.p (.c (.v (.bool (!(validP x1 x0.2.1 x0.2.2.1)))))=AV.p (.c (.v (.bool false))))] gamOK hT mixed h (by kernel_rfl) ⟨hint_bool (decide_eq_false h1),(by exact hf1),hint_bool (h2),trivial⟩ fun a w h=>then_normal ?_
   refine at_test (!decide (x1.1=x0.1)) h (by kernel_rfl) (fun h3=>?_) (fun h3=>?_)
   ·replace h3 : ¬ (x1.1 = x0.1) := of_decide_eq_false (notT h3)
    refine wp_seq ?_
    refine at_regq [] { ts:=[0,3,4],os:=[1,2,3,4] } [] gamOK hT h (by kernel_rfl) trivial fun a w h=>then_normal (wp_ret (then_ret ?_))
    exact at_returnI (S:=S__P_impl_Recoder_accept) (x:=(x0,x1,())) [1,2] [3] (x0,(x1,())) (some (false,())) [S__P_impl_Recoder_accept.hd us 0=S__P_impl_Recoder_accept.hd us 0] hio h (by kernel_rfl) ⟨rfl,trivial⟩ (by first | rfl | exact congrArg (fun (z:T54)=>(z,(x1,()))) (show (x0:T54)=accU x0 x1 from by (first | (rw [accU_no (accOK_f (by first | (left;omega) | (right;left;assumption) | (right;right;left;omega) | (right;right;right;rw [← hie];assumption)))];done) | (rw [accU_yes (accOK_t (by omega) (by assumption) (by omega) (by rw [← hie];assumption))];done)))) (fun z e=>(Option.some.inj e) ▸ (congrArg (fun z=>(z,())) (show (false)=accOK x0 x1 from by (first | exact (accOK_f (by first | (left;omega) | (right;left;assumption) | (right;right;left;omega) | (right;right;right;rw [← hie];assumption))).symm | exact (accOK_t (by omega) (by assumption) (by omega) (by rw [← hie];assumption)).symm))))
   ·replace h3 : x1.1 = x0.1 := of_decide_eq_true (notF h3)
    refine wp_skip (then_normal (wp_seq ?_))
    refine at_regq [{},{},{},{},{ ids:=[5] },{ ids:=[6] }] { ts:=[0,3,4,5],os:=[1,2,3,4,5,6] } [True] gamOK hT h (by kernel_rfl) ⟨trivial,trivial⟩ fun a w h=>then_normal (wp_seq (wp_seq ?_))
    refine at_regq [] { ts:=[0,3,4,5,44,45,46],os:=[1,2,3,4,5,6] } [] gamOK hT h (by kernel_rfl) trivial fun a w h=>then_normal (wp_block ?_)
    replace h:=at_out (σ':=⟨[(0,aP 1 0),(3,aP 4 0),(4,aB false),(5,aP 6 0),(44,aS 2),(45,aI ((List.length x0.2.2.2.1:Nat):Int)),(46,aI 0)],[(1,oX 54 [cI x0.1,cI x0.2.1,cI x0.2.2.1,.sl 2,cI x0.2.2.2.2]),(2,oR s38 x0.2.2.2.1),(3,oP 1 (S__P_impl_Recoder_accept.hd us 0)),(4,oX 38 [cI x1.1,.ro (.int 3) x1.2.1,.ro (.int 3) x1.2.2]),(5,oR s33 (newBas x0.2.1).2),(6,oX 28 [cI (newBas x0.2.1).1,.sl 5])]⟩) { ts:=[0,3,4,5,44,45,46],os:=[1,2,3,4,5,6] } h (by kernel_rfl)
    refine at_loop (fun i:Nat=>(⟨[(0,aP 1 0),(3,aP 4 0),(4,aB false),(5,aP 6 0),(44,aS 2),(45,aI ((List.length x0.2.2.2.1:Nat):Int)),(46,aI ((i:Nat):Int))],[(1,oX 54 [cI x0.1,cI x0.2.1,cI x0.2.2.1,.sl 2,cI x0.2.2.2.2]),(2,oR s38 x0.2.2.2.1),(3,oP 1 (S__P_impl_Recoder_accept.hd us 0)),(4,oX 38 [cI x1.1,.ro (.int 3) x1.2.1,.ro (.int 3) x1.2.2]),(5,oR s33 (LA.insTo (cofs x0.2.2.2.1) i)),(6,oX 28 [cI x0.2.1,.sl 5])]⟩:St)) (fun i=>i≤(List.length x0.2.2.2.1)) (fun i=>(List.length x0.2.2.2.1) - i) (0) h (st_congr4 (fun (d0:Int) (d1:List (List Int)) (d2:List T38) (d3:Int)=>(⟨[(0,aP 1 0),(3,aP 4 0),(4,aB false),(5,aP 6 0),(44,aS 2),(45,aI ((List.length x0.2.2.2.1:Nat):Int)),(46,aI d3)],[(1,oX 54 [cI x0.1,cI x0.2.1,cI x0.2.2.1,.sl 2,cI x0.2.2.2.2]),(2,oR s38 d2),(3,oP 1 (S__P_impl_Recoder_accept.hd us 0)),(4,oX 38 [cI x1.1,.ro (.int 3) x1.2.1,.ro (.int 3) x1.2.2]),(5,oR s33 d1),(6,oX 28 [cI d0,.sl 5])]⟩:St)) (show ((newBas x0.2.1).1:Int)=x0.2.1 from by first | with_reducible rfl | (first | rfl | (rw [newBas_at (by omega)];done) | (rw [newBas_at (by omega)];rfl)) | rfl) (show ((newBas x0.2.1).2:List (List Int))=(LA.insTo (cofs x0.2.2.2.1) (0)) from by first | with_reducible rfl | (first | rfl | (rw [newBas_at (by omega)];done) | (rw [newBas_at (by omega)];rfl)) | rfl) (show (x0.2.2.2.1:List T38)=x0.2.2.2.1 from by first | with_reducible rfl | (first | rfl | (rw [newBas_at (by omega)];done) | (rw [newBas_at (by omega)];rfl)) | rfl) (show (0:Int)=(((0):Nat):Int) from by first | with_reducible rfl | (first | rfl | (rw [newBas_at (by omega)];done) | (rw [newBas_at (by omega)];rfl)) | rfl)) (by omega) ?_
    intro i a w hok0 h
    refine wp_seq ?_
    refine at_regq [] { ts:=[0,3,4,5,44,45,46,47],os:=[1,2,3,4,5,6] } [] gamOK hT h (by kernel_rfl) trivial fun a w h=>then_normal (wp_seq ?_)
    refine at_test (decide (((i:Nat):Int) < ((List.length x0.2.2.2.1:Nat):Int))) h (by kernel_rfl) (fun h4=>?_) (fun h4=>?_)
    ·replace h4 : ((i : Nat) : Int) < ((List.length x0.2.2.2.1 : Nat) : Int) := of_decide_eq_true h4
     have hrw:=recP_row hpx (show i < (List.length x0.2.2.2.1) by omega)
     have hbP:basP (x0.2.1,(LA.insTo (cofs x0.2.2.2.1) i)):=⟨by omega,recP_red hpx (by omega)⟩
     refine wp_skip (then_normal (wp_seq (wp_block (wp_seq ?_))))
     replace h:=at_open (σ':=⟨[(0,aP 1 0),(3,aP 4 0),(4,aB false),(5,aP 6 0),(44,aS 2),(45,aI ((List.length x0.2.2.2.1:Nat):Int)),(46,aI ((i:Nat):Int)),(47,aB (decide (((i:Nat):Int) < ((List.length x0.2.2.2.1:Nat):Int))))],[(1,oX 54 [cI x0.1,cI x0.2.1,cI x0.2.2.1,.sl 2,cI x0.2.2.2.2]),(2,some (.op s38 x0.2.2.2.1 i [cI (x0.2.2.2.1.getD i (0,([],[]))).1,.sl 7,.sl 8])),(3,oP 1 (S__P_impl_Recoder_accept.hd us 0)),(4,oX 38 [cI x1.1,.ro (.int 3) x1.2.1,.ro (.int 3) x1.2.2]),(5,oR s33 (LA.insTo (cofs x0.2.2.2.1) i)),(6,oX 28 [cI x0.2.1,.sl 5]),(7,oR (.int 3) (x0.2.2.2.1.getD i (0,([],[]))).2.1),(8,oR (.int 3) (x0.2.2.2.1.getD i (0,([],[]))).2.2)]⟩) (ps:=[i < List.length x0.2.2.2.1]) 2 i [7,8] { ts:=[0,3,4,5,44,45,46,47],os:=[1,2,3,4,5,6,7,8] } h (by kernel_rfl) ⟨(by first | omega | (simp only [lsA];omega) | (simp<;>omega)),trivial⟩
     refine at_regq [{},{},{ ids:=[9] }] { ts:=[0,3,4,5,7,44,45,46],os:=[1,2,3,4,5,6,7,8,9] } [(0:Int)≤((i:Nat):Int)∧((i:Nat):Int) < ((List.length x0.2.2.2.1:Nat):Int),i=i] gamOK hT h (by kernel_rfl) ⟨(by refine ⟨?_,?_⟩<;>(first | omega | (simp only [lsA];omega) | (simp<;>omega))),rfl,trivial⟩ fun a w h=>then_normal ?_
     refine at_regq [{},{},{ ids:=[10] }] { ts:=[0,3,4,5,44,45,46],os:=[1,2,3,4,6,7,8,10] } [Q__P_impl_Basis_insert (x0.2.1,(LA.insTo (cofs x0.2.2.2.1) i)) (x0.2.2.2.1.getD i (0,([],[]))).2.1] gamOK hT h (by kernel_rfl) ⟨(by exact ⟨basP_fit hbP,fitV hrw (by omega),hbP,hrw⟩),trivial⟩ fun a w h=>in_normal (then_normal ?_)
     refine at_regq [{ nw:=true }] { ts:=[0,3,4,5,44,45,46],os:=[1,2,3,4,6,7,8,10] } [I64 (((i:Nat):Int)+1)] gamOK hT h (by kernel_rfl) ⟨⟨by first | omega | (simp only [lsA];omega) | (simp<;>omega),by first | omega | (simp only [lsA];omega) | (simp<;>omega)⟩,trivial⟩ fun a w h=>?_
     replace h:=at_shut (σ':=⟨[(0,aP 1 0),(3,aP 4 0),(4,aB false),(5,aP 6 0),(44,aS 2),(45,aI ((List.length x0.2.2.2.1:Nat):Int)),(46,aI (((i:Nat):Int)+1))],[(1,oX 54 [cI x0.1,cI x0.2.1,cI x0.2.2.1,.sl 2,cI x0.2.2.2.2]),(2,oR s38 (List.set x0.2.2.2.1 i (x0.2.2.2.1.getD i (0,([],[]))))),(3,oP 1 (S__P_impl_Recoder_accept.hd us 0)),(4,oX 38 [cI x1.1,.ro (.int 3) x1.2.1,.ro (.int 3) x1.2.2]),(6,oX 28 [cI (insU (x0.2.1,(LA.insTo (cofs x0.2.2.2.1) i)) (x0.2.2.2.1.getD i (0,([],[]))).2.1).1,.sl 10]),(10,oR s33 (insU (x0.2.1,(LA.insTo (cofs x0.2.2.2.1) i)) (x0.2.2.2.1.getD i (0,([],[]))).2.1).2)]⟩) (ps:=[]) 2 { ts:=[0,3,4,5,44,45,46],os:=[1,2,3,4,6,10] } h (by kernel_rfl) trivial
     replace h:=at_out (σ':=⟨[(0,aP 1 0),(3,aP 4 0),(4,aB false),(5,aP 6 0),(44,aS 2),(45,aI ((List.length x0.2.2.2.1:Nat):Int)),(46,aI (((i:Nat):Int)+1))],[(1,oX 54 [cI x0.1,cI x0.2.1,cI x0.2.2.1,.sl 2,cI x0.2.2.2.2]),(2,oR s38 (List.set x0.2.2.2.1 i (x0.2.2.2.1.getD i (0,([],[]))))),(3,oP 1 (S__P_impl_Recoder_accept.hd us 0)),(4,oX 38 [cI x1.1,.ro (.int 3) x1.2.1,.ro (.int 3) x1.2.2]),(5,oR s33 (insU (x0.2.1,(LA.insTo (cofs x0.2.2.2.1) i)) (x0.2.2.2.1.getD i (0,([],[]))).2.1).2),(6,oX 28 [cI (insU (x0.2.1,(LA.insTo (cofs x0.2.2.2.1) i)) (x0.2.2.2.1.getD i (0,([],[]))).2.1).1,.sl 5])]⟩) { ts:=[0,3,4,5,44,45,46],os:=[1,2,3,4,10,6],rn:=[(10,5)] } h (by kernel_rfl)
     exact ⟨i+1,at_eq h (st_congr4 (fun (d0:Int) (d1:List (List Int)) (d2:List T38) (d3:Int)=>(⟨[(0,aP 1 0),(3,aP 4 0),(4,aB false),(5,aP 6 0),(44,aS 2),(45,aI ((List.length x0.2.2.2.1:Nat):Int)),(46,aI d3)],[(1,oX 54 [cI x0.1,cI x0.2.1,cI x0.2.2.1,.sl 2,cI x0.2.2.2.2]),(2,oR s38 d2),(3,oP 1 (S__P_impl_Recoder_accept.hd us 0)),(4,oX 38 [cI x1.1,.ro (.int 3) x1.2.1,.ro (.int 3) x1.2.2]),(5,oR s33 d1),(6,oX 28 [cI d0,.sl 5])]⟩:St)) (show ((insU (x0.2.1,(LA.insTo (cofs x0.2.2.2.1) i)) (x0.2.2.2.1.getD i (0,([],[]))).2.1).1:Int)=x0.2.1 from by first | with_reducible rfl | (rfl) | rfl) (show ((insU (x0.2.1,(LA.insTo (cofs x0.2.2.2.1) i)) (x0.2.2.2.1.getD i (0,([],[]))).2.1).2:List (List Int))=(LA.insTo (cofs x0.2.2.2.1) (i+1)) from by first | with_reducible rfl | (exact insTo_next (by omega)) | rfl) (show ((List.set x0.2.2.2.1 i (x0.2.2.2.1.getD i (0,([],[])))):List T38)=x0.2.2.2.1 from by first | with_reducible rfl | (exact set_self (by omega)) | rfl) (show (((i:Nat):Int)+1:Int)=(((i+1):Nat):Int) from by first | with_reducible rfl | (omega) | rfl)),(by omega),(by omega)⟩
    ·replace h4 : ¬ (((i : Nat) : Int) < ((List.length x0.2.2.2.1 : Nat) : Int)) := of_decide_eq_false h4
     have hie:i=(List.length x0.2.2.2.1):=by omega
     have hbP:basP (x0.2.1,(LA.insTo (cofs x0.2.2.2.1) i)):=⟨by omega,recP_red hpx (by omega)⟩
     have hpv:=validP_t (p:=x1) (by assumption)
     have hrw:LA.VokB x0.2.1.toNat x1.2.1:=⟨by have:=hpv.2.1;omega,(validV_t hpv.2.2.2.1).2.1⟩
     refine wp_exit (then_exit (then_exit (in_hit (then_normal (wp_seq (wp_seq ?_))))))
     refine at_regq [{},{},{ ids:=[11] }] { ts:=[0,3,4,57],os:=[1,2,3,4] } [Q__P_impl_Basis_insert (x0.2.1,(LA.insTo (cofs x0.2.2.2.1) i)) x1.2.1] gamOK hT h (by kernel_rfl) ⟨(by exact ⟨basP_fit hbP,fitV hrw (by omega),hbP,hrw⟩),trivial⟩ fun a w h=>then_normal ?_
     refine at_test (!(insD (x0.2.1,(LA.insTo (cofs x0.2.2.2.1) i)) x1.2.1)) h (by kernel_rfl) (fun h5=>?_) (fun h5=>?_)
     ·replace h5 : (insD (x0.2.1, (LA.insTo (cofs x0.2.2.2.1) i)) x1.2.1) = false := notT h5
      refine wp_seq ?_
      refine at_regq [] { ts:=[0,3,4],os:=[1,2,3,4] } [] gamOK hT h (by kernel_rfl) trivial fun a w h=>then_normal (wp_ret (then_ret ?_))
      exact at_returnI (S:=S__P_impl_Recoder_accept) (x:=(x0,x1,())) [1,2] [3] (x0,(x1,())) (some (false,())) [S__P_impl_Recoder_accept.hd us 0=S__P_impl_Recoder_accept.hd us 0] hio h (by kernel_rfl) ⟨rfl,trivial⟩ (by first | rfl | exact congrArg (fun (z:T54)=>(z,(x1,()))) (show (x0:T54)=accU x0 x1 from by (first | (rw [accU_no (accOK_f (by first | (left;omega) | (right;left;assumption) | (right;right;left;omega) | (right;right;right;rw [← hie];assumption)))];done) | (rw [accU_yes (accOK_t (by omega) (by assumption) (by omega) (by rw [← hie];assumption))];done)))) (fun z e=>(Option.some.inj e) ▸ (congrArg (fun z=>(z,())) (show (false)=accOK x0 x1 from by (first | exact (accOK_f (by first | (left;omega) | (right;left;assumption) | (right;right;left;omega) | (right;right;right;rw [← hie];assumption))).symm | exact (accOK_t (by omega) (by assumption) (by omega) (by rw [← hie];assumption)).symm))))
     ·replace h5 : (insD (x0.2.1, (LA.insTo (cofs x0.2.2.2.1) i)) x1.2.1) = true := notF h5
      refine wp_skip (then_normal (wp_seq ?_))
      refine at_anyq [{},{},{},{},{},{},{ ids:=[12,13] },{ ids:=[14] },{ ids:=[15] },{},{},{}] { ts:=[4],os:=[1,3,15] } [Q__impl_CodedPacket_clone x1,(List.length x0.2.2.2.1+List.length ([x1]))*56≤140737488355328] gamOK hT mixed h (by kernel_rfl) ⟨(by exact hf1),(by first | omega | (simp only [lsA];omega) | (simp<;>omega)),trivial⟩ fun a w h=>then_normal (wp_seq ?_)
      refine at_regq [] { ts:=[4],os:=[1,3,15] } [] gamOK hT h (by kernel_rfl) trivial fun a w h=>then_normal (wp_ret ?_)
      exact at_returnI (S:=S__P_impl_Recoder_accept) (x:=(x0,x1,())) [1,2] [3] ((x0.1,(x0.2.1,(x0.2.2.1,((x0.2.2.2.1++([x1])),x0.2.2.2.2)))),(x1,())) (some (true,())) [S__P_impl_Recoder_accept.hd us 0=S__P_impl_Recoder_accept.hd us 0] hio h (by kernel_rfl) ⟨rfl,trivial⟩ (by first | rfl | exact congrArg (fun (z:T54)=>(z,(x1,()))) (show ((x0.1,(x0.2.1,(x0.2.2.1,((x0.2.2.2.1++([x1])),x0.2.2.2.2)))):T54)=accU x0 x1 from by (first | (rw [accU_no (accOK_f (by first | (left;omega) | (right;left;assumption) | (right;right;left;omega) | (right;right;right;rw [← hie];assumption)))];done) | (rw [accU_yes (accOK_t (by omega) (by assumption) (by omega) (by rw [← hie];assumption))];done)))) (fun z e=>(Option.some.inj e) ▸ (congrArg (fun z=>(z,())) (show (true)=accOK x0 x1 from by (first | exact (accOK_f (by first | (left;omega) | (right;left;assumption) | (right;right;left;omega) | (right;right;right;rw [← hie];assumption))).symm | exact (accOK_t (by omega) (by assumption) (by omega) (by rw [← hie];assumption)).symm))))

abbrev Q_impl_AcceptPacket:=(fun (x0:T54) (x1:T38)=>Sh.fit s54 x0∧Sh.fit s38 x1)
def S_impl_AcceptPacket:Sum:={ fid:=29,dom:=[s54,s38],cod:=[s54,(.bool 4)],dp:=true,fz:=false,pre:=fun x=>Q_impl_AcceptPacket x.1 x.2.1,g:=fun x=>((acceptR x.1 x.2.1).1,((acceptR x.1 x.2.1).2,())) }
def S_impl_AcceptPacket_tab:List (Nat×Sum):=[(54,S__impl_Recoder_clone),(23,S_impl_IsValidRecoder),(59,S__P_impl_Recoder_accept)]
theorem S_impl_AcceptPacket_ok:FnOK Try.prog 29 S_impl_AcceptPacket:=by
 refine at_enter 18 (fun x=>⟨[(0,aG [cI x.1.1,cI x.1.2.1,cI x.1.2.2.1,.ro s38 x.1.2.2.2.1,cI x.1.2.2.2.2]),(1,aG [cI x.2.1.1,.ro (.int 3) x.2.1.2.1,.ro (.int 3) x.2.1.2.2])],[]⟩) Try.func29 rfl (by kernel_rfl) (fun x=>rfl) ?_
 rintro w0 Z0 ⟨x0,x1,u⟩ a w
 revert x0 x1
 intro (x0:T54) (x1:T38) hpre hlens h
 replace hpre:Q_impl_AcceptPacket x0 x1:=hpre
 have hT:TabOK Try.prog S_impl_AcceptPacket_tab:=(.cons S__impl_Recoder_clone_ok (.cons S_impl_IsValidRecoder_ok (.cons S__P_impl_Recoder_accept_ok .nil)))
 obtain ⟨hf0,hf1⟩:=hpre
 have hn0_1:List.length x0.2.2.2.1≤1073741824:=hf0.2.2.2.1.1
 have hn1_2:List.length x1.2.1≤1073741824:=hf1.2.1.1
 have hn1_3:List.length x1.2.2≤1073741824:=hf1.2.2.1
 refine wp_seq ?_
 refine at_regq [{ ids:=[1] },{ ids:=[2] },{ ids:=[3] }] { ts:=[2,3,4,5],os:=[1,2,3] } [] gamOK hT h (by kernel_rfl) trivial fun a w h=>then_normal (wp_seq ?_)
 refine at_regq [{},{ ids:=[4] },{ ids:=[5] }] { ts:=[2,3,4,5,6],os:=[1,2,3,4,5] } [Q__impl_Recoder_clone x0] gamOK hT h (by kernel_rfl) ⟨(by exact hf0),trivial⟩ fun a w h=>then_normal (wp_seq ?_)
 rcases Bool.eq_false_or_eq_true ((validR x0)) with h1 | h1
 ·have hvh1 := validR_t h1
  refine at_regq [{},{ hint:=some (aB true) },{},{},{ ids:=[6] }] { ts:=[4,5,6,7],os:=[3,5,6] } [Q_impl_IsValidRecoder x0,(AV.p (.c (.v (.bool ((validR x0)))))=AV.p (.c (.v (.bool true)))),Q__P_impl_Recoder_accept x0 x1] gamOK hT h (by kernel_rfl) ⟨(by exact hf0),hint_bool (h1),(by exact ⟨hf0,hf1,recP_of (by assumption)⟩),trivial⟩ fun a w h=>then_normal (wp_seq ?_)
  refine at_regq [] { ts:=[4,5],os:=[3,6] } [] gamOK hT h (by kernel_rfl) trivial fun a w h=>then_normal (wp_ret ?_)
  exact at_return ((accU x0 x1),((accOK x0 x1),())) [] h (by kernel_rfl) trivial (congrArg (fun z=>(z.1,z.2,())) (show (((accU x0 x1),(accOK x0 x1)))=acceptR x0 x1 from by (unfold acceptR;first | (rw [if_pos ⟨by assumption,by assumption⟩,show accOK x0 x1=true by assumption];done) | (rw [if_neg (by simp_all)];first | rfl | (rw [accU_no (by assumption)];done) | (rw [accU_no (by assumption)];simp_all)) | (cases ha:accOK x0 x1<;>simp_all [accU_no]))))
 ·refine at_regq [{}, { hint := some (aB false) }] { ts := [4, 5, 6, 7], os := [3, 4, 5] } [Q_impl_IsValidRecoder x0, (AV.p (.c (.v (.bool ((validR x0))))) = AV.p (.c (.v (.bool false))))] gamOK hT h (by kernel_rfl) ⟨(by exact hf0), hint_bool (h1), trivial⟩ fun a w h => then_normal (wp_seq ?_)
  refine at_regq [] { ts:=[4,5],os:=[3,4] } [] gamOK hT h (by kernel_rfl) trivial fun a w h=>then_normal (wp_ret ?_)
  exact at_return (x0,(false,())) [] h (by kernel_rfl) trivial (congrArg (fun z=>(z.1,z.2,())) (show ((x0,false))=acceptR x0 x1 from by (unfold acceptR;first | (rw [if_pos ⟨by assumption,by assumption⟩,show accOK x0 x1=true by assumption];done) | (rw [if_neg (by simp_all)];first | rfl | (rw [accU_no (by assumption)];done) | (rw [accU_no (by assumption)];simp_all)) | (cases ha:accOK x0 x1<;>simp_all [accU_no]))))

abbrev Q_spec_AcceptPacket:=(fun (x0:T54) (x1:T38)=>Sh.fit s54 x0∧Sh.fit s38 x1∧List.length x0.2.2.2.1≤1073741823)
def S_spec_AcceptPacket:Sum:={ fid:=78,dom:=[s54,s38],cod:=[s54,(.bool 4)],dp:=true,fz:=false,pre:=fun x=>Q_spec_AcceptPacket x.1 x.2.1,g:=fun x=>((acceptR x.1 x.2.1).1,((acceptR x.1 x.2.1).2,())) }
def S_spec_AcceptPacket_tab:List (Nat×Sum):=[(105,S_spec_l15Copy),(110,S_spec_l11Copy),(106,S_spec_IsValidRecoder)]
theorem S_spec_AcceptPacket_ok:FnOK Try.prog 78 S_spec_AcceptPacket:=by
 refine at_enter 22 (fun x=>⟨[(0,aG [cI x.1.1,cI x.1.2.1,cI x.1.2.2.1,.ro s38 x.1.2.2.2.1,cI x.1.2.2.2.2]),(1,aG [cI x.2.1.1,.ro (.int 3) x.2.1.2.1,.ro (.int 3) x.2.1.2.2])],[]⟩) Try.func78 rfl (by kernel_rfl) (fun x=>rfl) ?_
 rintro w0 Z0 ⟨x0,x1,u⟩ a w
 revert x0 x1
 intro (x0:T54) (x1:T38) hpre hlens h
 replace hpre:Q_spec_AcceptPacket x0 x1:=hpre
 have hT:TabOK Try.prog S_spec_AcceptPacket_tab:=(.cons S_spec_l15Copy_ok (.cons S_spec_l11Copy_ok (.cons S_spec_IsValidRecoder_ok .nil)))
 obtain ⟨hf0,hf1,hpx⟩:=hpre
 have hn0_1:List.length x0.2.2.2.1≤1073741824:=hf0.2.2.2.1.1
 have hn1_2:List.length x1.2.1≤1073741824:=hf1.2.1.1
 have hn1_3:List.length x1.2.2≤1073741824:=hf1.2.2.1
 refine wp_seq ?_
 refine at_regq [{ ids:=[1] },{ ids:=[2] },{ ids:=[3] }] { ts:=[2,3,4,5],os:=[1,2,3] } [] gamOK hT h (by kernel_rfl) trivial fun a w h=>then_normal (wp_seq ?_)
 refine at_regq [{},{ ids:=[4] },{ ids:=[5] }] { ts:=[2,3,4,5,6],os:=[1,2,3,4,5] } [Q_spec_l15Copy x0] gamOK hT h (by kernel_rfl) ⟨(by exact hf0),trivial⟩ fun a w h=>then_normal (wp_seq ?_)
 refine at_anyq [{},{},{},{ ids:=[6,7] },{ ids:=[8] },{ ids:=[9] },{},{}] { ts:=[2,4,5,6],os:=[1,3,5,9] } [Q_spec_l11Copy x1,(List.length x0.2.2.2.1+List.length ([x1]))*56≤140737488355328] gamOK hT mixed h (by kernel_rfl) ⟨(by exact hf1),(by first | omega | (simp only [lsA];omega) | (simp<;>omega)),trivial⟩ fun a w h=>then_normal (wp_seq (wp_seq ?_))
 refine at_regq [] { ts:=[2,4,5,6,18],os:=[1,3,5,9] } [Q_spec_IsValidRecoder (x0.1,(x0.2.1,(x0.2.2.1,((x0.2.2.2.1++([x1])),x0.2.2.2.2))))] gamOK hT h (by kernel_rfl) ⟨(by first | exact hf0 | exact ⟨trivial,trivial,trivial,fit_snoc hf0.2.2.2.1 hf1 hpx,trivial⟩),trivial⟩ fun a w h=>then_normal ?_
 refine at_test (!(validR (x0.1,(x0.2.1,(x0.2.2.1,((x0.2.2.2.1++([x1])),x0.2.2.2.2)))))) h (by kernel_rfl) (fun h1=>?_) (fun h1=>?_)
 ·replace h1 : (validR (x0.1, (x0.2.1, (x0.2.2.1, ((x0.2.2.2.1 ++ ([x1])), x0.2.2.2.2))))) = false := notT h1
  refine wp_seq ?_
  refine at_regq [{},{ ids:=[10] }] { ts:=[4,5,6],os:=[3,5,9,10] } [Q_spec_l15Copy x0] gamOK hT h (by kernel_rfl) ⟨(by exact hf0),trivial⟩ fun a w h=>then_normal (wp_ret (then_ret ?_))
  exact at_return (x0,(false,())) [] h (by kernel_rfl) trivial (congrArg (fun z=>(z.1,z.2,())) (show ((x0,false))=acceptR x0 x1 from by (first | (have hsn:=validR_snoc x0 x1;have ht:=hsn.symm.trans (by assumption:_=true);rw [Bool.and_eq_true] at ht;unfold acceptR;rw [if_pos ht,accU_yes ht.2];done) | (have hsn:=validR_snoc x0 x1;have ht:=hsn.symm.trans (by assumption:_=false);unfold acceptR;rw [if_neg (fun e=>by rw [e.1,e.2] at ht;cases ht)];done))))
 ·replace h1 : (validR (x0.1, (x0.2.1, (x0.2.2.1, ((x0.2.2.2.1 ++ ([x1])), x0.2.2.2.2))))) = true := notF h1
  have hvh1:=validR_t h1
  refine wp_skip (then_normal (wp_seq ?_))
  refine at_regq [] { ts:=[4,5],os:=[3,9] } [] gamOK hT h (by kernel_rfl) trivial fun a w h=>then_normal (wp_ret ?_)
  exact at_return ((x0.1,(x0.2.1,(x0.2.2.1,((x0.2.2.2.1++([x1])),x0.2.2.2.2)))),(true,())) [] h (by kernel_rfl) trivial (congrArg (fun z=>(z.1,z.2,())) (show (((x0.1,(x0.2.1,(x0.2.2.1,((x0.2.2.2.1++([x1])),x0.2.2.2.2)))),true))=acceptR x0 x1 from by (first | (have hsn:=validR_snoc x0 x1;have ht:=hsn.symm.trans (by assumption:_=true);rw [Bool.and_eq_true] at ht;unfold acceptR;rw [if_pos ht,accU_yes ht.2];done) | (have hsn:=validR_snoc x0 x1;have ht:=hsn.symm.trans (by assumption:_=false);unfold acceptR;rw [if_neg (fun e=>by rw [e.1,e.2] at ht;cases ht)];done))))

def validD (x0:T30):Bool:=(if (isFmt x0.1 x0.2.1 x0.2.2.1)=true then (if (validB x0.2.2.2)=true then (if x0.2.2.2.1=x0.2.1+x0.2.2.1 then (if (List.all x0.2.2.2.2 (fun r=>decide (LA.leadS r < x0.2.1)))=true then true else false) else false) else false) else false)
abbrev Q_impl_IsValidDecoder:=(fun (x0:T30)=>Sh.fit s30 x0)
def S_impl_IsValidDecoder:Sum:={ fid:=20,dom:=[s30],cod:=[(.bool 4)],dp:=true,fz:=false,pre:=fun x=>Q_impl_IsValidDecoder x.1,g:=fun x=>((validD x.1),()) }
def S_impl_IsValidDecoder_tab:List (Nat×Sum):=[(46,S_impl_isFormat),(47,S_impl_IsValidBasis),(48,S_impl_LeadingIndex)]
theorem S_impl_IsValidDecoder_ok:FnOK Try.prog 20 S_impl_IsValidDecoder:=by
 refine at_enter 44 (fun x=>⟨[(0,aG [cI x.1.1,cI x.1.2.1,cI x.1.2.2.1,cI x.1.2.2.2.1,.ro s33 x.1.2.2.2.2])],[]⟩) Try.func20 rfl (by kernel_rfl) (fun x=>rfl) ?_
 rintro w0 Z0 ⟨x0,u⟩ a w
 revert x0
 intro (x0:T30) hpre hlens h
 replace hpre:Q_impl_IsValidDecoder x0:=hpre
 have hT:TabOK Try.prog S_impl_IsValidDecoder_tab:=(.cons S_impl_isFormat_ok (.cons S_impl_IsValidBasis_ok (.cons S_impl_LeadingIndex_ok .nil)))
 have hf0:Sh.fit s30 x0:=hpre
 have hn0_1:List.length x0.2.2.2.2≤1073741824:=hf0.2.2.2.2.1
 refine wp_seq ?_
 refine at_regq [{ ids:=[1] }] { ts:=[1,2],os:=[1] } [] gamOK hT h (by kernel_rfl) trivial fun a w h=>then_normal (wp_seq (wp_seq ?_))
 rcases Bool.eq_false_or_eq_true (!(isFmt x0.1 x0.2.1 x0.2.2.1)) with h1 | h1
 ·have hzh1 : (isFmt x0.1 x0.2.1 x0.2.2.1) = false := notT h1
  refine at_regq [{},{},{},{},{},{},{},{ hint:=some (aB true) }] { ts:=[1,2,29],os:=[1] } [True,(AV.p (.c (.v (.bool (!(isFmt x0.1 x0.2.1 x0.2.2.1)))))=AV.p (.c (.v (.bool true))))] gamOK hT h (by kernel_rfl) ⟨trivial,hint_bool (h1),trivial⟩ fun a w h=>then_normal ?_
  refine at_test true h (by kernel_rfl) (fun hh=>?_) (fun hh=>nomatch hh)
  refine wp_seq ?_
  refine at_regq [] { ts:=[1,2],os:=[1] } [] gamOK hT h (by kernel_rfl) trivial fun a w h=>then_normal (wp_ret (then_ret ?_))
  exact at_return (false,()) [] h (by kernel_rfl) trivial (congrArg (fun z=>(z,())) (show (false)=validD x0 from by first | rfl | (unfold validD;rw [if_neg (neT (notT h1))])))
 ·have hzh1 : (isFmt x0.1 x0.2.1 x0.2.2.1) = true := notF h1
  have hvh1:=isFmt_t (notF h1)
  rcases Bool.eq_false_or_eq_true (!(validB x0.2.2.2)) with h2 | h2
  ·have hzh2 : (validB x0.2.2.2) = false := notT h2
   refine at_regq [{},{},{},{},{},{},{},{ hint:=some (aB false) },{},{},{},{},{ hint:=some (aB true) }] { ts:=[1,2,29],os:=[1] } [True,(AV.p (.c (.v (.bool (!(isFmt x0.1 x0.2.1 x0.2.2.1)))))=AV.p (.c (.v (.bool false)))),Q_impl_IsValidBasis x0.2.2.2,(AV.p (.c (.v (.bool (!(validB x0.2.2.2)))))=AV.p (.c (.v (.bool true))))] gamOK hT h (by kernel_rfl) ⟨trivial,hint_bool (h1),(by exact hf0.2.2.2),hint_bool (h2),trivial⟩ fun a w h=>then_normal ?_
   refine at_test true h (by kernel_rfl) (fun hh=>?_) (fun hh=>nomatch hh)
   refine wp_seq ?_
   refine at_regq [] { ts:=[1,2],os:=[1] } [] gamOK hT h (by kernel_rfl) trivial fun a w h=>then_normal (wp_ret (then_ret ?_))
   exact at_return (false,()) [] h (by kernel_rfl) trivial (congrArg (fun z=>(z,())) (show (false)=validD x0 from by first | rfl | (unfold validD;rw [if_pos (notF h1),if_neg (neT (notT h2))])))
  ·have hzh2 : (validB x0.2.2.2) = true := notF h2
   have hvh2:=validB_t (notF h2)
   refine at_regq [{},{},{},{},{},{},{},{ hint:=some (aB false) },{},{},{},{},{ hint:=some (aB false) },{},{},{},{},{},{},{},{},{},{ nw:=true }] { ts:=[1,2,29],os:=[1] } [True,(AV.p (.c (.v (.bool (!(isFmt x0.1 x0.2.1 x0.2.2.1)))))=AV.p (.c (.v (.bool false)))),Q_impl_IsValidBasis x0.2.2.2,(AV.p (.c (.v (.bool (!(validB x0.2.2.2)))))=AV.p (.c (.v (.bool false)))),I64 (x0.2.1+x0.2.2.1)] gamOK hT h (by kernel_rfl) ⟨trivial,hint_bool (h1),(by exact hf0.2.2.2),hint_bool (h2),⟨by first | omega | (simp only [lsA];omega) | (simp<;>omega),by first | omega | (simp only [lsA];omega) | (simp<;>omega)⟩,trivial⟩ fun a w h=>then_normal ?_
   refine at_test (!decide (x0.2.2.2.1=x0.2.1+x0.2.2.1)) h (by kernel_rfl) (fun h3=>?_) (fun h3=>?_)
   ·replace h3 : ¬ (x0.2.2.2.1 = x0.2.1 + x0.2.2.1) := of_decide_eq_false (notT h3)
    refine wp_seq ?_
    refine at_regq [] { ts:=[1,2],os:=[1] } [] gamOK hT h (by kernel_rfl) trivial fun a w h=>then_normal (wp_ret (then_ret ?_))
    exact at_return (false,()) [] h (by kernel_rfl) trivial (congrArg (fun z=>(z,())) (show (false)=validD x0 from by first | rfl | (unfold validD;rw [if_pos (notF h1),if_pos (notF h2),if_neg h3])))
   ·replace h3 : x0.2.2.2.1 = x0.2.1 + x0.2.2.1 := of_decide_eq_true (notF h3)
    refine wp_skip (then_normal (wp_seq (wp_seq ?_)))
    refine at_regq [] { ts:=[1,2,32,33,34],os:=[1] } [] gamOK hT h (by kernel_rfl) trivial fun a w h=>then_normal (wp_block ?_)
    replace h:=at_out (σ':=⟨[(1,aP 1 0),(2,aB false),(32,aF s33 x0.2.2.2.2),(33,aI ((List.length x0.2.2.2.2:Nat):Int)),(34,aI 0)],[(1,oX 30 [cI x0.1,cI x0.2.1,cI x0.2.2.1,cI x0.2.2.2.1,.ro s33 x0.2.2.2.2])]⟩) { ts:=[1,2,32,33,34],os:=[1] } h (by kernel_rfl)
    refine at_loop (fun i:Nat=>(⟨[(1,aP 1 0),(2,aB false),(32,aF s33 x0.2.2.2.2),(33,aI ((List.length x0.2.2.2.2:Nat):Int)),(34,aI ((i:Nat):Int))],[(1,oX 30 [cI x0.1,cI x0.2.1,cI x0.2.2.1,cI x0.2.2.2.1,.ro s33 x0.2.2.2.2])]⟩:St)) (fun i=>(i≤List.length x0.2.2.2.2∧allTo1 (fun r=>decide (LA.leadS r < x0.2.1)) x0.2.2.2.2 [] i)) (fun i=>List.length x0.2.2.2.2 - i) (0) h (st_congr1 (fun (d0:Int)=>(⟨[(1,aP 1 0),(2,aB false),(32,aF s33 x0.2.2.2.2),(33,aI ((List.length x0.2.2.2.2:Nat):Int)),(34,aI d0)],[(1,oX 30 [cI x0.1,cI x0.2.1,cI x0.2.2.1,cI x0.2.2.2.1,.ro s33 x0.2.2.2.2])]⟩:St)) (show (0:Int)=(((0):Nat):Int) from by first | with_reducible rfl | (rfl) | rfl)) (by exact ⟨Nat.zero_le _,allTo1_zero⟩) ?_
    intro i a w hok0 h
    refine wp_seq ?_
    refine at_regq [] { ts:=[1,2,32,33,34,35],os:=[1] } [] gamOK hT h (by kernel_rfl) trivial fun a w h=>then_normal (wp_seq ?_)
    refine at_test (decide (((i:Nat):Int) < ((List.length x0.2.2.2.2:Nat):Int))) h (by kernel_rfl) (fun h4=>?_) (fun h4=>?_)
    ·replace h4 : ((i : Nat) : Int) < ((List.length x0.2.2.2.2 : Nat) : Int) := of_decide_eq_true h4
     refine wp_skip (then_normal (wp_seq (wp_block (wp_seq ?_))))
     refine at_regq [] { ts:=[1,2,4,32,33,34],os:=[1] } [(0:Int)≤((i:Nat):Int)∧((i:Nat):Int) < ((List.length x0.2.2.2.2:Nat):Int)] gamOK hT h (by kernel_rfl) ⟨(by refine ⟨?_,?_⟩<;>(first | omega | (simp only [lsA];omega) | (simp<;>omega))),trivial⟩ fun a w h=>then_normal (wp_seq ?_)
     refine at_anyq [{},{},{},{},{}] { ts:=[1,2,32,33,34,42],os:=[1] } [Q_impl_LeadingIndex (x0.2.2.2.2.getD i [])] gamOK hT mixed h (by kernel_rfl) ⟨(by exact Sh.fit_getD hf0.2.2.2.2 i),trivial⟩ fun a w h=>then_normal ?_
     refine at_test (decide ((LA.leadS (x0.2.2.2.2.getD i []))≥x0.2.1)) h (by kernel_rfl) (fun h5=>?_) (fun h5=>?_)
     ·replace h5 : (LA.leadS (x0.2.2.2.2.getD i [])) ≥ x0.2.1 := of_decide_eq_true h5
      refine wp_seq ?_
      refine at_regq [] { ts:=[1,2,32,33,34],os:=[1] } [] gamOK hT h (by kernel_rfl) trivial fun a w h=>then_normal (wp_ret (in_ret (then_ret ?_)))
      have hs6:(List.all x0.2.2.2.2 (fun r=>decide (LA.leadS r < x0.2.1)))=false:=by exact all_at (z:=[]) (i:=i) (by omega) (by exact decide_eq_false (by omega))
      refine then_ret (in_ret (then_ret ?_))
      exact at_return (false,()) [] h (by kernel_rfl) trivial (congrArg (fun z=>(z,())) (show (false)=validD x0 from by first | rfl | (unfold validD;rw [if_pos (notF h1),if_pos (notF h2),if_pos h3,if_neg (neT hs6)])))
     ·replace h5 : ¬ ((LA.leadS (x0.2.2.2.2.getD i [])) ≥ x0.2.1) := of_decide_eq_false h5
      refine wp_skip (in_normal (then_normal ?_))
      refine at_regq [{ nw:=true }] { ts:=[1,2,32,33,34],os:=[1] } [I64 (((i:Nat):Int)+1)] gamOK hT h (by kernel_rfl) ⟨⟨by first | omega | (simp only [lsA];omega) | (simp<;>omega),by first | omega | (simp only [lsA];omega) | (simp<;>omega)⟩,trivial⟩ fun a w h=>?_
      replace h:=at_out (σ':=⟨[(1,aP 1 0),(2,aB false),(32,aF s33 x0.2.2.2.2),(33,aI ((List.length x0.2.2.2.2:Nat):Int)),(34,aI (((i:Nat):Int)+1))],[(1,oX 30 [cI x0.1,cI x0.2.1,cI x0.2.2.1,cI x0.2.2.2.1,.ro s33 x0.2.2.2.2])]⟩) { ts:=[1,2,32,33,34],os:=[1] } h (by kernel_rfl)
      exact ⟨i+1,at_eq h (st_congr1 (fun (d0:Int)=>(⟨[(1,aP 1 0),(2,aB false),(32,aF s33 x0.2.2.2.2),(33,aI ((List.length x0.2.2.2.2:Nat):Int)),(34,aI d0)],[(1,oX 30 [cI x0.1,cI x0.2.1,cI x0.2.2.1,cI x0.2.2.2.1,.ro s33 x0.2.2.2.2])]⟩:St)) (show (((i:Nat):Int)+1:Int)=(((i+1):Nat):Int) from by first | with_reducible rfl | (omega) | rfl)),(by exact ⟨by omega,allTo1_succ hok0.2 (by exact decide_eq_true (by omega))⟩),(by omega)⟩
    ·replace h4 : ¬ (((i : Nat) : Int) < ((List.length x0.2.2.2.2 : Nat) : Int)) := of_decide_eq_false h4
     refine wp_exit (then_exit ?_)
     have hs7:(List.all x0.2.2.2.2 (fun r=>decide (LA.leadS r < x0.2.1)))=true:=by exact all_of (z:=[]) (i:=i) (by omega) hok0.2
     refine then_exit (in_hit (then_normal (wp_seq ?_)))
     refine at_regq [] { ts:=[2],os:=[] } [] gamOK hT h (by kernel_rfl) trivial fun a w h=>then_normal (wp_ret ?_)
     exact at_return (true,()) [] h (by kernel_rfl) trivial (congrArg (fun z=>(z,())) (show (true)=validD x0 from by first | rfl | (unfold validD;rw [if_pos (notF h1),if_pos (notF h2),if_pos h3,if_pos hs7])))
theorem validD_t {d:T30} (h:validD d=true):((0≤d.1∧d.1≤1000000000000)∧(1≤d.2.1∧d.2.1≤8)∧(1≤d.2.2.1∧d.2.2.1≤16))∧basP d.2.2.2∧d.2.2.2.1=d.2.1+d.2.2.1∧∀ r∈d.2.2.2.2,LA.leadS r < d.2.1:=by
 unfold validD at h
 split at h
 ·split at h
  ·split at h
   ·split at h
    ·rename_i h1 h2 h3 h4
     exact ⟨isFmt_t h1,validB_t h2,h3,fun r hr=>of_decide_eq_true (List.all_eq_true.1 h4 r hr)⟩
    ·cases h
   ·cases h
  ·cases h
 ·cases h

def rndN (x0:Int) (x1:Int) (x2:Int):Int:=(if (inR x2 1 1000000000000)=true then (Int.tmod (Int.tmod ((keyed x0 ([x1,71]))*(keyed x0 ([x1,71]))) 2147483647) x2) else 0)
def S_impl_RandomNumber:Sum:={ fid:=116,dom:=[(.int 3),(.int 3),(.int 3)],cod:=[(.int 3)],dp:=true,fz:=false,pre:=fun x=>True,g:=fun x=>((rndN x.1 x.2.1 x.2.2.1),()) }
def S_impl_RandomNumber_tab:List (Nat×Sum):=[(33,S_impl_InRange),(117,S_impl_KeyedHash)]
theorem S_impl_RandomNumber_ok:FnOK Try.prog 116 S_impl_RandomNumber:=by
 refine at_enter 21 (fun x=>⟨[(0,aI x.1),(1,aI x.2.1),(2,aI x.2.2.1)],[]⟩) Try.func116 rfl (by kernel_rfl) (fun x=>rfl) ?_
 rintro w0 Z0 ⟨x0,x1,x2,u⟩ a w
 revert x0 x1 x2
 intro (x0:Int) (x1:Int) (x2:Int) hpre hlens h
 have hT:TabOK Try.prog S_impl_RandomNumber_tab:=(.cons S_impl_InRange_ok (.cons S_impl_KeyedHash_ok .nil))
 have hkb:=keyed_bd x0 ([x1,71])
 refine wp_seq ?_
 refine at_regq [] { ts:=[0,1,2,6],os:=[] } [] gamOK hT h (by kernel_rfl) trivial fun a w h=>then_normal (wp_seq (wp_seq ?_))
 refine at_regq [] { ts:=[0,1,2,6,10],os:=[] } [True] gamOK hT h (by kernel_rfl) ⟨trivial,trivial⟩ fun a w h=>then_normal ?_
 refine at_test (!(inR x2 1 1000000000000)) h (by kernel_rfl) (fun h1=>?_) (fun h1=>?_)
 ·replace h1 : (inR x2 1 1000000000000) = false := notT h1
  have hvh1:=inR_f h1
  refine wp_seq ?_
  refine at_regq [] { ts:=[0,1,2,6],os:=[] } [] gamOK hT h (by kernel_rfl) trivial fun a w h=>then_normal (wp_ret (then_ret ?_))
  exact at_return (0,()) [] h (by kernel_rfl) trivial (congrArg (fun z=>(z,())) (show (0)=rndN x0 x1 x2 from by first | rfl | (unfold rndN;rw [if_neg (neT h1)])))
 ·replace h1 : (inR x2 1 1000000000000) = true := notF h1
  have hvh1:=inR_t h1
  refine wp_skip (then_normal (wp_seq ?_))
  refine at_regq [{},{},{ ids:=[1] }] { ts:=[2,6,7],os:=[] } [pKey x0 ([x1,71])] gamOK hT h (by kernel_rfl) ⟨(by (show _≤_;simp)),trivial⟩ fun a w h=>then_normal (wp_seq ?_)
  refine at_regq [{},{},{ nw:=true }] { ts:=[6],os:=[] } [I64 ((keyed x0 ([x1,71]))*(keyed x0 ([x1,71]))),(2147483647:Int)≠0,(x2:Int)≠0] gamOK hT h (by kernel_rfl) ⟨⟨by (have hA0:=mul_f (keyed x0 ([x1,71])) (keyed x0 ([x1,71]));first | omega | (simp only [lsA];omega) | (simp<;>omega)),by (have hA0:=mul_f (keyed x0 ([x1,71])) (keyed x0 ([x1,71]));first | omega | (simp only [lsA];omega) | (simp<;>omega))⟩,(by first | omega | (simp only [lsA];omega) | (simp<;>omega)),(by first | omega | (simp only [lsA];omega) | (simp<;>omega)),trivial⟩ fun a w h=>then_normal (wp_ret ?_)
  exact at_return ((Int.tmod (Int.tmod ((keyed x0 ([x1,71]))*(keyed x0 ([x1,71]))) 2147483647) x2),()) [] h (by kernel_rfl) trivial (congrArg (fun z=>(z,())) (show ((Int.tmod (Int.tmod ((keyed x0 ([x1,71]))*(keyed x0 ([x1,71]))) 2147483647) x2))=rndN x0 x1 x2 from by first | rfl | (unfold rndN;rw [if_pos h1])))
theorem rndN_el (s i:Int):LA.El (rndN s i 1019):=by
 have hkb:=keyed_bd s ([i,71])
 have hm:=mul_f (keyed s ([i,71])) (keyed s ([i,71]))
 have h1:=tmod_f (keyed s ([i,71])*keyed s ([i,71])) 2147483647 (by decide)
 have h2:=tmod_f ((keyed s ([i,71])*keyed s ([i,71])).tmod 2147483647) 1019 (by decide)
 unfold rndN LA.El
 rw [if_pos (show inR 1019 1 1000000000000=true from rfl)]
 omega
def unitL (n:Nat) (k:Int):List Int:=(List.range n).map fun (j:Nat)=>if (j:Int)=k then 1 else 0
theorem unitL_snoc (n:Nat) (k:Int):unitL (n+1) k=unitL n k++[if (n:Int)=k then 1 else 0]:=by unfold unitL;rw [List.range_succ,List.map_append];rfl
theorem unitL_len (n:Nat) (k:Int):(unitL n k).length=n:=by simp [unitL]
theorem unitL_set {n:Nat} {k:Int} (h0:0≤k) (h:k < n):List.set (List.replicate n (0:Int)) k.toNat 1=unitL n k:=by
 apply List.ext_getElem
 ·simp [unitL]
 ·intro i h1 h2
  rw [List.getElem_set]
  simp only [unitL,List.getElem_map,List.getElem_range,List.getElem_replicate]
  by_cases e:k.toNat=i
  ·rw [if_pos e,if_pos (by omega)]
  ·rw [if_neg e,if_neg (by omega)]
def unitV (w i:Int):List Int:=if inR w 0 40=true∧inR i 0 (w - 1)=true then unitL w.toNat i else []
theorem unitV_y {w i:Int} (h:inR w 0 40=true) (h2:inR i 0 (w - 1)=true):unitL w.toNat i=unitV w i:=(if_pos ⟨h,h2⟩).symm
theorem unitV_n {w i:Int} (h:inR w 0 40=false∨inR i 0 (w - 1)=false):[]=unitV w i:=by
 unfold unitV;rw [if_neg]
 rintro ⟨h1,h2⟩
 rcases h with h | h
 ·rw [h1] at h;cases h
 ·rw [h2] at h;cases h
theorem unitV_len (w i:Int):(unitV w i).length≤40:=by
 unfold unitV;split
 ·rename_i h;rw [unitL_len];have:=inR_t h.1;omega
 ·exact Nat.zero_le _
theorem unitL_ok (n:Nat) (k:Int):LA.VokB n (unitL n k):=⟨unitL_len n k,fun x hx=>by
 obtain ⟨j,_,rfl⟩:=List.mem_map.1 hx
 unfold LA.El;split<;>omega⟩
def rndL (s:Int) (n:Nat):List Int:=(List.range n).map fun (j:Nat)=>rndN s (j:Int) 1019
theorem rndL_snoc (s:Int) (n:Nat):rndL s (n+1)=rndL s n++[rndN s (n:Int) 1019]:=by unfold rndL;rw [List.range_succ,List.map_append];rfl
theorem rndL_len (s:Int) (n:Nat):(rndL s n).length=n:=by simp [rndL]
theorem rndL_at {s:Int} {n i:Nat} (h:i < n):(rndL s n).getD i 0=rndN s (i:Int) 1019:=by rw [getD_of_lt (by rw [rndL_len];exact h)];simp [rndL]
theorem rndL_zero (s:Int) (n:Nat):List.replicate n (0:Int)=copyTo 0 (rndL s n) 0:=by
 have e:=copyTo_zero (z:=(0:Int)) (xs:=rndL s n)
 rw [rndL_len] at e;exact e
theorem rndL_set {s:Int} {n i:Nat} (h:i < n):(copyTo 0 (rndL s n) i).set i (rndN s (i:Int) 1019)=copyTo 0 (rndL s n) (i+1):=by
 rw [← rndL_at h];exact copyTo_set (by rw [rndL_len];exact h)
def rndS (s w:Int):List Int:=if inR w 1 40=true then rndL s w.toNat else []
theorem rndS_len (s w:Int):(rndS s w).length≤40:=by
 unfold rndS;split
 ·rename_i h;rw [rndL_len];have:=inR_t h;omega
 ·exact Nat.zero_le _
theorem rndS_eq {s w:Int} {i:Nat} (h:i=0∨((i:Int)≤w∧inR w 1 40=true)) (he:¬ (i:Int) < w∨inR w 1 40=false):rndL s i=rndS s w:=by
 unfold rndS
 cases hi:inR w 1 40 with
 | true =>
  rw [if_pos rfl]
  have hw:=inR_t hi
  rcases he with he | he
  ·congr 1;omega
  ·rw [hi] at he;cases he
 | false =>
  rw [if_neg (by decide)]
  rcases h with h | h
  ·subst h;rfl
  ·rw [hi] at h;cases h.2
def rndV (s w:Int):List Int:=if 0 < (rndS s w).length∧LA.leadS (rndS s w) < 0 then (rndS s w).set 0 1 else rndS s w
theorem rndV_1 {s w:Int} (h:inR w 1 40=true) (h2:LA.leadS (rndL s w.toNat) < 0):(rndL s w.toNat).set 0 1=rndV s w:=by
 unfold rndV rndS;rw [if_pos h,if_pos ⟨by rw [rndL_len];have:=inR_t h;omega,h2⟩]
theorem rndV_2 {s w:Int} (h:inR w 1 40=true) (h2:¬ LA.leadS (rndL s w.toNat) < 0):rndL s w.toNat=rndV s w:=by
 unfold rndV rndS;rw [if_pos h,if_neg (fun e=>h2 e.2)]
theorem rndV_0 {s w:Int} (h:inR w 1 40=false):[]=rndV s w:=by
 unfold rndV rndS;rw [h];simp
theorem rndV_len (s w:Int):(rndV s w).length≤40:=by
 have:=rndS_len s w
 unfold rndV;split
 ·rw [List.length_set];exact this
 ·exact this
theorem rndV_at {s w:Int} (h:1≤w∧w≤40):(rndV s w).length=w.toNat:=by
 have e:rndS s w=rndL s w.toNat:=if_pos (inR_true h)
 unfold rndV;rw [e];split
 ·rw [List.length_set,rndL_len]
 ·rw [rndL_len]
theorem rndV_ok {s w:Int} (h:1≤w∧w≤40):LA.VokB w.toNat (rndV s w):=by
 refine ⟨rndV_at h,fun x hx=>?_⟩
 have e:rndS s w=rndL s w.toNat:=if_pos (inR_true h)
 have hl:∀ y∈rndL s w.toNat,LA.El y:=fun y hy=>by
  obtain ⟨j,_,rfl⟩:=List.mem_map.1 hy
  exact rndN_el _ _
 unfold rndV at hx;rw [e] at hx
 split at hx
 ·rcases List.mem_or_eq_of_mem_set hx with hx | hx
  ·exact hl x hx
  ·rw [hx];unfold LA.El;omega
 ·exact hl x hx
def combTo (vs:List (List Int)) (cs:List Int):Nat→List Int
 | 0=>List.replicate (vs.getD 0 []).length 0
 | i+1=>LA.addS (combTo vs cs i) (vs.getD i []) (cs.getD i 0)
def combS (vs:List (List Int)) (cs:List Int):List Int:=combTo vs cs vs.length
abbrev cvB (vs:List (List Int)) (v:List Int):Bool:=validV v && decide (v.length=(vs.getD 0 []).length)
theorem cvB_ok {vs:List (List Int)} {v:List Int} (h:cvB vs v=true):LA.VokB (vs.getD 0 []).length v:=by
 unfold cvB at h;rw [Bool.and_eq_true] at h
 exact ⟨of_decide_eq_true h.2,(validV_t h.1).2.1⟩
theorem cvB_40 {vs:List (List Int)} {v:List Int} (h:cvB vs v=true):(vs.getD 0 []).length≤40:=by
 unfold cvB at h;rw [Bool.and_eq_true] at h
 have h1:=of_decide_eq_true h.2
 have:=(validV_t h.1).1;omega
theorem combTo_ok {n:Nat} {vs:List (List Int)} {cs:List Int} (hn:(vs.getD 0 []).length=n) (hc:∀ j,0≤cs.getD j 0∧cs.getD j 0≤1018):∀ i,(∀ j,j < i→LA.VokB n (vs.getD j []))→LA.VokB n (combTo vs cs i)
 | 0, _ => by
  refine ⟨by simp only [combTo];rw [List.length_replicate,hn],fun x hx=>?_⟩
  simp only [combTo] at hx
  rw [(List.mem_replicate.1 hx).2];unfold LA.El;omega
 | i+1,h=>(LA.addS_ok (combTo_ok hn hc i (fun j hj=>h j (by omega))) (h i (by omega)) (hc i)).1
def combV (vs:List (List Int)) (cs:List Int):List Int:=if (¬ vs.length=0∧vs.length=cs.length)∧validV cs=true∧vs.all (cvB vs)=true then combS vs cs else []
theorem combV_y {vs:List (List Int)} {cs:List Int} (h1:¬ vs.length=0) (h2:vs.length=cs.length) (h3:validV cs=true) (h4:vs.all (cvB vs)=true):combS vs cs=combV vs cs:=(if_pos ⟨⟨h1,h2⟩,h3,h4⟩).symm
theorem combV_n {vs:List (List Int)} {cs:List Int} (h:vs.length=0∨¬ vs.length=cs.length∨validV cs=false∨vs.all (cvB vs)=false):[]=combV vs cs:=by
 unfold combV;rw [if_neg]
 rintro ⟨⟨h1,h2⟩,h3,h4⟩
 rcases h with h | h | h | h
 ·exact h1 h
 ·exact h h2
 ·rw [h3] at h;cases h
 ·rw [h4] at h;cases h
theorem combV_len (vs:List (List Int)) (cs:List Int):(combV vs cs).length≤40:=by
 unfold combV;split
 ·rename_i h
  have hp:=List.all_eq_true.1 h.2.2
  have h0:=hp _ (getD_mem (z:=[]) (show 0 < vs.length by have:=h.1.1;omega))
  have:=(combTo_ok (n:=(vs.getD 0 []).length) (cs:=cs) rfl (validV_t h.2.1).2.2 vs.length (fun j hj=>cvB_ok (hp _ (getD_mem hj)))).1
  have:=cvB_40 h0
  unfold combS;omega
 ·exact Nat.zero_le _
theorem combV_pos {vs:List (List Int)} {cs:List Int} (h:¬ (combV vs cs).length=0):0 < vs.length:=by
 rcases Nat.eq_zero_or_pos vs.length with h0 | h0
 ·rw [← combV_n (.inl h0)] at h;exact absurd rfl h
 ·exact h0
def combP (vs:List (List Int)) (cs:List Int):Prop:=(0 < vs.length∧vs.length≤cs.length∧(vs.getD 0 []).length≤40)∧(∀ j,j < vs.length→LA.VokB (vs.getD 0 []).length (vs.getD j []))∧∀ j,0≤cs.getD j 0∧cs.getD j 0≤1018
def pays (ps:List T38):List (List Int):=ps.map fun p=>p.2.2
theorem pays_len (ps:List T38):(pays ps).length=ps.length:=by simp [pays]
theorem pays_snoc (ps:List T38) (p:T38):pays (ps++[p])=pays ps++[p.2.2]:=by simp [pays]
theorem fit_pays {ps:List T38} (h:Sh.fit s52 ps):Sh.fit s24 (pays ps):=⟨by rw [pays_len];exact h.1,fun v hv=>by
 obtain ⟨p,hp,rfl⟩:=List.mem_map.1 hv
 exact (h.2 p hp).2.2⟩
def genB0 (ps:List T38) (p:T38):Bool:=decide (p.1=(ps.getD 0 (0,([],[]))).1)
def comP (ps:List T38) (cs:List Int):T38×Bool:=if ps.all (fun p=>decide (p.1=(ps.getD 0 (0,([],[]))).1))=true∧¬ (combV (cofs ps) cs).length=0∧¬ (combV (pays ps) cs).length=0 then (((ps.getD 0 (0,([],[]))).1,combV (cofs ps) cs,combV (pays ps) cs),true) else ((0,[],[]),false)
theorem comP_y {ps:List T38} {cs:List Int} (h1:ps.all (fun p=>decide (p.1=(ps.getD 0 (0,([],[]))).1))=true) (h2:¬ (combV (cofs ps) cs).length=0) (h3:¬ (combV (pays ps) cs).length=0):(((ps.getD 0 (0,([],[]))).1,combV (cofs ps) cs,combV (pays ps) cs),true)=comP ps cs:=(if_pos ⟨h1,h2,h3⟩).symm
theorem comP_n {ps:List T38} {cs:List Int} (h:ps.all (fun p=>decide (p.1=(ps.getD 0 (0,([],[]))).1))=false∨(combV (cofs ps) cs).length=0∨(combV (pays ps) cs).length=0):((0,[],[]),false)=comP ps cs:=by
 unfold comP;rw [if_neg]
 rintro ⟨h1,h2,h3⟩
 rcases h with h | h | h
 ·rw [h1] at h;cases h
 ·exact h2 h
 ·exact h3 h
theorem comP_sz (ps:List T38) (cs:List Int):Sh.sz s38 (comP ps cs).1≤80:=by
 unfold comP;split
 ·show 0 + (Sh.sz s33 _ + Sh.sz s33 _) ≤ 80
  rw [sz_flat (by rfl),sz_flat (by rfl)]
  have:=combV_len (cofs ps) cs;have:=combV_len (pays ps) cs
  dsimp only;omega
 ·exact Nat.zero_le _
def recNo (r:T54):Bool:=decide (List.length r.2.2.2.1=0) || decide (r.2.2.2.2=1000000000000)
def recD (r:T54) (s:Int):T38×Bool:=if recNo r=true then ((0,[],[]),false) else comP r.2.2.2.1 (rndV (keyed s ([r.1,r.2.2.2.2])) ((List.length r.2.2.2.1:Nat):Int))
def recU (r:T54) (s:Int):T54:=if recNo r=true then r else (r.1,r.2.1,r.2.2.1,r.2.2.2.1,r.2.2.2.2+1)
def recodeR (r:T54) (s:Int):T54×T38×Bool:=if validR r=true then (recU r s,recD r s) else (r,(0,[],[]),false)
theorem recNo_t {r:T54} (h:List.length r.2.2.2.1=0∨r.2.2.2.2=1000000000000):recNo r=true:=by unfold recNo;rw [Bool.or_eq_true,decide_eq_true_iff,decide_eq_true_iff];exact h
theorem recNo_f {r:T54} (h1:¬ List.length r.2.2.2.1=0) (h2:¬ r.2.2.2.2=1000000000000):recNo r=false:=by unfold recNo;rw [decide_eq_false h1,decide_eq_false h2];rfl
theorem recU_y {r:T54} {s:Int} (h:recNo r=true):r=recU r s:=(if_pos h).symm
theorem recU_n {r:T54} {s:Int} (h:recNo r=false):(r.1,r.2.1,r.2.2.1,r.2.2.2.1,r.2.2.2.2+1)=recU r s:=(if_neg (by rw [h];decide)).symm
theorem recD_y {r:T54} {s:Int} (h:recNo r=true):((0,[],[]),false)=recD r s:=(if_pos h).symm
theorem recD_n {r:T54} {s:Int} (h:recNo r=false):comP r.2.2.2.1 (rndV (keyed s ([r.1,r.2.2.2.2])) ((List.length r.2.2.2.1:Nat):Int))=recD r s:=(if_neg (by rw [h];decide)).symm
theorem recodeR_y {r:T54} {s:Int} (h:validR r=true):(recU r s,recD r s)=recodeR r s:=(if_pos h).symm
theorem recodeR_n {r:T54} {s:Int} (h:validR r=false):(r,(0,[],[]),false)=recodeR r s:=(if_neg (by rw [h];decide)).symm
theorem recU_sz (r:T54) (s:Int):Sh.sz s54 (recU r s)=Sh.sz s54 r:=by unfold recU;split<;>rfl
theorem recodeR_sz (r:T54) (s:Int):Sh.sz s54 (recodeR r s).1=Sh.sz s54 r∧Sh.sz s38 (recodeR r s).2.1≤80:=by
 unfold recodeR;split
 ·refine ⟨recU_sz r s, ?_⟩
  show Sh.sz s38 (recD r s).1≤80
  unfold recD;split
  ·exact Nat.zero_le _
  ·exact comP_sz _ _
 ·exact ⟨rfl,Nat.zero_le _⟩

def S_spec_RandomNumber:Sum:={ fid:=129,dom:=[(.int 3),(.int 3),(.int 3)],cod:=[(.int 3)],dp:=true,fz:=false,pre:=fun x=>True,g:=fun x=>((rndN x.1 x.2.1 x.2.2.1),()) }
def S_spec_RandomNumber_tab:List (Nat×Sum):=[(38,S_spec_l1In),(130,S_spec_KeyedHash)]
theorem S_spec_RandomNumber_ok:FnOK Try.prog 129 S_spec_RandomNumber:=by
 refine at_enter 21 (fun x=>⟨[(0,aI x.1),(1,aI x.2.1),(2,aI x.2.2.1)],[]⟩) Try.func129 rfl (by kernel_rfl) (fun x=>rfl) ?_
 rintro w0 Z0 ⟨x0,x1,x2,u⟩ a w
 revert x0 x1 x2
 intro (x0:Int) (x1:Int) (x2:Int) hpre hlens h
 have hT:TabOK Try.prog S_spec_RandomNumber_tab:=(.cons S_spec_l1In_ok (.cons S_spec_KeyedHash_ok .nil))
 have hkb:=keyed_bd x0 ([x1,71])
 refine wp_seq ?_
 refine at_regq [] { ts:=[0,1,2,6],os:=[] } [] gamOK hT h (by kernel_rfl) trivial fun a w h=>then_normal (wp_seq (wp_seq ?_))
 refine at_regq [] { ts:=[0,1,2,6,10],os:=[] } [True] gamOK hT h (by kernel_rfl) ⟨trivial,trivial⟩ fun a w h=>then_normal ?_
 refine at_test (!(inR x2 1 1000000000000)) h (by kernel_rfl) (fun h1=>?_) (fun h1=>?_)
 ·replace h1 : (inR x2 1 1000000000000) = false := notT h1
  have hvh1:=inR_f h1
  refine wp_seq ?_
  refine at_regq [] { ts:=[0,1,2,6],os:=[] } [] gamOK hT h (by kernel_rfl) trivial fun a w h=>then_normal (wp_ret (then_ret ?_))
  exact at_return (0,()) [] h (by kernel_rfl) trivial (congrArg (fun z=>(z,())) (show (0)=rndN x0 x1 x2 from by first | rfl | (unfold rndN;rw [if_neg (neT h1)];done) | (unfold rndN;simp_all)))
 ·replace h1 : (inR x2 1 1000000000000) = true := notF h1
  have hvh1:=inR_t h1
  refine wp_skip (then_normal (wp_seq ?_))
  refine at_regq [{},{},{ ids:=[1] }] { ts:=[2,6,7],os:=[] } [pKey x0 ([x1,71])] gamOK hT h (by kernel_rfl) ⟨(by (show _≤_;simp)),trivial⟩ fun a w h=>then_normal (wp_seq ?_)
  refine at_regq [{},{},{ nw:=true }] { ts:=[6],os:=[] } [I64 ((keyed x0 ([x1,71]))*(keyed x0 ([x1,71]))),(2147483647:Int)≠0,(x2:Int)≠0] gamOK hT h (by kernel_rfl) ⟨⟨by (have hA0:=mul_f (keyed x0 ([x1,71])) (keyed x0 ([x1,71]));first | omega | (simp only [lsA];omega) | (simp<;>omega)),by (have hA0:=mul_f (keyed x0 ([x1,71])) (keyed x0 ([x1,71]));first | omega | (simp only [lsA];omega) | (simp<;>omega))⟩,(by first | omega | (simp only [lsA];omega) | (simp<;>omega)),(by first | omega | (simp only [lsA];omega) | (simp<;>omega)),trivial⟩ fun a w h=>then_normal (wp_ret ?_)
  exact at_return ((Int.tmod (Int.tmod ((keyed x0 ([x1,71]))*(keyed x0 ([x1,71]))) 2147483647) x2),()) [] h (by kernel_rfl) trivial (congrArg (fun z=>(z,())) (show ((Int.tmod (Int.tmod ((keyed x0 ([x1,71]))*(keyed x0 ([x1,71]))) 2147483647) x2))=rndN x0 x1 x2 from by first | rfl | (unfold rndN;rw [if_pos h1];done) | (unfold rndN;simp_all)))

def S_impl_RandomVector:Sum:={ fid:=86,dom:=[(.int 3),(.int 3)],cod:=[s33],dp:=true,fz:=false,pre:=fun x=>True,g:=fun x=>((rndV x.1 x.2.1),()) }
def S_impl_RandomVector_tab:List (Nat×Sum):=[(33,S_impl_InRange),(116,S_impl_RandomNumber),(48,S_impl_LeadingIndex)]
theorem S_impl_RandomVector_ok:FnOK Try.prog 86 S_impl_RandomVector:=by
 refine at_enter 30 (fun x=>⟨[(0,aI x.1),(1,aI x.2.1)],[]⟩) Try.func86 rfl (by kernel_rfl) (fun x=>rfl) ?_
 rintro w0 Z0 ⟨x0,x1,u⟩ a w
 revert x0 x1
 intro (x0:Int) (x1:Int) hpre hlens h
 have hT:TabOK Try.prog S_impl_RandomVector_tab:=(.cons S_impl_InRange_ok (.cons S_impl_RandomNumber_ok (.cons S_impl_LeadingIndex_ok .nil)))
 have hrl:=rndL_len x0 x1.toNat
 refine wp_seq ?_
 refine at_regq [] { ts:=[0,1,4],os:=[] } [] gamOK hT h (by kernel_rfl) trivial fun a w h=>then_normal (wp_seq (wp_seq ?_))
 refine at_regq [] { ts:=[0,1,4,9],os:=[] } [True] gamOK hT h (by kernel_rfl) ⟨trivial,trivial⟩ fun a w h=>then_normal ?_
 refine at_test (!(inR x1 1 40)) h (by kernel_rfl) (fun h1=>?_) (fun h1=>?_)
 ·replace h1 : (inR x1 1 40) = false := notT h1
  have hvh1:=inR_f h1
  refine wp_seq ?_
  refine at_regq [] { ts:=[0,1,4],os:=[] } [] gamOK hT h (by kernel_rfl) trivial fun a w h=>then_normal (wp_ret (then_ret ?_))
  exact at_return (([]:List Int),()) [] h (by kernel_rfl) trivial (congrArg (fun z=>(z,())) (show (([]:List Int))=rndV x0 x1 from by first | exact rndV_0 (by assumption) | exact rndV_1 (by assumption) (by assumption) | exact rndV_2 (by assumption) (by assumption)))
 ·replace h1 : (inR x1 1 40) = true := notF h1
  have hvh1:=inR_t h1
  refine wp_skip (then_normal (wp_seq ?_))
  refine at_regq [{},{ ids:=[1] }] { ts:=[0,4,5],os:=[1] } [(0:Int)≤x1∧x1=x1∧x1*(8:Nat)≤(140737488355328:Int)] gamOK hT h (by kernel_rfl) ⟨(by refine ⟨?_,?_,?_⟩<;>((have hA0:=mul_f x1 (8:Nat);first | omega | (simp only [lsA,copyTo_len (show i≤List.length (rndL x0 x1.toNat) by rw [rndL_len];omega)];omega) | (simp<;>omega)))),trivial⟩ fun a w h=>then_normal (wp_seq (wp_seq ?_))
  refine at_regq [] { ts:=[0,4,5,13,14],os:=[1] } [] gamOK hT h (by kernel_rfl) trivial fun a w h=>then_normal (wp_block ?_)
  replace h:=at_out (σ':=⟨[(0,aI x0),(4,.p (.c (cN))),(5,aS 1),(13,aI ((List.length (List.replicate ((x1).toNat) (0:Int)):Nat):Int)),(14,aI 0)],[(1,oR (.int 3) (List.replicate ((x1).toNat) (0:Int)))]⟩) { ts:=[0,4,5,13,14],os:=[1] } h (by kernel_rfl)
  refine at_loop (fun i:Nat=>(⟨[(0,aI x0),(4,.p (.c (cN))),(5,aS 1),(13,aI ((List.length (List.replicate ((x1).toNat) (0:Int)):Nat):Int)),(14,aI ((i:Nat):Int))],[(1,oR (.int 3) (copyTo 0 (rndL x0 x1.toNat) i))]⟩:St)) (fun i=>i≤x1.toNat) (fun i=>x1.toNat - i) (0) h (st_congr2 (fun (d0:List Int) (d1:Int)=>(⟨[(0,aI x0),(4,.p (.c (cN))),(5,aS 1),(13,aI ((List.length (List.replicate ((x1).toNat) (0:Int)):Nat):Int)),(14,aI d1)],[(1,oR (.int 3) d0)]⟩:St)) (show ((List.replicate ((x1).toNat) (0:Int)):List Int)=(copyTo 0 (rndL x0 x1.toNat) (0)) from by first | with_reducible rfl | (exact rndL_zero _ _) | rfl) (show (0:Int)=(((0):Nat):Int) from by first | with_reducible rfl | (exact rndL_zero _ _) | rfl)) (by omega) ?_
  intro i a w hok0 h
  have hcl:=copyTo_len (z:=(0:Int)) (show i≤List.length (rndL x0 x1.toNat) by omega)
  have hrp:List.length (List.replicate x1.toNat (0:Int))=x1.toNat:=List.length_replicate
  refine wp_seq ?_
  refine at_regq [] { ts:=[0,4,5,13,14,15],os:=[1] } [] gamOK hT h (by kernel_rfl) trivial fun a w h=>then_normal (wp_seq ?_)
  refine at_test (decide (((i:Nat):Int) < ((List.length (List.replicate ((x1).toNat) (0:Int)):Nat):Int))) h (by kernel_rfl) (fun h2=>?_) (fun h2=>?_)
  ·replace h2 : ((i : Nat) : Int) < ((List.length (List.replicate ((x1).toNat) (0 : Int)) : Nat) : Int) := of_decide_eq_true h2
   refine wp_skip (then_normal (wp_seq (wp_block (wp_seq ?_))))
   refine at_regq [] { ts:=[0,4,5,6,13,14],os:=[1] } [] gamOK hT h (by kernel_rfl) trivial fun a w h=>then_normal ?_
   refine at_regq [] { ts:=[0,4,5,13,14],os:=[1] } [True,(0:Int)≤((i:Nat):Int)∧((i:Nat):Int) < ((List.length (copyTo 0 (rndL x0 x1.toNat) i):Nat):Int),i < List.length (copyTo 0 (rndL x0 x1.toNat) i)] gamOK hT h (by kernel_rfl) ⟨trivial,(by refine ⟨?_,?_⟩<;>(first | omega | (simp only [lsA,copyTo_len (show i≤List.length (rndL x0 x1.toNat) by rw [rndL_len];omega)];omega) | (simp<;>omega))),(by first | omega | (simp only [lsA,copyTo_len (show i≤List.length (rndL x0 x1.toNat) by rw [rndL_len];omega)];omega) | (simp<;>omega)),trivial⟩ fun a w h=>in_normal (then_normal ?_)
   refine at_regq [{ nw:=true }] { ts:=[0,4,5,13,14],os:=[1] } [I64 (((i:Nat):Int)+1)] gamOK hT h (by kernel_rfl) ⟨⟨by first | omega | (simp only [lsA,copyTo_len (show i≤List.length (rndL x0 x1.toNat) by rw [rndL_len];omega)];omega) | (simp<;>omega),by first | omega | (simp only [lsA,copyTo_len (show i≤List.length (rndL x0 x1.toNat) by rw [rndL_len];omega)];omega) | (simp<;>omega)⟩,trivial⟩ fun a w h=>?_
   replace h:=at_out (σ':=⟨[(0,aI x0),(4,.p (.c (cN))),(5,aS 1),(13,aI ((List.length (List.replicate ((x1).toNat) (0:Int)):Nat):Int)),(14,aI (((i:Nat):Int)+1))],[(1,oR (.int 3) (List.set (copyTo 0 (rndL x0 x1.toNat) i) i (rndN x0 ((i:Nat):Int) 1019)))]⟩) { ts:=[0,4,5,13,14],os:=[1] } h (by kernel_rfl)
   exact ⟨i+1,at_eq h (st_congr2 (fun (d0:List Int) (d1:Int)=>(⟨[(0,aI x0),(4,.p (.c (cN))),(5,aS 1),(13,aI ((List.length (List.replicate ((x1).toNat) (0:Int)):Nat):Int)),(14,aI d1)],[(1,oR (.int 3) d0)]⟩:St)) (show ((List.set (copyTo 0 (rndL x0 x1.toNat) i) i (rndN x0 ((i:Nat):Int) 1019)):List Int)=(copyTo 0 (rndL x0 x1.toNat) (i+1)) from by first | with_reducible rfl | (exact rndL_set (by omega)) | rfl) (show (((i:Nat):Int)+1:Int)=(((i+1):Nat):Int) from by first | with_reducible rfl | (omega) | rfl)),(by omega),(by omega)⟩
  ·replace h2 : ¬ (((i : Nat) : Int) < ((List.length (List.replicate ((x1).toNat) (0 : Int)) : Nat) : Int)) := of_decide_eq_false h2
   refine wp_exit (then_exit ?_)
   replace h:=at_out (σ':=⟨[(4,.p (.c (cN))),(5,aS 1)],[(1,oR (.int 3) (copyTo 0 (rndL x0 x1.toNat) i))]⟩) { ts:=[4,5],os:=[1] } h (by kernel_rfl)
   replace h:=at_eq (σ':=⟨[(4,.p (.c (cN))),(5,aS 1)],[(1,oR (.int 3) (rndL x0 x1.toNat))]⟩) h (st_congr1 (fun (d0:List Int)=>(⟨[(4,.p (.c (cN))),(5,aS 1)],[(1,oR (.int 3) d0)]⟩:St)) (show ((copyTo 0 (rndL x0 x1.toNat) i):List Int)=(rndL x0 x1.toNat) from by first | with_reducible rfl | (rw [copyTo_all (by omega)]) | rfl))
   refine then_exit (in_hit (then_normal (wp_seq (wp_seq ?_))))
   refine at_regq [] { ts:=[4,5,26],os:=[1] } [Q_impl_LeadingIndex (rndL x0 x1.toNat)] gamOK hT h (by kernel_rfl) ⟨(by exact Sh.fit_len rfl (by rw [rndL_len];omega)),trivial⟩ fun a w h=>then_normal ?_
   refine at_test (decide ((LA.leadS (rndL x0 x1.toNat)) < 0)) h (by kernel_rfl) (fun h3=>?_) (fun h3=>?_)
   ·replace h3 : (LA.leadS (rndL x0 x1.toNat)) < 0 := of_decide_eq_true h3
    refine at_regq [] { ts:=[4,5],os:=[1] } [(0:Int)≤0∧0 < ((List.length (rndL x0 x1.toNat):Nat):Int),0 < List.length (rndL x0 x1.toNat)] gamOK hT h (by kernel_rfl) ⟨(by refine ⟨?_,?_⟩<;>(first | omega | (simp only [lsA,copyTo_len (show i≤List.length (rndL x0 x1.toNat) by rw [rndL_len];omega)];omega) | (simp<;>omega))),(by first | omega | (simp only [lsA,copyTo_len (show i≤List.length (rndL x0 x1.toNat) by rw [rndL_len];omega)];omega) | (simp<;>omega)),trivial⟩ fun a w h=>then_normal (wp_seq ?_)
    refine at_regq [] { ts:=[4],os:=[1] } [] gamOK hT h (by kernel_rfl) trivial fun a w h=>then_normal (wp_ret ?_)
    exact at_return ((List.set (rndL x0 x1.toNat) 0 1),()) [] h (by kernel_rfl) trivial (congrArg (fun z=>(z,())) (show ((List.set (rndL x0 x1.toNat) 0 1))=rndV x0 x1 from by first | exact rndV_0 (by assumption) | exact rndV_1 (by assumption) (by assumption) | exact rndV_2 (by assumption) (by assumption)))
   ·replace h3 : ¬ ((LA.leadS (rndL x0 x1.toNat)) < 0) := of_decide_eq_false h3
    refine wp_skip (then_normal (wp_seq ?_))
    refine at_regq [] { ts:=[4],os:=[1] } [] gamOK hT h (by kernel_rfl) trivial fun a w h=>then_normal (wp_ret ?_)
    exact at_return ((rndL x0 x1.toNat),()) [] h (by kernel_rfl) trivial (congrArg (fun z=>(z,())) (show ((rndL x0 x1.toNat))=rndV x0 x1 from by first | exact rndV_0 (by assumption) | exact rndV_1 (by assumption) (by assumption) | exact rndV_2 (by assumption) (by assumption)))

def S_spec_RandomVector:Sum:={ fid:=108,dom:=[(.int 3),(.int 3)],cod:=[s33],dp:=true,fz:=false,pre:=fun x=>True,g:=fun x=>((rndV x.1 x.2.1),()) }
def S_spec_RandomVector_tab:List (Nat×Sum):=[(38,S_spec_l1In),(129,S_spec_RandomNumber),(95,S_spec_LeadingIndex)]
theorem S_spec_RandomVector_ok:FnOK Try.prog 108 S_spec_RandomVector:=by
 refine at_enter 34 (fun x=>⟨[(0,aI x.1),(1,aI x.2.1)],[]⟩) Try.func108 rfl (by kernel_rfl) (fun x=>rfl) ?_
 rintro w0 Z0 ⟨x0,x1,u⟩ a w
 revert x0 x1
 intro (x0:Int) (x1:Int) hpre hlens h
 have hT:TabOK Try.prog S_spec_RandomVector_tab:=(.cons S_spec_l1In_ok (.cons S_spec_RandomNumber_ok (.cons S_spec_LeadingIndex_ok .nil)))
 have hrl:=rndS_len x0 x1
 refine wp_seq ?_
 refine at_regq [] { ts:=[0,1,4],os:=[] } [] gamOK hT h (by kernel_rfl) trivial fun a w h=>then_normal (wp_seq ?_)
 refine at_regq [{ ids:=[1] }] { ts:=[0,1,4,5],os:=[1] } [] gamOK hT h (by kernel_rfl) trivial fun a w h=>then_normal (wp_seq (wp_seq ?_))
 refine at_regq [] { ts:=[0,1,4,5,6],os:=[1] } [] gamOK hT h (by kernel_rfl) trivial fun a w h=>then_normal (wp_block ?_)
 replace h:=at_out (σ':=⟨[(0,aI x0),(1,aI x1),(4,.p (.c (cN))),(5,aS 1),(6,aI 0)],[(1,oR (.int 3) ([]:List Int))]⟩) { ts:=[0,1,4,5,6],os:=[1] } h (by kernel_rfl)
 refine at_loop (fun i:Nat=>(⟨[(0,aI x0),(1,aI x1),(4,.p (.c (cN))),(5,aS 1),(6,aI ((i:Nat):Int))],[(1,oR (.int 3) (rndL x0 i))]⟩:St)) (fun i=>(i=0∨((i:Int)≤x1∧inR x1 1 40=true))) (fun i=>x1.toNat - i) (0) h (st_congr2 (fun (d0:List Int) (d1:Int)=>(⟨[(0,aI x0),(1,aI x1),(4,.p (.c (cN))),(5,aS 1),(6,aI d1)],[(1,oR (.int 3) d0)]⟩:St)) (show (([]:List Int):List Int)=(rndL x0 (0)) from by first | with_reducible rfl | (rfl) | rfl) (show (0:Int)=(((0):Nat):Int) from by first | with_reducible rfl | (rfl) | rfl)) (by exact Or.inl rfl) ?_
 intro i a w hok0 h
 have hul:=rndL_len x0 i
 have hi40:i≤40:=by rcases hok0 with h | h;omega;have:=inR_t h.2;omega
 refine wp_seq (wp_seq ?_)
 by_cases h1:((i:Nat):Int) < x1
 ·refine at_regq [{}, {}, { hint := some (aB true) }] { ts := [0, 1, 4, 5, 6, 12, 13, 14], os := [1] } [(AV.p (.c (.v (.bool (decide (((i : Nat) : Int) < x1))))) = AV.p (.c (.v (.bool true)))), True] gamOK hT h (by kernel_rfl) ⟨hint_bool (decide_eq_true h1), trivial, trivial⟩ fun a w h => then_normal ?_
  refine at_test ((inR x1 1 40)) h (by kernel_rfl) (fun h2=>?_) (fun h2=>?_)
  ·have hvh2 := inR_t h2
   refine wp_skip (then_normal (wp_seq (wp_block ?_)))
   refine at_regq [{},{},{},{},{ ids:=[2] },{ ids:=[3] }] { ts:=[0,1,4,5,6,12,13],os:=[3] } [True,(List.length (rndL x0 i)+List.length ([(rndN x0 ((i:Nat):Int) 1019)]))*8≤140737488355328] gamOK hT h (by kernel_rfl) ⟨trivial,(by first | omega | (simp only [lsA];omega) | (simp<;>omega)),trivial⟩ fun a w h=>in_normal (then_normal ?_)
   refine at_regq [{},{ nw:=true }] { ts:=[0,1,4,5,6,12,13],os:=[3] } [I64 (((i:Nat):Int)+1)] gamOK hT h (by kernel_rfl) ⟨⟨by first | omega | (simp only [lsA];omega) | (simp<;>omega),by first | omega | (simp only [lsA];omega) | (simp<;>omega)⟩,trivial⟩ fun a w h=>?_
   replace h:=at_out (σ':=⟨[(0,aI x0),(1,aI x1),(4,.p (.c (cN))),(5,aS 1),(6,aI (((i:Nat):Int)+1))],[(1,oR (.int 3) ((rndL x0 i)++([(rndN x0 ((i:Nat):Int) 1019)])))]⟩) { ts:=[0,1,4,5,6],os:=[3],rn:=[(3,1)] } h (by kernel_rfl)
   exact ⟨i+1,at_eq h (st_congr2 (fun (d0:List Int) (d1:Int)=>(⟨[(0,aI x0),(1,aI x1),(4,.p (.c (cN))),(5,aS 1),(6,aI d1)],[(1,oR (.int 3) d0)]⟩:St)) (show (((rndL x0 i)++([(rndN x0 ((i:Nat):Int) 1019)])):List Int)=(rndL x0 (i+1)) from by first | with_reducible rfl | ((rw [rndL_snoc];done)) | rfl) (show (((i:Nat):Int)+1:Int)=(((i+1):Nat):Int) from by first | with_reducible rfl | (omega) | rfl)),(by exact Or.inr ⟨by omega,by assumption⟩),(by omega)⟩
  ·have hvh2 := inR_f h2
   refine wp_exit (then_exit ?_)
   replace h:=at_out (σ':=⟨[(4,.p (.c (cN))),(5,aS 1)],[(1,oR (.int 3) (rndL x0 i))]⟩) { ts:=[4,5],os:=[1] } h (by kernel_rfl)
   replace h:=at_eq (σ':=⟨[(4,.p (.c (cN))),(5,aS 1)],[(1,oR (.int 3) (rndS x0 x1))]⟩) h (st_congr1 (fun (d0:List Int)=>(⟨[(4,.p (.c (cN))),(5,aS 1)],[(1,oR (.int 3) d0)]⟩:St)) (show ((rndL x0 i):List Int)=(rndS x0 x1) from by first | with_reducible rfl | (exact rndS_eq hok0 (by first | (left;omega) | (right;assumption))) | rfl))
   refine then_exit (in_hit (then_normal (wp_seq (wp_seq ?_))))
   by_cases h3:((List.length (rndS x0 x1):Nat):Int) > 0
   ·refine at_regq [{}, {}, { hint := some (aB true) }] { ts := [4, 5, 30], os := [1] } [(AV.p (.c (.v (.bool (decide (((List.length (rndS x0 x1) : Nat) : Int) > 0))))) = AV.p (.c (.v (.bool true)))), Q_spec_LeadingIndex (rndS x0 x1)] gamOK hT h (by kernel_rfl) ⟨hint_bool (decide_eq_true h3), (by exact Sh.fit_len rfl (by omega)), trivial⟩ fun a w h => then_normal ?_
    refine at_test (decide ((LA.leadS (rndS x0 x1)) < 0)) h (by kernel_rfl) (fun h4=>?_) (fun h4=>?_)
    ·replace h4 : (LA.leadS (rndS x0 x1)) < 0 := of_decide_eq_true h4
     refine at_regq [] { ts:=[4,5],os:=[1] } [(0:Int)≤0∧0 < ((List.length (rndS x0 x1):Nat):Int),0 < List.length (rndS x0 x1)] gamOK hT h (by kernel_rfl) ⟨(by refine ⟨?_,?_⟩<;>(first | omega | (simp only [lsA];omega) | (simp<;>omega))),(by first | omega | (simp only [lsA];omega) | (simp<;>omega)),trivial⟩ fun a w h=>then_normal (wp_seq ?_)
     refine at_regq [] { ts:=[4],os:=[1] } [] gamOK hT h (by kernel_rfl) trivial fun a w h=>then_normal (wp_ret ?_)
     exact at_return ((List.set (rndS x0 x1) 0 1),()) [] h (by kernel_rfl) trivial (congrArg (fun z=>(z,())) (show ((List.set (rndS x0 x1) 0 1))=rndV x0 x1 from by (unfold rndV;first | (rw [if_pos ⟨by omega,by assumption⟩];done) | (rw [if_neg (fun e=>by have e1:=e.1;have e2:=e.2;first | omega | contradiction)];done))))
    ·replace h4 : ¬ ((LA.leadS (rndS x0 x1)) < 0) := of_decide_eq_false h4
     refine wp_skip (then_normal (wp_seq ?_))
     refine at_regq [] { ts:=[4],os:=[1] } [] gamOK hT h (by kernel_rfl) trivial fun a w h=>then_normal (wp_ret ?_)
     exact at_return ((rndS x0 x1),()) [] h (by kernel_rfl) trivial (congrArg (fun z=>(z,())) (show ((rndS x0 x1))=rndV x0 x1 from by (unfold rndV;first | (rw [if_pos ⟨by omega,by assumption⟩];done) | (rw [if_neg (fun e=>by have e1:=e.1;have e2:=e.2;first | omega | contradiction)];done))))
   ·refine at_regq [{}, {}, { hint := some (aB false) }] { ts := [4, 5, 30], os := [1] } [(AV.p (.c (.v (.bool (decide (((List.length (rndS x0 x1) : Nat) : Int) > 0))))) = AV.p (.c (.v (.bool false))))] gamOK hT h (by kernel_rfl) ⟨hint_bool (decide_eq_false h3), trivial⟩ fun a w h => then_normal ?_
    refine at_test false h (by kernel_rfl) (fun hh=>nomatch hh) (fun hh=>?_)
    refine wp_skip (then_normal (wp_seq ?_))
    refine at_regq [] { ts:=[4],os:=[1] } [] gamOK hT h (by kernel_rfl) trivial fun a w h=>then_normal (wp_ret ?_)
    exact at_return ((rndS x0 x1),()) [] h (by kernel_rfl) trivial (congrArg (fun z=>(z,())) (show ((rndS x0 x1))=rndV x0 x1 from by (unfold rndV;first | (rw [if_pos ⟨by omega,by assumption⟩];done) | (rw [if_neg (fun e=>by have e1:=e.1;have e2:=e.2;first | omega | contradiction)];done))))
 ·refine at_regq [{}, {}, { hint := some (aB false) }] { ts := [0, 1, 4, 5, 6, 12, 13, 14], os := [1] } [(AV.p (.c (.v (.bool (decide (((i : Nat) : Int) < x1))))) = AV.p (.c (.v (.bool false))))] gamOK hT h (by kernel_rfl) ⟨hint_bool (decide_eq_false h1), trivial⟩ fun a w h => then_normal ?_
  refine at_test false h (by kernel_rfl) (fun hh=>nomatch hh) (fun hh=>?_)
  refine wp_exit (then_exit ?_)
  replace h:=at_out (σ':=⟨[(4,.p (.c (cN))),(5,aS 1)],[(1,oR (.int 3) (rndL x0 i))]⟩) { ts:=[4,5],os:=[1] } h (by kernel_rfl)
  replace h:=at_eq (σ':=⟨[(4,.p (.c (cN))),(5,aS 1)],[(1,oR (.int 3) (rndS x0 x1))]⟩) h (st_congr1 (fun (d0:List Int)=>(⟨[(4,.p (.c (cN))),(5,aS 1)],[(1,oR (.int 3) d0)]⟩:St)) (show ((rndL x0 i):List Int)=(rndS x0 x1) from by first | with_reducible rfl | (exact rndS_eq hok0 (by first | (left;omega) | (right;assumption))) | rfl))
  refine then_exit (in_hit (then_normal (wp_seq (wp_seq ?_))))
  by_cases h5:((List.length (rndS x0 x1):Nat):Int) > 0
  ·refine at_regq [{}, {}, { hint := some (aB true) }] { ts := [4, 5, 30], os := [1] } [(AV.p (.c (.v (.bool (decide (((List.length (rndS x0 x1) : Nat) : Int) > 0))))) = AV.p (.c (.v (.bool true)))), Q_spec_LeadingIndex (rndS x0 x1)] gamOK hT h (by kernel_rfl) ⟨hint_bool (decide_eq_true h5), (by exact Sh.fit_len rfl (by omega)), trivial⟩ fun a w h => then_normal ?_
   refine at_test (decide ((LA.leadS (rndS x0 x1)) < 0)) h (by kernel_rfl) (fun h6=>?_) (fun h6=>?_)
   ·replace h6 : (LA.leadS (rndS x0 x1)) < 0 := of_decide_eq_true h6
    refine at_regq [] { ts:=[4,5],os:=[1] } [(0:Int)≤0∧0 < ((List.length (rndS x0 x1):Nat):Int),0 < List.length (rndS x0 x1)] gamOK hT h (by kernel_rfl) ⟨(by refine ⟨?_,?_⟩<;>(first | omega | (simp only [lsA];omega) | (simp<;>omega))),(by first | omega | (simp only [lsA];omega) | (simp<;>omega)),trivial⟩ fun a w h=>then_normal (wp_seq ?_)
    refine at_regq [] { ts:=[4],os:=[1] } [] gamOK hT h (by kernel_rfl) trivial fun a w h=>then_normal (wp_ret ?_)
    exact at_return ((List.set (rndS x0 x1) 0 1),()) [] h (by kernel_rfl) trivial (congrArg (fun z=>(z,())) (show ((List.set (rndS x0 x1) 0 1))=rndV x0 x1 from by (unfold rndV;first | (rw [if_pos ⟨by omega,by assumption⟩];done) | (rw [if_neg (fun e=>by have e1:=e.1;have e2:=e.2;first | omega | contradiction)];done))))
   ·replace h6 : ¬ ((LA.leadS (rndS x0 x1)) < 0) := of_decide_eq_false h6
    refine wp_skip (then_normal (wp_seq ?_))
    refine at_regq [] { ts:=[4],os:=[1] } [] gamOK hT h (by kernel_rfl) trivial fun a w h=>then_normal (wp_ret ?_)
    exact at_return ((rndS x0 x1),()) [] h (by kernel_rfl) trivial (congrArg (fun z=>(z,())) (show ((rndS x0 x1))=rndV x0 x1 from by (unfold rndV;first | (rw [if_pos ⟨by omega,by assumption⟩];done) | (rw [if_neg (fun e=>by have e1:=e.1;have e2:=e.2;first | omega | contradiction)];done))))
  ·refine at_regq [{}, {}, { hint := some (aB false) }] { ts := [4, 5, 30], os := [1] } [(AV.p (.c (.v (.bool (decide (((List.length (rndS x0 x1) : Nat) : Int) > 0))))) = AV.p (.c (.v (.bool false))))] gamOK hT h (by kernel_rfl) ⟨hint_bool (decide_eq_false h5), trivial⟩ fun a w h => then_normal ?_
   refine at_test false h (by kernel_rfl) (fun hh=>nomatch hh) (fun hh=>?_)
   refine wp_skip (then_normal (wp_seq ?_))
   refine at_regq [] { ts:=[4],os:=[1] } [] gamOK hT h (by kernel_rfl) trivial fun a w h=>then_normal (wp_ret ?_)
   exact at_return ((rndS x0 x1),()) [] h (by kernel_rfl) trivial (congrArg (fun z=>(z,())) (show ((rndS x0 x1))=rndV x0 x1 from by (unfold rndV;first | (rw [if_pos ⟨by omega,by assumption⟩];done) | (rw [if_neg (fun e=>by have e1:=e.1;have e2:=e.2;first | omega | contradiction)];done))))

abbrev Q_impl_combine:=(fun (x0:(List (List Int))) (x1:(List Int))=>Sh.fit s24 x0∧Sh.fit s33 x1∧combP x0 x1)
def S_impl_combine:Sum:={ fid:=133,dom:=[s24,s33],cod:=[s33],dp:=true,fz:=false,pre:=fun x=>Q_impl_combine x.1 x.2.1,g:=fun x=>((combS x.1 x.2.1),()) }
def S_impl_combine_tab:List (Nat×Sum):=[(82,S_impl_addScaled)]
theorem S_impl_combine_ok:FnOK Try.prog 133 S_impl_combine:=by
 refine at_enter 29 (fun x=>⟨[(0,aF s33 x.1),(1,aF (.int 3) x.2.1)],[]⟩) Try.func133 rfl (by kernel_rfl) (fun x=>rfl) ?_
 rintro w0 Z0 ⟨x0,x1,u⟩ a w
 revert x0 x1
 intro (x0:(List (List Int))) (x1:(List Int)) hpre hlens h
 replace hpre:Q_impl_combine x0 x1:=hpre
 have hT:TabOK Try.prog S_impl_combine_tab:=(.cons S_impl_addScaled_ok .nil)
 obtain ⟨hf0,hf1,hpx⟩:=hpre
 have hn0_1:List.length x0≤1073741824:=hf0.1
 have hn1_2:List.length x1≤1073741824:=hf1.1
 have hp1:=hpx.1
 refine wp_seq ?_
 refine at_regq [] { ts:=[0,1,4],os:=[] } [] gamOK hT h (by kernel_rfl) trivial fun a w h=>then_normal (wp_seq ?_)
 refine at_regq [{},{},{},{},{ ids:=[1] }] { ts:=[0,1,4,5],os:=[1] } [(0:Int)≤0∧0 < ((List.length x0:Nat):Int),(0:Int)≤((List.length (x0.getD 0 []):Nat):Int)∧((List.length (x0.getD 0 []):Nat):Int)=((List.length (x0.getD 0 []):Nat):Int)∧((List.length (x0.getD 0 []):Nat):Int)*(8:Nat)≤(140737488355328:Int)] gamOK hT h (by kernel_rfl) ⟨(by refine ⟨?_,?_⟩<;>(first | omega | (simp only [lsA];omega) | (simp<;>omega))),(by refine ⟨?_,?_,?_⟩<;>((have hA0:=mul_f ((List.length (x0.getD 0 []):Nat):Int) (8:Nat);have hL1:=(show List.length (x0.getD 0 [])≤1073741824 from ((Sh.fit_getD hf0 0)).1);first | omega | (simp only [lsA];omega) | (simp<;>omega)))),trivial⟩ fun a w h=>then_normal (wp_seq (wp_seq ?_))
 refine at_regq [] { ts:=[1,4,5,13,14,15],os:=[1] } [] gamOK hT h (by kernel_rfl) trivial fun a w h=>then_normal (wp_block ?_)
 replace h:=at_out (σ':=⟨[(1,aF (.int 3) x1),(4,.p (.c (cN))),(5,aS 1),(13,aF s33 x0),(14,aI ((List.length x0:Nat):Int)),(15,aI 0)],[(1,oR (.int 3) (List.replicate (List.length (x0.getD 0 [])) (0:Int)))]⟩) { ts:=[1,4,5,13,14,15],os:=[1] } h (by kernel_rfl)
 refine at_loop (fun i:Nat=>(⟨[(1,aF (.int 3) x1),(4,.p (.c (cN))),(5,aS 1),(13,aF s33 x0),(14,aI ((List.length x0:Nat):Int)),(15,aI ((i:Nat):Int))],[(1,oR (.int 3) (combTo x0 x1 i))]⟩:St)) (fun i=>i≤List.length x0) (fun i=>List.length x0 - i) (0) h (st_congr2 (fun (d0:List Int) (d1:Int)=>(⟨[(1,aF (.int 3) x1),(4,.p (.c (cN))),(5,aS 1),(13,aF s33 x0),(14,aI ((List.length x0:Nat):Int)),(15,aI d1)],[(1,oR (.int 3) d0)]⟩:St)) (show ((List.replicate (List.length (x0.getD 0 [])) (0:Int)):List Int)=(combTo x0 x1 (0)) from by first | with_reducible rfl | (rfl) | rfl) (show (0:Int)=(((0):Nat):Int) from by first | with_reducible rfl | (rfl) | rfl)) (by omega) ?_
 intro i a w hok0 h
 refine wp_seq ?_
 refine at_regq [] { ts:=[1,4,5,13,14,15,16],os:=[1] } [] gamOK hT h (by kernel_rfl) trivial fun a w h=>then_normal (wp_seq ?_)
 refine at_test (decide (((i:Nat):Int) < ((List.length x0:Nat):Int))) h (by kernel_rfl) (fun h1=>?_) (fun h1=>?_)
 ·replace h1 : ((i : Nat) : Int) < ((List.length x0 : Nat) : Int) := of_decide_eq_true h1
  have hcv:=hpx.2.1 i (by omega)
  have hco:=combTo_ok (n:=List.length (x0.getD 0 [])) (vs:=x0) (cs:=x1) rfl hpx.2.2 i (fun j hj=>hpx.2.1 j (by omega))
  have hck:=hpx.2.2 i
  refine wp_skip (then_normal (wp_seq (wp_block (wp_seq ?_))))
  refine at_regq [] { ts:=[1,4,5,6,7,13,14,15],os:=[1] } [(0:Int)≤((i:Nat):Int)∧((i:Nat):Int) < ((List.length x0:Nat):Int)] gamOK hT h (by kernel_rfl) ⟨(by refine ⟨?_,?_⟩<;>(first | omega | (simp only [lsA];omega) | (simp<;>omega))),trivial⟩ fun a w h=>then_normal ?_
  refine at_regq [] { ts:=[1,4,5,13,14,15],os:=[1] } [(0:Int)≤((i:Nat):Int)∧((i:Nat):Int) < ((List.length x1:Nat):Int),Q_impl_addScaled (combTo x0 x1 i) (x0.getD i []) (x1.getD i 0)] gamOK hT h (by kernel_rfl) ⟨(by refine ⟨?_,?_⟩<;>(first | omega | (simp only [lsA];omega) | (simp<;>omega))),(by exact ⟨fitV hco (by omega),fitV hcv (by omega),addOK_of hco hcv (by omega)⟩),trivial⟩ fun a w h=>in_normal (then_normal ?_)
  refine at_regq [{ nw:=true }] { ts:=[1,4,5,13,14,15],os:=[1] } [I64 (((i:Nat):Int)+1)] gamOK hT h (by kernel_rfl) ⟨⟨by first | omega | (simp only [lsA];omega) | (simp<;>omega),by first | omega | (simp only [lsA];omega) | (simp<;>omega)⟩,trivial⟩ fun a w h=>?_
  replace h:=at_out (σ':=⟨[(1,aF (.int 3) x1),(4,.p (.c (cN))),(5,aS 1),(13,aF s33 x0),(14,aI ((List.length x0:Nat):Int)),(15,aI (((i:Nat):Int)+1))],[(1,oR (.int 3) (LA.addS (combTo x0 x1 i) (x0.getD i []) (x1.getD i 0)))]⟩) { ts:=[1,4,5,13,14,15],os:=[1] } h (by kernel_rfl)
  exact ⟨i+1,at_eq h (st_congr2 (fun (d0:List Int) (d1:Int)=>(⟨[(1,aF (.int 3) x1),(4,.p (.c (cN))),(5,aS 1),(13,aF s33 x0),(14,aI ((List.length x0:Nat):Int)),(15,aI d1)],[(1,oR (.int 3) d0)]⟩:St)) (show ((LA.addS (combTo x0 x1 i) (x0.getD i []) (x1.getD i 0)):List Int)=(combTo x0 x1 (i+1)) from by first | with_reducible rfl | (rfl) | rfl) (show (((i:Nat):Int)+1:Int)=(((i+1):Nat):Int) from by first | with_reducible rfl | (omega) | rfl)),(by omega),(by omega)⟩
 ·replace h1 : ¬ (((i : Nat) : Int) < ((List.length x0 : Nat) : Int)) := of_decide_eq_false h1
  refine wp_exit (then_exit (then_exit (in_hit (then_normal (wp_seq ?_)))))
  refine at_regq [] { ts:=[4],os:=[1] } [] gamOK hT h (by kernel_rfl) trivial fun a w h=>then_normal (wp_ret ?_)
  exact at_return ((combTo x0 x1 i),()) [] h (by kernel_rfl) trivial (congrArg (fun z=>(z,())) (show ((combTo x0 x1 i))=combS x0 x1 from by (show _=combTo x0 x1 (List.length x0);rw [show List.length x0=i by omega])))

abbrev Q_impl_Combine:=(fun (x0:(List (List Int))) (x1:(List Int))=>Sh.fit s24 x0∧Sh.fit s33 x1)
def S_impl_Combine:Sum:={ fid:=115,dom:=[s24,s33],cod:=[s33],dp:=true,fz:=false,pre:=fun x=>Q_impl_Combine x.1 x.2.1,g:=fun x=>((combV x.1 x.2.1),()) }
def S_impl_Combine_tab:List (Nat×Sum):=[(79,S_impl_IsValidVector),(133,S_impl_combine)]
theorem S_impl_Combine_ok:FnOK Try.prog 115 S_impl_Combine:=by
 refine at_enter 44 (fun x=>⟨[(0,aF s33 x.1),(1,aF (.int 3) x.2.1)],[]⟩) Try.func115 rfl (by kernel_rfl) (fun x=>rfl) ?_
 rintro w0 Z0 ⟨x0,x1,u⟩ a w
 revert x0 x1
 intro (x0:(List (List Int))) (x1:(List Int)) hpre hlens h
 replace hpre:Q_impl_Combine x0 x1:=hpre
 have hT:TabOK Try.prog S_impl_Combine_tab:=(.cons S_impl_IsValidVector_ok (.cons S_impl_combine_ok .nil))
 obtain ⟨hf0,hf1⟩:=hpre
 have hn0_1:List.length x0≤1073741824:=hf0.1
 have hn1_2:List.length x1≤1073741824:=hf1.1
 refine wp_seq ?_
 refine at_regq [] { ts:=[0,1,4],os:=[] } [] gamOK hT h (by kernel_rfl) trivial fun a w h=>then_normal (wp_seq (wp_seq ?_))
 by_cases h1:((List.length x0:Nat):Int)=0
 ·refine at_regq [{}, {}, { hint := some (aB true) }] { ts := [0, 1, 4, 21], os := [] } [(AV.p (.c (.v (.bool (decide (((List.length x0 : Nat) : Int) = 0))))) = AV.p (.c (.v (.bool true))))] gamOK hT h (by kernel_rfl) ⟨hint_bool (decide_eq_true h1), trivial⟩ fun a w h => then_normal ?_
  refine at_test true h (by kernel_rfl) (fun hh=>?_) (fun hh=>nomatch hh)
  refine wp_seq ?_
  refine at_regq [] { ts:=[0,1,4],os:=[] } [] gamOK hT h (by kernel_rfl) trivial fun a w h=>then_normal (wp_ret (then_ret ?_))
  exact at_return (([]:List Int),()) [] h (by kernel_rfl) trivial (congrArg (fun z=>(z,())) (show (([]:List Int))=combV x0 x1 from by first | exact combV_y (by omega) (by omega) (by assumption) (by assumption) | exact combV_n (by first | (left;omega) | (right;left;omega) | (right;right;left;assumption) | (right;right;right;assumption))))
 ·by_cases h2 : ((List.length x0 : Nat) : Int) = ((List.length x1 : Nat) : Int)
  ·refine at_regq [{}, {}, { hint := some (aB false) }, {}, {}, {}, {}, {}, { hint := some (aB false) }] { ts := [0, 1, 4, 21], os := [] } [(AV.p (.c (.v (.bool (decide (((List.length x0 : Nat) : Int) = 0))))) = AV.p (.c (.v (.bool false)))), (AV.p (.c (.v (.bool (!decide (((List.length x0 : Nat) : Int) = ((List.length x1 : Nat) : Int)))))) = AV.p (.c (.v (.bool false)))), Q_impl_IsValidVector x1] gamOK hT h (by kernel_rfl) ⟨hint_bool (decide_eq_false h1), hint_bool (ndT h2), (by exact hf1), trivial⟩ fun a w h => then_normal ?_
   refine at_test (!(validV x1)) h (by kernel_rfl) (fun h3=>?_) (fun h3=>?_)
   ·replace h3 : (validV x1) = false := notT h3
    refine wp_seq ?_
    refine at_regq [] { ts:=[0,1,4],os:=[] } [] gamOK hT h (by kernel_rfl) trivial fun a w h=>then_normal (wp_ret (then_ret ?_))
    exact at_return (([]:List Int),()) [] h (by kernel_rfl) trivial (congrArg (fun z=>(z,())) (show (([]:List Int))=combV x0 x1 from by first | exact combV_y (by omega) (by omega) (by assumption) (by assumption) | exact combV_n (by first | (left;omega) | (right;left;omega) | (right;right;left;assumption) | (right;right;right;assumption))))
   ·replace h3 : (validV x1) = true := notF h3
    have hvh3:=validV_t h3
    refine wp_skip (then_normal (wp_seq (wp_seq ?_)))
    refine at_regq [] { ts:=[0,1,4,22,23,24],os:=[] } [] gamOK hT h (by kernel_rfl) trivial fun a w h=>then_normal (wp_block ?_)
    replace h:=at_out (σ':=⟨[(0,aF s33 x0),(1,aF (.int 3) x1),(4,.p (.c (cN))),(22,aF s33 x0),(23,aI ((List.length x0:Nat):Int)),(24,aI 0)],[]⟩) { ts:=[0,1,4,22,23,24],os:=[] } h (by kernel_rfl)
    refine at_loop (fun i:Nat=>(⟨[(0,aF s33 x0),(1,aF (.int 3) x1),(4,.p (.c (cN))),(22,aF s33 x0),(23,aI ((List.length x0:Nat):Int)),(24,aI ((i:Nat):Int))],[]⟩:St)) (fun i=>(i≤List.length x0∧allTo1 (cvB x0) x0 [] i)) (fun i=>List.length x0 - i) (0) h (st_congr1 (fun (d0:Int)=>(⟨[(0,aF s33 x0),(1,aF (.int 3) x1),(4,.p (.c (cN))),(22,aF s33 x0),(23,aI ((List.length x0:Nat):Int)),(24,aI d0)],[]⟩:St)) (show (0:Int)=(((0):Nat):Int) from by first | with_reducible rfl | (rfl) | rfl)) (by exact ⟨Nat.zero_le _,allTo1_zero⟩) ?_
    intro i a w hok0 h
    refine wp_seq ?_
    refine at_regq [] { ts:=[0,1,4,22,23,24,25],os:=[] } [] gamOK hT h (by kernel_rfl) trivial fun a w h=>then_normal (wp_seq ?_)
    refine at_test (decide (((i:Nat):Int) < ((List.length x0:Nat):Int))) h (by kernel_rfl) (fun h4=>?_) (fun h4=>?_)
    ·replace h4 : ((i : Nat) : Int) < ((List.length x0 : Nat) : Int) := of_decide_eq_true h4
     refine wp_skip (then_normal (wp_seq (wp_block (wp_seq ?_))))
     refine at_regq [] { ts:=[0,1,4,6,22,23,24],os:=[] } [(0:Int)≤((i:Nat):Int)∧((i:Nat):Int) < ((List.length x0:Nat):Int)] gamOK hT h (by kernel_rfl) ⟨(by refine ⟨?_,?_⟩<;>(first | omega | (simp only [lsA];omega) | (simp<;>omega))),trivial⟩ fun a w h=>then_normal (wp_seq ?_)
     rcases Bool.eq_false_or_eq_true (!(validV (x0.getD i []))) with h5 | h5
     ·have hzh5 : (validV (x0.getD i [])) = false := notT h5
      refine at_regq [{},{},{ hint:=some (aB true) }] { ts:=[0,1,4,22,23,24,32,33,34,35,36,37,38,39],os:=[] } [Q_impl_IsValidVector (x0.getD i []),(AV.p (.c (.v (.bool (!(validV (x0.getD i []))))))=AV.p (.c (.v (.bool true))))] gamOK hT h (by kernel_rfl) ⟨(by exact (Sh.fit_getD hf0 i)),hint_bool (h5),trivial⟩ fun a w h=>then_normal ?_
      refine at_test true h (by kernel_rfl) (fun hh=>?_) (fun hh=>nomatch hh)
      refine wp_seq ?_
      refine at_regq [] { ts:=[0,1,4,22,23,24,32,33,34,35,36,37,38],os:=[] } [] gamOK hT h (by kernel_rfl) trivial fun a w h=>then_normal (wp_ret (in_ret (then_ret ?_)))
      have hs6:(List.all x0 (cvB x0))=false:=by exact all_at (z:=[]) (i:=i) (by omega) (by (show ((validV _) && _)=false;rw [Bool.and_eq_false_iff];first | (left;assumption) | (right;exact decide_eq_false (by omega))))
      refine then_ret (in_ret (then_ret ?_))
      exact at_return (([]:List Int),()) [] h (by kernel_rfl) trivial (congrArg (fun z=>(z,())) (show (([]:List Int))=combV x0 x1 from by first | exact combV_y (by omega) (by omega) (by assumption) (by assumption) | exact combV_n (by first | (left;omega) | (right;left;omega) | (right;right;left;assumption) | (right;right;right;assumption))))
     ·have hzh5 : (validV (x0.getD i [])) = true := notF h5
      have hvh5:=validV_t (notF h5)
      refine at_regq [{},{},{ hint:=some (aB false) }] { ts:=[0,1,4,22,23,24,32,33,34,35,36,37,38,39],os:=[] } [Q_impl_IsValidVector (x0.getD i []),(AV.p (.c (.v (.bool (!(validV (x0.getD i []))))))=AV.p (.c (.v (.bool false)))),(0:Int)≤0∧0 < ((List.length x0:Nat):Int)] gamOK hT h (by kernel_rfl) ⟨(by exact (Sh.fit_getD hf0 i)),hint_bool (h5),(by refine ⟨?_,?_⟩<;>(first | omega | (simp only [lsA];omega) | (simp<;>omega))),trivial⟩ fun a w h=>then_normal ?_
      refine at_test (!decide (((List.length (x0.getD i []):Nat):Int)=((List.length (x0.getD 0 []):Nat):Int))) h (by kernel_rfl) (fun h7=>?_) (fun h7=>?_)
      ·replace h7 : ¬ (((List.length (x0.getD i []) : Nat) : Int) = ((List.length (x0.getD 0 []) : Nat) : Int)) := of_decide_eq_false (notT h7)
       refine wp_seq ?_
       refine at_regq [] { ts:=[0,1,4,22,23,24,32,33,34,35,36,37,38],os:=[] } [] gamOK hT h (by kernel_rfl) trivial fun a w h=>then_normal (wp_ret (in_ret (then_ret ?_)))
       have hs8:(List.all x0 (cvB x0))=false:=by exact all_at (z:=[]) (i:=i) (by omega) (by (show ((validV _) && _)=false;rw [Bool.and_eq_false_iff];first | (left;assumption) | (right;exact decide_eq_false (by omega))))
       refine then_ret (in_ret (then_ret ?_))
       exact at_return (([]:List Int),()) [] h (by kernel_rfl) trivial (congrArg (fun z=>(z,())) (show (([]:List Int))=combV x0 x1 from by first | exact combV_y (by omega) (by omega) (by assumption) (by assumption) | exact combV_n (by first | (left;omega) | (right;left;omega) | (right;right;left;assumption) | (right;right;right;assumption))))
      ·replace h7 : ((List.length (x0.getD i []) : Nat) : Int) = ((List.length (x0.getD 0 []) : Nat) : Int) := of_decide_eq_true (notF h7)
       refine wp_skip (in_normal (then_normal ?_))
       refine at_regq [{ nw:=true }] { ts:=[0,1,4,22,23,24,32,33,34,35,36,37,38],os:=[] } [I64 (((i:Nat):Int)+1)] gamOK hT h (by kernel_rfl) ⟨⟨by first | omega | (simp only [lsA];omega) | (simp<;>omega),by first | omega | (simp only [lsA];omega) | (simp<;>omega)⟩,trivial⟩ fun a w h=>?_
       replace h:=at_out (σ':=⟨[(0,aF s33 x0),(1,aF (.int 3) x1),(4,.p (.c (cN))),(22,aF s33 x0),(23,aI ((List.length x0:Nat):Int)),(24,aI (((i:Nat):Int)+1))],[]⟩) { ts:=[0,1,4,22,23,24],os:=[] } h (by kernel_rfl)
       exact ⟨i+1,at_eq h (st_congr1 (fun (d0:Int)=>(⟨[(0,aF s33 x0),(1,aF (.int 3) x1),(4,.p (.c (cN))),(22,aF s33 x0),(23,aI ((List.length x0:Nat):Int)),(24,aI d0)],[]⟩:St)) (show (((i:Nat):Int)+1:Int)=(((i+1):Nat):Int) from by first | with_reducible rfl | (omega) | rfl)),(by exact ⟨by omega,allTo1_succ hok0.2 (by (show ((validV _) && _)=true;rw [Bool.and_eq_true];exact ⟨by assumption,decide_eq_true (by omega)⟩))⟩),(by omega)⟩
    ·replace h4 : ¬ (((i : Nat) : Int) < ((List.length x0 : Nat) : Int)) := of_decide_eq_false h4
     refine wp_exit (then_exit ?_)
     have hs9:(List.all x0 (cvB x0))=true:=by exact all_of (z:=[]) (i:=i) (by omega) hok0.2
     refine then_exit (in_hit (then_normal (wp_seq ?_)))
     refine at_regq [{},{},{ ids:=[1] }] { ts:=[4],os:=[1] } [Q_impl_combine x0 x1] gamOK hT h (by kernel_rfl) ⟨(by exact ⟨hf0,hf1,⟨by omega,by omega,cvB_40 (List.all_eq_true.1 (by assumption) _ (getD_mem (z:=[]) (show 0 < List.length x0 by omega)))⟩,fun j hj=>cvB_ok (List.all_eq_true.1 (by assumption) _ (getD_mem hj)),(validV_t (by assumption)).2.2⟩),trivial⟩ fun a w h=>then_normal (wp_ret ?_)
     exact at_return ((combS x0 x1),()) [] h (by kernel_rfl) trivial (congrArg (fun z=>(z,())) (show ((combS x0 x1))=combV x0 x1 from by first | exact combV_y (by omega) (by omega) (by assumption) (by assumption) | exact combV_n (by first | (left;omega) | (right;left;omega) | (right;right;left;assumption) | (right;right;right;assumption))))
  ·refine at_regq [{}, {}, { hint := some (aB false) }, {}, {}, {}, {}, {}, { hint := some (aB true) }] { ts := [0, 1, 4, 21], os := [] } [(AV.p (.c (.v (.bool (decide (((List.length x0 : Nat) : Int) = 0))))) = AV.p (.c (.v (.bool false)))), (AV.p (.c (.v (.bool (!decide (((List.length x0 : Nat) : Int) = ((List.length x1 : Nat) : Int)))))) = AV.p (.c (.v (.bool true))))] gamOK hT h (by kernel_rfl) ⟨hint_bool (decide_eq_false h1), hint_bool (ndF h2), trivial⟩ fun a w h => then_normal ?_
   refine at_test true h (by kernel_rfl) (fun hh=>?_) (fun hh=>nomatch hh)
   refine wp_seq ?_
   refine at_regq [] { ts:=[0,1,4],os:=[] } [] gamOK hT h (by kernel_rfl) trivial fun a w h=>then_normal (wp_ret (then_ret ?_))
   exact at_return (([]:List Int),()) [] h (by kernel_rfl) trivial (congrArg (fun z=>(z,())) (show (([]:List Int))=combV x0 x1 from by first | exact combV_y (by omega) (by omega) (by assumption) (by assumption) | exact combV_n (by first | (left;omega) | (right;left;omega) | (right;right;left;assumption) | (right;right;right;assumption))))

abbrev Q_spec_Combine:=(fun (x0:(List (List Int))) (x1:(List Int))=>Sh.fit s24 x0∧Sh.fit s33 x1)
def S_spec_Combine:Sum:={ fid:=44,dom:=[s24,s33],cod:=[s33],dp:=true,fz:=false,pre:=fun x=>Q_spec_Combine x.1 x.2.1,g:=fun x=>((combV x.1 x.2.1),()) }
def S_spec_Combine_tab:List (Nat×Sum):=[(43,S_spec_IsValidVector),(70,S_spec_AddScaled)]
theorem S_spec_Combine_ok:FnOK Try.prog 44 S_spec_Combine:=by
 refine at_enter 64 (fun x=>⟨[(0,aF s33 x.1),(1,aF (.int 3) x.2.1)],[]⟩) Try.func44 rfl (by kernel_rfl) (fun x=>rfl) ?_
 rintro w0 Z0 ⟨x0,x1,u⟩ a w
 revert x0 x1
 intro (x0:(List (List Int))) (x1:(List Int)) hpre hlens h
 replace hpre:Q_spec_Combine x0 x1:=hpre
 have hT:TabOK Try.prog S_spec_Combine_tab:=(.cons S_spec_IsValidVector_ok (.cons S_spec_AddScaled_ok .nil))
 obtain ⟨hf0,hf1⟩:=hpre
 have hn0_1:List.length x0≤1073741824:=hf0.1
 have hn1_2:List.length x1≤1073741824:=hf1.1
 refine wp_seq ?_
 refine at_regq [] { ts:=[0,1,4],os:=[] } [] gamOK hT h (by kernel_rfl) trivial fun a w h=>then_normal (wp_seq (wp_seq ?_))
 by_cases h1:((List.length x0:Nat):Int)=0
 ·refine at_regq [{}, {}, { hint := some (aB true) }] { ts := [0, 1, 4, 21], os := [] } [(AV.p (.c (.v (.bool (decide (((List.length x0 : Nat) : Int) = 0))))) = AV.p (.c (.v (.bool true))))] gamOK hT h (by kernel_rfl) ⟨hint_bool (decide_eq_true h1), trivial⟩ fun a w h => then_normal ?_
  refine at_test true h (by kernel_rfl) (fun hh=>?_) (fun hh=>nomatch hh)
  refine wp_seq ?_
  refine at_regq [{ ids:=[1] }] { ts:=[0,1,4],os:=[1] } [] gamOK hT h (by kernel_rfl) trivial fun a w h=>then_normal (wp_ret (then_ret ?_))
  exact at_return (([]:List Int),()) [] h (by kernel_rfl) trivial (congrArg (fun z=>(z,())) (show (([]:List Int))=combV x0 x1 from by first | exact combV_n (by first | (left;omega) | (right;left;omega) | (right;right;left;assumption) | (right;right;right;assumption)) | (rw [← combV_y (by omega) (by omega) (by assumption) (all_of (z:=[]) (i:=i) (by omega) hok0.2)];show _=combTo x0 x1 (List.length x0);rw [show List.length x0=i by omega];done) | exact combV_n (Or.inr (Or.inr (Or.inr (all_at (z:=[]) (i:=i) (by omega) (by (show ((validV _) && _)=false;rw [Bool.and_eq_false_iff];first | (left;assumption) | (right;exact decide_eq_false (by omega))))))))))
 ·by_cases h2 : ((List.length x0 : Nat) : Int) = ((List.length x1 : Nat) : Int)
  ·refine at_regq [{}, {}, { hint := some (aB false) }, {}, {}, {}, {}, {}, { hint := some (aB false) }] { ts := [0, 1, 4, 21], os := [] } [(AV.p (.c (.v (.bool (decide (((List.length x0 : Nat) : Int) = 0))))) = AV.p (.c (.v (.bool false)))), (AV.p (.c (.v (.bool (!decide (((List.length x0 : Nat) : Int) = ((List.length x1 : Nat) : Int)))))) = AV.p (.c (.v (.bool false)))), Q_spec_IsValidVector x1] gamOK hT h (by kernel_rfl) ⟨hint_bool (decide_eq_false h1), hint_bool (ndT h2), (by exact hf1), trivial⟩ fun a w h => then_normal ?_
   refine at_test (!(validV x1)) h (by kernel_rfl) (fun h3=>?_) (fun h3=>?_)
   ·replace h3 : (validV x1) = false := notT h3
    refine wp_seq ?_
    refine at_regq [{ ids:=[1] }] { ts:=[0,1,4],os:=[1] } [] gamOK hT h (by kernel_rfl) trivial fun a w h=>then_normal (wp_ret (then_ret ?_))
    exact at_return (([]:List Int),()) [] h (by kernel_rfl) trivial (congrArg (fun z=>(z,())) (show (([]:List Int))=combV x0 x1 from by first | exact combV_n (by first | (left;omega) | (right;left;omega) | (right;right;left;assumption) | (right;right;right;assumption)) | (rw [← combV_y (by omega) (by omega) (by assumption) (all_of (z:=[]) (i:=i) (by omega) hok0.2)];show _=combTo x0 x1 (List.length x0);rw [show List.length x0=i by omega];done) | exact combV_n (Or.inr (Or.inr (Or.inr (all_at (z:=[]) (i:=i) (by omega) (by (show ((validV _) && _)=false;rw [Bool.and_eq_false_iff];first | (left;assumption) | (right;exact decide_eq_false (by omega))))))))))
   ·replace h3 : (validV x1) = true := notF h3
    have hvh3:=validV_t h3
    refine wp_skip (then_normal (wp_seq ?_))
    refine at_regq [{},{},{},{},{ ids:=[2] }] { ts:=[0,1,4,5],os:=[2] } [(0:Int)≤0∧0 < ((List.length x0:Nat):Int),(0:Int)≤((List.length (x0.getD 0 []):Nat):Int)∧((List.length (x0.getD 0 []):Nat):Int)=((List.length (x0.getD 0 []):Nat):Int)∧((List.length (x0.getD 0 []):Nat):Int)*(8:Nat)≤(140737488355328:Int)] gamOK hT h (by kernel_rfl) ⟨(by refine ⟨?_,?_⟩<;>(first | omega | (simp only [lsA];omega) | (simp<;>omega))),(by refine ⟨?_,?_,?_⟩<;>((have hA0:=mul_f ((List.length (x0.getD 0 []):Nat):Int) (8:Nat);have hL1:=(show List.length (x0.getD 0 [])≤1073741824 from ((Sh.fit_getD hf0 0)).1);first | omega | (simp only [lsA];omega) | (simp<;>omega)))),trivial⟩ fun a w h=>then_normal (wp_seq (wp_seq ?_))
    refine at_regq [] { ts:=[0,1,4,5,6],os:=[2] } [] gamOK hT h (by kernel_rfl) trivial fun a w h=>then_normal (wp_block ?_)
    replace h:=at_out (σ':=⟨[(0,aF s33 x0),(1,aF (.int 3) x1),(4,.p (.c (cN))),(5,aS 2),(6,aI 0)],[(2,oR (.int 3) (List.replicate (List.length (x0.getD 0 [])) (0:Int)))]⟩) { ts:=[0,1,4,5,6],os:=[2] } h (by kernel_rfl)
    refine at_loop (fun i:Nat=>(⟨[(0,aF s33 x0),(1,aF (.int 3) x1),(4,.p (.c (cN))),(5,aS 2),(6,aI ((i:Nat):Int))],[(2,oR (.int 3) (combTo x0 x1 i))]⟩:St)) (fun i=>(i≤List.length x0∧allTo1 (cvB x0) x0 [] i)) (fun i=>List.length x0 - i) (0) h (st_congr2 (fun (d0:List Int) (d1:Int)=>(⟨[(0,aF s33 x0),(1,aF (.int 3) x1),(4,.p (.c (cN))),(5,aS 2),(6,aI d1)],[(2,oR (.int 3) d0)]⟩:St)) (show ((List.replicate (List.length (x0.getD 0 [])) (0:Int)):List Int)=(combTo x0 x1 (0)) from by first | with_reducible rfl | (rfl) | rfl) (show (0:Int)=(((0):Nat):Int) from by first | with_reducible rfl | (rfl) | rfl)) (by exact ⟨Nat.zero_le _,allTo1_zero⟩) ?_
    intro i a w hok0 h
    refine wp_seq (wp_seq ?_)
    refine at_regq [] { ts:=[0,1,4,5,6,31],os:=[2] } [] gamOK hT h (by kernel_rfl) trivial fun a w h=>then_normal ?_
    refine at_test (decide (((i:Nat):Int) < ((List.length x0:Nat):Int))) h (by kernel_rfl) (fun h4=>?_) (fun h4=>?_)
    ·replace h4 : ((i : Nat) : Int) < ((List.length x0 : Nat) : Int) := of_decide_eq_true h4
     have hvr:=(validV_t (v:=x1) (by assumption)).2.2
     have hck:=hvr i
     refine wp_skip (then_normal (wp_seq (wp_block (wp_seq (wp_seq ?_)))))
     rcases Bool.eq_false_or_eq_true (!(validV (x0.getD i []))) with h5 | h5
     ·have hzh5 : (validV (x0.getD i [])) = false := notT h5
      refine at_anyq [{},{},{},{},{},{ hint:=some (aB true) },{},{},{},{},{},{},{},{},{},{},{},{}] { ts:=[0,1,4,5,6,41,42,43,44,45,46,47,48,49,50,51],os:=[2] } [(0:Int)≤((i:Nat):Int)∧((i:Nat):Int) < ((List.length x0:Nat):Int),Q_spec_IsValidVector (x0.getD i []),(AV.p (.c (.v (.bool (!(validV (x0.getD i []))))))=AV.p (.c (.v (.bool true))))] gamOK hT mixed h (by kernel_rfl) ⟨(by refine ⟨?_,?_⟩<;>(first | omega | (simp only [lsA];omega) | (simp<;>omega))),(by exact (Sh.fit_getD hf0 i)),hint_bool (h5),trivial⟩ fun a w h=>then_normal ?_
      refine at_test true h (by kernel_rfl) (fun hh=>?_) (fun hh=>nomatch hh)
      refine wp_seq ?_
      refine at_regq [{ ids:=[3] }] { ts:=[0,1,4,5,6,41,42,43,44,45,46,47,48,49,50],os:=[2,3] } [] gamOK hT h (by kernel_rfl) trivial fun a w h=>then_normal (wp_ret (then_ret (in_ret (then_ret (then_ret (in_ret (then_ret ?_)))))))
      exact at_return (([]:List Int),()) [] h (by kernel_rfl) trivial (congrArg (fun z=>(z,())) (show (([]:List Int))=combV x0 x1 from by first | exact combV_n (by first | (left;omega) | (right;left;omega) | (right;right;left;assumption) | (right;right;right;assumption)) | (rw [← combV_y (by omega) (by omega) (by assumption) (all_of (z:=[]) (i:=i) (by omega) hok0.2)];show _=combTo x0 x1 (List.length x0);rw [show List.length x0=i by omega];done) | exact combV_n (Or.inr (Or.inr (Or.inr (all_at (z:=[]) (i:=i) (by omega) (by (show ((validV _) && _)=false;rw [Bool.and_eq_false_iff];first | (left;assumption) | (right;exact decide_eq_false (by omega))))))))))
     ·have hzh5 : (validV (x0.getD i [])) = true := notF h5
      have hvh5:=validV_t (notF h5)
      refine at_anyq [{},{},{},{},{},{ hint:=some (aB false) },{},{},{},{},{},{},{},{},{},{},{},{}] { ts:=[0,1,4,5,6,41,42,43,44,45,46,47,48,49,50,51],os:=[2] } [(0:Int)≤((i:Nat):Int)∧((i:Nat):Int) < ((List.length x0:Nat):Int),Q_spec_IsValidVector (x0.getD i []),(AV.p (.c (.v (.bool (!(validV (x0.getD i []))))))=AV.p (.c (.v (.bool false)))),(0:Int)≤((i:Nat):Int)∧((i:Nat):Int) < ((List.length x0:Nat):Int),(0:Int)≤0∧0 < ((List.length x0:Nat):Int)] gamOK hT mixed h (by kernel_rfl) ⟨(by refine ⟨?_,?_⟩<;>(first | omega | (simp only [lsA];omega) | (simp<;>omega))),(by exact (Sh.fit_getD hf0 i)),hint_bool (h5),(by refine ⟨?_,?_⟩<;>(first | omega | (simp only [lsA];omega) | (simp<;>omega))),(by refine ⟨?_,?_⟩<;>(first | omega | (simp only [lsA];omega) | (simp<;>omega))),trivial⟩ fun a w h=>then_normal ?_
      refine at_test (!decide (((List.length (x0.getD i []):Nat):Int)=((List.length (x0.getD 0 []):Nat):Int))) h (by kernel_rfl) (fun h6=>?_) (fun h6=>?_)
      ·replace h6 : ¬ (((List.length (x0.getD i []) : Nat) : Int) = ((List.length (x0.getD 0 []) : Nat) : Int)) := of_decide_eq_false (notT h6)
       refine wp_seq ?_
       refine at_regq [{ ids:=[3] }] { ts:=[0,1,4,5,6,41,42,43,44,45,46,47,48,49,50],os:=[2,3] } [] gamOK hT h (by kernel_rfl) trivial fun a w h=>then_normal (wp_ret (then_ret (in_ret (then_ret (then_ret (in_ret (then_ret ?_)))))))
       exact at_return (([]:List Int),()) [] h (by kernel_rfl) trivial (congrArg (fun z=>(z,())) (show (([]:List Int))=combV x0 x1 from by first | exact combV_n (by first | (left;omega) | (right;left;omega) | (right;right;left;assumption) | (right;right;right;assumption)) | (rw [← combV_y (by omega) (by omega) (by assumption) (all_of (z:=[]) (i:=i) (by omega) hok0.2)];show _=combTo x0 x1 (List.length x0);rw [show List.length x0=i by omega];done) | exact combV_n (Or.inr (Or.inr (Or.inr (all_at (z:=[]) (i:=i) (by omega) (by (show ((validV _) && _)=false;rw [Bool.and_eq_false_iff];first | (left;assumption) | (right;exact decide_eq_false (by omega))))))))))
      ·replace h6 : ((List.length (x0.getD i []) : Nat) : Int) = ((List.length (x0.getD 0 []) : Nat) : Int) := of_decide_eq_true (notF h6)
       refine wp_skip (then_normal ?_)
       refine at_anyq [{},{},{},{},{},{},{},{},{},{ ids:=[4] },{}] { ts:=[0,1,4,5,6,41,42,43,44,45,46,47,48,49,50],os:=[4] } [(0:Int)≤((i:Nat):Int)∧((i:Nat):Int) < ((List.length x0:Nat):Int),(0:Int)≤((i:Nat):Int)∧((i:Nat):Int) < ((List.length x1:Nat):Int),Q_spec_AddScaled (combTo x0 x1 i) (x0.getD i []) (x1.getD i 0)] gamOK hT mixed h (by kernel_rfl) ⟨(by refine ⟨?_,?_⟩<;>(first | omega | (simp only [lsA];omega) | (simp<;>omega))),(by refine ⟨?_,?_⟩<;>(first | omega | (simp only [lsA];omega) | (simp<;>omega))),(by (have hci:cvB x0 (x0.getD i [])=true:=(by (show ((validV _) && _)=true;rw [Bool.and_eq_true];exact ⟨by assumption,decide_eq_true (by omega)⟩));have hcv:=cvB_ok hci;have hco:=combTo_ok (n:=List.length (x0.getD 0 [])) (vs:=x0) (cs:=x1) rfl hvr i (fun j hj=>cvB_ok (hok0.2 j hj));exact ⟨fitV hco (cvB_40 hci),fitV hcv (cvB_40 hci)⟩)),trivial⟩ fun a w h=>in_normal (then_normal ?_)
       refine at_regq [{},{ nw:=true }] { ts:=[0,1,4,5,6,41,42,43,44,45,46,47,48,49,50],os:=[4] } [I64 (((i:Nat):Int)+1)] gamOK hT h (by kernel_rfl) ⟨⟨by first | omega | (simp only [lsA];omega) | (simp<;>omega),by first | omega | (simp only [lsA];omega) | (simp<;>omega)⟩,trivial⟩ fun a w h=>?_
       replace h:=at_out (σ':=⟨[(0,aF s33 x0),(1,aF (.int 3) x1),(4,.p (.c (cN))),(5,aS 2),(6,aI (((i:Nat):Int)+1))],[(2,oR (.int 3) (addV (combTo x0 x1 i) (x0.getD i []) (x1.getD i 0)))]⟩) { ts:=[0,1,4,5,6],os:=[4],rn:=[(4,2)] } h (by kernel_rfl)
       exact ⟨i+1,at_eq h (st_congr2 (fun (d0:List Int) (d1:Int)=>(⟨[(0,aF s33 x0),(1,aF (.int 3) x1),(4,.p (.c (cN))),(5,aS 2),(6,aI d1)],[(2,oR (.int 3) d0)]⟩:St)) (show ((addV (combTo x0 x1 i) (x0.getD i []) (x1.getD i 0)):List Int)=(combTo x0 x1 (i+1)) from by first | with_reducible rfl | ((have hci:cvB x0 (x0.getD i [])=true:=(by (show ((validV _) && _)=true;rw [Bool.and_eq_true];exact ⟨by assumption,decide_eq_true (by omega)⟩));have hcv:=cvB_ok hci;have hco:=combTo_ok (n:=List.length (x0.getD 0 [])) (vs:=x0) (cs:=x1) rfl hvr i (fun j hj=>cvB_ok (hok0.2 j hj));rw [addV_L hco hcv (cvB_40 hci) (by omega)];rfl)) | rfl) (show (((i:Nat):Int)+1:Int)=(((i+1):Nat):Int) from by first | with_reducible rfl | (omega) | rfl)),(by exact ⟨by omega,allTo1_succ hok0.2 (by (show ((validV _) && _)=true;rw [Bool.and_eq_true];exact ⟨by assumption,decide_eq_true (by omega)⟩))⟩),(by omega)⟩
    ·replace h4 : ¬ (((i : Nat) : Int) < ((List.length x0 : Nat) : Int)) := of_decide_eq_false h4
     refine wp_exit (then_exit (then_exit (in_hit (then_normal (wp_seq ?_)))))
     refine at_regq [] { ts:=[4],os:=[2] } [] gamOK hT h (by kernel_rfl) trivial fun a w h=>then_normal (wp_ret ?_)
     exact at_return ((combTo x0 x1 i),()) [] h (by kernel_rfl) trivial (congrArg (fun z=>(z,())) (show ((combTo x0 x1 i))=combV x0 x1 from by first | exact combV_n (by first | (left;omega) | (right;left;omega) | (right;right;left;assumption) | (right;right;right;assumption)) | (rw [← combV_y (by omega) (by omega) (by assumption) (all_of (z:=[]) (i:=i) (by omega) hok0.2)];show _=combTo x0 x1 (List.length x0);rw [show List.length x0=i by omega];done) | exact combV_n (Or.inr (Or.inr (Or.inr (all_at (z:=[]) (i:=i) (by omega) (by (show ((validV _) && _)=false;rw [Bool.and_eq_false_iff];first | (left;assumption) | (right;exact decide_eq_false (by omega))))))))))
  ·refine at_regq [{}, {}, { hint := some (aB false) }, {}, {}, {}, {}, {}, { hint := some (aB true) }] { ts := [0, 1, 4, 21], os := [] } [(AV.p (.c (.v (.bool (decide (((List.length x0 : Nat) : Int) = 0))))) = AV.p (.c (.v (.bool false)))), (AV.p (.c (.v (.bool (!decide (((List.length x0 : Nat) : Int) = ((List.length x1 : Nat) : Int)))))) = AV.p (.c (.v (.bool true))))] gamOK hT h (by kernel_rfl) ⟨hint_bool (decide_eq_false h1), hint_bool (ndF h2), trivial⟩ fun a w h => then_normal ?_
   refine at_test true h (by kernel_rfl) (fun hh=>?_) (fun hh=>nomatch hh)
   refine wp_seq ?_
   refine at_regq [{ ids:=[1] }] { ts:=[0,1,4],os:=[1] } [] gamOK hT h (by kernel_rfl) trivial fun a w h=>then_normal (wp_ret (then_ret ?_))
   exact at_return (([]:List Int),()) [] h (by kernel_rfl) trivial (congrArg (fun z=>(z,())) (show (([]:List Int))=combV x0 x1 from by first | exact combV_n (by first | (left;omega) | (right;left;omega) | (right;right;left;assumption) | (right;right;right;assumption)) | (rw [← combV_y (by omega) (by omega) (by assumption) (all_of (z:=[]) (i:=i) (by omega) hok0.2)];show _=combTo x0 x1 (List.length x0);rw [show List.length x0=i by omega];done) | exact combV_n (Or.inr (Or.inr (Or.inr (all_at (z:=[]) (i:=i) (by omega) (by (show ((validV _) && _)=false;rw [Bool.and_eq_false_iff];first | (left;assumption) | (right;exact decide_eq_false (by omega))))))))))

abbrev Q_impl_CombinePackets:=(fun (x0:(List T38)) (x1:(List Int))=>Sh.fit s52 x0∧Sh.fit s33 x1)
def S_impl_CombinePackets:Sum:={ fid:=85,dom:=[s52,s33],cod:=[s38,(.bool 4)],dp:=true,fz:=false,pre:=fun x=>Q_impl_CombinePackets x.1 x.2.1,g:=fun x=>((comP x.1 x.2.1).1,((comP x.1 x.2.1).2,())) }
def S_impl_CombinePackets_tab:List (Nat×Sum):=[(115,S_impl_Combine)]
theorem S_impl_CombinePackets_ok:FnOK Try.prog 85 S_impl_CombinePackets:=by
 refine at_enter 60 (fun x=>⟨[(0,aF s38 x.1),(1,aF (.int 3) x.2.1)],[]⟩) Try.func85 rfl (by kernel_rfl) (fun x=>rfl) ?_
 rintro w0 Z0 ⟨x0,x1,u⟩ a w
 revert x0 x1
 intro (x0:(List T38)) (x1:(List Int)) hpre hlens h
 replace hpre:Q_impl_CombinePackets x0 x1:=hpre
 have hT:TabOK Try.prog S_impl_CombinePackets_tab:=(.cons S_impl_Combine_ok .nil)
 obtain ⟨hf0,hf1⟩:=hpre
 have hn0_1:List.length x0≤1073741824:=hf0.1
 have hn1_2:List.length x1≤1073741824:=hf1.1
 refine wp_seq ?_
 refine at_regq [{ ids:=[1] }] { ts:=[0,1,4,5],os:=[1] } [] gamOK hT h (by kernel_rfl) trivial fun a w h=>then_normal (wp_seq ?_)
 refine at_regq [] { ts:=[0,1,4,5,6,7],os:=[1] } [] gamOK hT h (by kernel_rfl) trivial fun a w h=>then_normal (wp_seq (wp_seq ?_))
 refine at_regq [] { ts:=[0,1,4,5,6,7,11,12,13],os:=[1] } [] gamOK hT h (by kernel_rfl) trivial fun a w h=>then_normal (wp_block ?_)
 replace h:=at_out (σ':=⟨[(0,aF s38 x0),(1,aF (.int 3) x1),(4,aP 1 0),(5,aB false),(6,aS 2),(7,aS 3),(11,aF s38 x0),(12,aI ((List.length x0:Nat):Int)),(13,aI 0)],[(1,oX 38 [cI 0,cN,cN]),(2,oF s33 ([]:List (List Int))),(3,oF s33 ([]:List (List Int)))]⟩) { mt:=[⟨none,6,2,false,s33⟩,⟨none,7,3,false,s33⟩],ts:=[0,1,4,5,6,7,11,12,13],os:=[1,2,3] } h (by kernel_rfl)
 refine at_loop (fun i:Nat=>(⟨[(0,aF s38 x0),(1,aF (.int 3) x1),(4,aP 1 0),(5,aB false),(6,aS 2),(7,aS 3),(11,aF s38 x0),(12,aI ((List.length x0:Nat):Int)),(13,aI ((i:Nat):Int))],[(1,oX 38 [cI 0,cN,cN]),(2,oF s33 (cofs (List.take i x0))),(3,oF s33 (pays (List.take i x0)))]⟩:St)) (fun i=>(i≤List.length x0∧allTo1 (fun p=>decide (p.1=(x0.getD 0 (0,([],[]))).1)) x0 (0,([],[])) i)) (fun i=>List.length x0 - i) (0) h (st_congr3 (fun (d0:List (List Int)) (d1:List (List Int)) (d2:Int)=>(⟨[(0,aF s38 x0),(1,aF (.int 3) x1),(4,aP 1 0),(5,aB false),(6,aS 2),(7,aS 3),(11,aF s38 x0),(12,aI ((List.length x0:Nat):Int)),(13,aI d2)],[(1,oX 38 [cI 0,cN,cN]),(2,oF s33 d0),(3,oF s33 d1)]⟩:St)) (show (([]:List (List Int)):List (List Int))=(cofs (List.take (0) x0)) from by first | with_reducible rfl | (rfl) | rfl) (show (([]:List (List Int)):List (List Int))=(pays (List.take (0) x0)) from by first | with_reducible rfl | (rfl) | rfl) (show (0:Int)=(((0):Nat):Int) from by first | with_reducible rfl | (rfl) | rfl)) (by exact ⟨Nat.zero_le _,allTo1_zero⟩) ?_
 intro i a w hok0 h
 have hcl:=cofs_len (List.take i x0)
 have hpl:=pays_len (List.take i x0)
 have hlt:=len_take_le (xs:=x0) i
 refine wp_seq ?_
 refine at_regq [] { ts:=[0,1,4,5,6,7,11,12,13,14],os:=[1,2,3] } [] gamOK hT h (by kernel_rfl) trivial fun a w h=>then_normal (wp_seq ?_)
 refine at_test (decide (((i:Nat):Int) < ((List.length x0:Nat):Int))) h (by kernel_rfl) (fun h1=>?_) (fun h1=>?_)
 ·replace h1 : ((i : Nat) : Int) < ((List.length x0 : Nat) : Int) := of_decide_eq_true h1
  refine wp_skip (then_normal (wp_seq (wp_block (wp_seq ?_))))
  refine at_regq [{},{},{ ids:=[4] }] { ts:=[0,1,4,5,6,7,9,11,12,13],os:=[1,2,3,4] } [(0:Int)≤((i:Nat):Int)∧((i:Nat):Int) < ((List.length x0:Nat):Int)] gamOK hT h (by kernel_rfl) ⟨(by refine ⟨?_,?_⟩<;>(first | omega | (simp only [lsA];omega) | (simp<;>omega))),trivial⟩ fun a w h=>then_normal (wp_seq (wp_seq ?_))
  refine at_anyq [{},{},{},{},{},{},{}] { ts:=[0,1,4,5,6,7,9,11,12,13,23],os:=[1,2,3,4] } [(0:Int)≤0∧0 < ((List.length x0:Nat):Int)] gamOK hT mixed h (by kernel_rfl) ⟨(by refine ⟨?_,?_⟩<;>(first | omega | (simp only [lsA];omega) | (simp<;>omega))),trivial⟩ fun a w h=>then_normal ?_
  refine at_test (!decide ((x0.getD i (0,([],[]))).1=(x0.getD 0 (0,([],[]))).1)) h (by kernel_rfl) (fun h2=>?_) (fun h2=>?_)
  ·replace h2 : ¬ ((x0.getD i (0, ([], []))).1 = (x0.getD 0 (0, ([], []))).1) := of_decide_eq_false (notT h2)
   refine wp_seq ?_
   refine at_regq [] { ts:=[0,1,4,5,6,7,9,11,12,13],os:=[1,2,3,4] } [] gamOK hT h (by kernel_rfl) trivial fun a w h=>then_normal (wp_ret (then_ret (in_ret (then_ret ?_))))
   have hs3:(List.all x0 (fun p=>decide (p.1=(x0.getD 0 (0,([],[]))).1)))=false:=by exact all_at (z:=(0,([],[]))) (i:=i) (by omega) (decide_eq_false (by omega))
   refine then_ret (in_ret (then_ret ?_))
   exact at_return ((0,(([]:List Int),([]:List Int))),(false,())) [] h (by kernel_rfl) trivial (congrArg (fun z=>(z.1,z.2,())) (show (((0,(([]:List Int),([]:List Int))),false))=comP x0 x1 from by first | exact comP_n (by first | (left;assumption) | (right;left;omega) | (right;right;omega)) | exact comP_y (by assumption) (by omega) (by omega)))
  ·replace h2 : (x0.getD i (0, ([], []))).1 = (x0.getD 0 (0, ([], []))).1 := of_decide_eq_true (notF h2)
   refine wp_skip (then_normal (wp_seq ?_))
   refine at_regq [{},{},{},{ ids:=[5],dp:=false },{ ids:=[6] }] { ts:=[0,1,4,5,6,7,9,11,12,13],os:=[1,3,4,6] } [(List.length (cofs (List.take i x0))+List.length ([(x0.getD i (0,([],[]))).2.1]))*24≤140737488355328] gamOK hT h (by kernel_rfl) ⟨(by first | omega | (simp only [lsA];omega) | (simp<;>omega)),trivial⟩ fun a w h=>then_normal ?_
   refine at_regq [{},{},{},{ ids:=[7],dp:=false },{ ids:=[8] }] { ts:=[0,1,4,5,6,7,11,12,13],os:=[1,6,8] } [(List.length (pays (List.take i x0))+List.length ([(x0.getD i (0,([],[]))).2.2]))*24≤140737488355328] gamOK hT h (by kernel_rfl) ⟨(by first | omega | (simp only [lsA];omega) | (simp<;>omega)),trivial⟩ fun a w h=>in_normal (then_normal ?_)
   refine at_regq [{ nw:=true }] { ts:=[0,1,4,5,6,7,11,12,13],os:=[1,6,8] } [I64 (((i:Nat):Int)+1)] gamOK hT h (by kernel_rfl) ⟨⟨by first | omega | (simp only [lsA];omega) | (simp<;>omega),by first | omega | (simp only [lsA];omega) | (simp<;>omega)⟩,trivial⟩ fun a w h=>?_
   replace h:=at_out (σ':=⟨[(0,aF s38 x0),(1,aF (.int 3) x1),(4,aP 1 0),(5,aB false),(6,aS 2),(7,aS 3),(11,aF s38 x0),(12,aI ((List.length x0:Nat):Int)),(13,aI (((i:Nat):Int)+1))],[(1,oX 38 [cI 0,cN,cN]),(2,oF s33 ((cofs (List.take i x0))++([(x0.getD i (0,([],[]))).2.1]))),(3,oF s33 ((pays (List.take i x0))++([(x0.getD i (0,([],[]))).2.2])))]⟩) { ts:=[0,1,4,5,6,7,11,12,13],os:=[1,6,8],rn:=[(6,2),(8,3)] } h (by kernel_rfl)
   exact ⟨i+1,at_eq h (st_congr3 (fun (d0:List (List Int)) (d1:List (List Int)) (d2:Int)=>(⟨[(0,aF s38 x0),(1,aF (.int 3) x1),(4,aP 1 0),(5,aB false),(6,aS 2),(7,aS 3),(11,aF s38 x0),(12,aI ((List.length x0:Nat):Int)),(13,aI d2)],[(1,oX 38 [cI 0,cN,cN]),(2,oF s33 d0),(3,oF s33 d1)]⟩:St)) (show (((cofs (List.take i x0))++([(x0.getD i (0,([],[]))).2.1])):List (List Int))=(cofs (List.take (i+1) x0)) from by first | with_reducible rfl | ((rw [take_snoc (z:=(0,([],[]))) (by omega),cofs_snoc];done)) | rfl) (show (((pays (List.take i x0))++([(x0.getD i (0,([],[]))).2.2])):List (List Int))=(pays (List.take (i+1) x0)) from by first | with_reducible rfl | ((rw [take_snoc (z:=(0,([],[]))) (by omega),pays_snoc];done)) | rfl) (show (((i:Nat):Int)+1:Int)=(((i+1):Nat):Int) from by first | with_reducible rfl | (omega) | rfl)),(by exact ⟨by omega,allTo1_succ hok0.2 (decide_eq_true (by omega))⟩),(by omega)⟩
 ·replace h1 : ¬ (((i : Nat) : Int) < ((List.length x0 : Nat) : Int)) := of_decide_eq_false h1
  refine wp_exit (then_exit ?_)
  have hs4:(List.all x0 (fun p=>decide (p.1=(x0.getD 0 (0,([],[]))).1)))=true:=by exact all_of (z:=(0,([],[]))) (i:=i) (by omega) hok0.2
  replace h:=at_out (σ':=⟨[(0,aF s38 x0),(1,aF (.int 3) x1),(4,aP 1 0),(5,aB false),(6,aS 2),(7,aS 3)],[(1,oX 38 [cI 0,cN,cN]),(2,oF s33 (cofs (List.take i x0))),(3,oF s33 (pays (List.take i x0)))]⟩) { ts:=[0,1,4,5,6,7],os:=[1,2,3] } h (by kernel_rfl)
  replace h:=at_eq (σ':=⟨[(0,aF s38 x0),(1,aF (.int 3) x1),(4,aP 1 0),(5,aB false),(6,aS 2),(7,aS 3)],[(1,oX 38 [cI 0,cN,cN]),(2,oF s33 (cofs x0)),(3,oF s33 (pays x0))]⟩) h (st_congr2 (fun (d0:List (List Int)) (d1:List (List Int))=>(⟨[(0,aF s38 x0),(1,aF (.int 3) x1),(4,aP 1 0),(5,aB false),(6,aS 2),(7,aS 3)],[(1,oX 38 [cI 0,cN,cN]),(2,oF s33 d0),(3,oF s33 d1)]⟩:St)) (show ((cofs (List.take i x0)):List (List Int))=(cofs x0) from by first | with_reducible rfl | (rw [take_all (by omega)]) | rfl) (show ((pays (List.take i x0)):List (List Int))=(pays x0) from by first | with_reducible rfl | (rw [take_all (by omega)]) | rfl))
  refine then_exit (in_hit (then_normal (wp_seq ?_)))
  refine at_regq [{},{},{ ids:=[9] },{},{},{ ids:=[10] },{},{ ids:=[11] }] { ts:=[0,4,5,10],os:=[1,9,10,11] } [Q_impl_Combine (cofs x0) x1,Q_impl_Combine (pays x0) x1] gamOK hT h (by kernel_rfl) ⟨(by first | exact ⟨fit_cofs hf0,hf1⟩ | exact ⟨fit_pays hf0,hf1⟩),(by first | exact ⟨fit_cofs hf0,hf1⟩ | exact ⟨fit_pays hf0,hf1⟩),trivial⟩ fun a w h=>then_normal (wp_seq (wp_seq ?_))
  by_cases h5:((List.length (combV (cofs x0) x1):Nat):Int)=0
  ·refine at_regq [{}, {}, {}, { hint := some (aB true) }] { ts := [0, 4, 5, 10, 52], os := [1, 9, 10, 11] } [(AV.p (.c (.v (.bool (decide (((List.length (combV (cofs x0) x1) : Nat) : Int) = 0))))) = AV.p (.c (.v (.bool true))))] gamOK hT h (by kernel_rfl) ⟨hint_bool (decide_eq_true h5), trivial⟩ fun a w h => then_normal ?_
   refine at_test true h (by kernel_rfl) (fun hh=>?_) (fun hh=>nomatch hh)
   refine wp_seq ?_
   refine at_regq [] { ts:=[0,4,5,10],os:=[1,9,10,11] } [] gamOK hT h (by kernel_rfl) trivial fun a w h=>then_normal (wp_ret (then_ret ?_))
   exact at_return ((0,(([]:List Int),([]:List Int))),(false,())) [] h (by kernel_rfl) trivial (congrArg (fun z=>(z.1,z.2,())) (show (((0,(([]:List Int),([]:List Int))),false))=comP x0 x1 from by first | exact comP_n (by first | (left;assumption) | (right;left;omega) | (right;right;omega)) | exact comP_y (by assumption) (by omega) (by omega)))
  ·refine at_regq [{}, {}, {}, { hint := some (aB false) }] { ts := [0, 4, 5, 10, 52], os := [1, 9, 10, 11] } [(AV.p (.c (.v (.bool (decide (((List.length (combV (cofs x0) x1) : Nat) : Int) = 0))))) = AV.p (.c (.v (.bool false))))] gamOK hT h (by kernel_rfl) ⟨hint_bool (decide_eq_false h5), trivial⟩ fun a w h => then_normal ?_
   refine at_test (decide (((List.length (combV (pays x0) x1):Nat):Int)=0)) h (by kernel_rfl) (fun h6=>?_) (fun h6=>?_)
   ·replace h6 : ((List.length (combV (pays x0) x1) : Nat) : Int) = 0 := of_decide_eq_true h6
    refine wp_seq ?_
    refine at_regq [] { ts:=[0,4,5,10],os:=[1,9,10,11] } [] gamOK hT h (by kernel_rfl) trivial fun a w h=>then_normal (wp_ret (then_ret ?_))
    exact at_return ((0,(([]:List Int),([]:List Int))),(false,())) [] h (by kernel_rfl) trivial (congrArg (fun z=>(z.1,z.2,())) (show (((0,(([]:List Int),([]:List Int))),false))=comP x0 x1 from by first | exact comP_n (by first | (left;assumption) | (right;left;omega) | (right;right;omega)) | exact comP_y (by assumption) (by omega) (by omega)))
   ·replace h6 : ¬ (((List.length (combV (pays x0) x1) : Nat) : Int) = 0) := of_decide_eq_false h6
    have hcp:=pays_len x0
    have hcq:=combV_pos (vs:=pays x0) (cs:=x1) (by omega)
    refine wp_skip (then_normal (wp_seq ?_))
    refine at_regq [] { ts:=[4,5,10],os:=[1,9,10,11] } [(0:Int)≤0∧0 < ((List.length x0:Nat):Int)] gamOK hT h (by kernel_rfl) ⟨(by refine ⟨?_,?_⟩<;>(first | omega | (simp only [lsA];omega) | (simp<;>omega))),trivial⟩ fun a w h=>then_normal (wp_seq ?_)
    refine at_regq [] { ts:=[4,5],os:=[1,9,10] } [] gamOK hT h (by kernel_rfl) trivial fun a w h=>then_normal (wp_ret ?_)
    exact at_return (((x0.getD 0 (0,([],[]))).1,((combV (cofs x0) x1),(combV (pays x0) x1))),(true,())) [] h (by kernel_rfl) trivial (congrArg (fun z=>(z.1,z.2,())) (show ((((x0.getD 0 (0,([],[]))).1,((combV (cofs x0) x1),(combV (pays x0) x1))),true))=comP x0 x1 from by first | exact comP_n (by first | (left;assumption) | (right;left;omega) | (right;right;omega)) | exact comP_y (by assumption) (by omega) (by omega)))

abbrev Q_spec_CombinePackets:=(fun (x0:(List T38)) (x1:(List Int))=>Sh.fit s52 x0∧Sh.fit s33 x1)
def S_spec_CombinePackets:Sum:={ fid:=107,dom:=[s52,s33],cod:=[s38,(.bool 4)],dp:=true,fz:=false,pre:=fun x=>Q_spec_CombinePackets x.1 x.2.1,g:=fun x=>((comP x.1 x.2.1).1,((comP x.1 x.2.1).2,())) }
def S_spec_CombinePackets_tab:List (Nat×Sum):=[(44,S_spec_Combine)]
theorem S_spec_CombinePackets_ok:FnOK Try.prog 107 S_spec_CombinePackets:=by
 refine at_enter 68 (fun x=>⟨[(0,aF s38 x.1),(1,aF (.int 3) x.2.1)],[]⟩) Try.func107 rfl (by kernel_rfl) (fun x=>rfl) ?_
 rintro w0 Z0 ⟨x0,x1,u⟩ a w
 revert x0 x1
 intro (x0:(List T38)) (x1:(List Int)) hpre hlens h
 replace hpre:Q_spec_CombinePackets x0 x1:=hpre
 have hT:TabOK Try.prog S_spec_CombinePackets_tab:=(.cons S_spec_Combine_ok .nil)
 obtain ⟨hf0,hf1⟩:=hpre
 have hn0_1:List.length x0≤1073741824:=hf0.1
 have hn1_2:List.length x1≤1073741824:=hf1.1
 refine wp_seq ?_
 refine at_regq [{ ids:=[1] }] { ts:=[0,1,4,5],os:=[1] } [] gamOK hT h (by kernel_rfl) trivial fun a w h=>then_normal (wp_seq ?_)
 refine at_regq [{ ids:=[2],dp:=false }] { ts:=[0,1,4,5,6],os:=[1,2] } [] gamOK hT h (by kernel_rfl) trivial fun a w h=>then_normal (wp_seq ?_)
 refine at_regq [{ ids:=[3],dp:=false }] { ts:=[0,1,4,5,6,7],os:=[1,2,3] } [] gamOK hT h (by kernel_rfl) trivial fun a w h=>then_normal (wp_seq (wp_seq ?_))
 refine at_regq [] { ts:=[0,1,4,5,6,7,8],os:=[1,2,3] } [] gamOK hT h (by kernel_rfl) trivial fun a w h=>then_normal (wp_block ?_)
 replace h:=at_out (σ':=⟨[(0,aF s38 x0),(1,aF (.int 3) x1),(4,aP 1 0),(5,aB false),(6,aS 2),(7,aS 3),(8,aI 0)],[(1,oX 38 [cI 0,cN,cN]),(2,oF s33 ([]:List (List Int))),(3,oF s33 ([]:List (List Int)))]⟩) { ts:=[0,1,4,5,6,7,8],os:=[1,2,3] } h (by kernel_rfl)
 refine at_loop (fun i:Nat=>(⟨[(0,aF s38 x0),(1,aF (.int 3) x1),(4,aP 1 0),(5,aB false),(6,aS 2),(7,aS 3),(8,aI ((i:Nat):Int))],[(1,oX 38 [cI 0,cN,cN]),(2,oF s33 (cofs (List.take i x0))),(3,oF s33 (pays (List.take i x0)))]⟩:St)) (fun i=>(i≤List.length x0∧allTo1 (fun p=>decide (p.1=(x0.getD 0 (0,([],[]))).1)) x0 (0,([],[])) i)) (fun i=>List.length x0 - i) (0) h (st_congr3 (fun (d0:List (List Int)) (d1:List (List Int)) (d2:Int)=>(⟨[(0,aF s38 x0),(1,aF (.int 3) x1),(4,aP 1 0),(5,aB false),(6,aS 2),(7,aS 3),(8,aI d2)],[(1,oX 38 [cI 0,cN,cN]),(2,oF s33 d0),(3,oF s33 d1)]⟩:St)) (show (([]:List (List Int)):List (List Int))=(cofs (List.take (0) x0)) from by first | with_reducible rfl | (rfl) | rfl) (show (([]:List (List Int)):List (List Int))=(pays (List.take (0) x0)) from by first | with_reducible rfl | (rfl) | rfl) (show (0:Int)=(((0):Nat):Int) from by first | with_reducible rfl | (rfl) | rfl)) (by exact ⟨Nat.zero_le _,allTo1_zero⟩) ?_
 intro i a w hok0 h
 have hcl:=cofs_len (List.take i x0)
 have hpl:=pays_len (List.take i x0)
 have hlt:=len_take_le (xs:=x0) i
 refine wp_seq (wp_seq ?_)
 refine at_regq [] { ts:=[0,1,4,5,6,7,8,16],os:=[1,2,3] } [] gamOK hT h (by kernel_rfl) trivial fun a w h=>then_normal ?_
 refine at_test (decide (((i:Nat):Int) < ((List.length x0:Nat):Int))) h (by kernel_rfl) (fun h1=>?_) (fun h1=>?_)
 ·replace h1 : ((i : Nat) : Int) < ((List.length x0 : Nat) : Int) := of_decide_eq_true h1
  refine wp_skip (then_normal (wp_seq (wp_block (wp_seq (wp_seq ?_)))))
  refine at_anyq [{},{},{},{},{},{},{},{},{},{}] { ts:=[0,1,4,5,6,7,8,28],os:=[1,2,3] } [(0:Int)≤((i:Nat):Int)∧((i:Nat):Int) < ((List.length x0:Nat):Int),(0:Int)≤0∧0 < ((List.length x0:Nat):Int)] gamOK hT mixed h (by kernel_rfl) ⟨(by refine ⟨?_,?_⟩<;>(first | omega | (simp only [lsA];omega) | (simp<;>omega))),(by refine ⟨?_,?_⟩<;>(first | omega | (simp only [lsA];omega) | (simp<;>omega))),trivial⟩ fun a w h=>then_normal ?_
  refine at_test (!decide ((x0.getD i (0,([],[]))).1=(x0.getD 0 (0,([],[]))).1)) h (by kernel_rfl) (fun h2=>?_) (fun h2=>?_)
  ·replace h2 : ¬ ((x0.getD i (0, ([], []))).1 = (x0.getD 0 (0, ([], []))).1) := of_decide_eq_false (notT h2)
   refine wp_seq ?_
   refine at_regq [] { ts:=[0,1,4,5,6,7,8],os:=[1,2,3] } [] gamOK hT h (by kernel_rfl) trivial fun a w h=>then_normal (wp_ret (then_ret (in_ret (then_ret ?_))))
   have hs3:(List.all x0 (fun p=>decide (p.1=(x0.getD 0 (0,([],[]))).1)))=false:=by exact all_at (z:=(0,([],[]))) (i:=i) (by omega) (decide_eq_false (by omega))
   refine then_ret (in_ret (then_ret ?_))
   exact at_return ((0,(([]:List Int),([]:List Int))),(false,())) [] h (by kernel_rfl) trivial (congrArg (fun z=>(z.1,z.2,())) (show (((0,(([]:List Int),([]:List Int))),false))=comP x0 x1 from by first | exact comP_n (by first | (left;assumption) | (right;left;omega) | (right;right;omega)) | exact comP_y (by assumption) (by omega) (by omega)))
  ·replace h2 : (x0.getD i (0, ([], []))).1 = (x0.getD 0 (0, ([], []))).1 := of_decide_eq_true (notF h2)
   refine wp_skip (then_normal (wp_seq ?_))
   refine at_regq [{},{},{},{},{},{},{ ids:=[4],dp:=false },{ ids:=[5] }] { ts:=[0,1,4,5,6,7,8],os:=[1,3,5] } [(0:Int)≤((i:Nat):Int)∧((i:Nat):Int) < ((List.length x0:Nat):Int),(List.length (cofs (List.take i x0))+List.length ([(x0.getD i (0,([],[]))).2.1]))*24≤140737488355328] gamOK hT h (by kernel_rfl) ⟨(by refine ⟨?_,?_⟩<;>(first | omega | (simp only [lsA];omega) | (simp<;>omega))),(by first | omega | (simp only [lsA];omega) | (simp<;>omega)),trivial⟩ fun a w h=>then_normal ?_
   refine at_regq [{},{},{},{},{},{},{ ids:=[6],dp:=false },{ ids:=[7] }] { ts:=[0,1,4,5,6,7,8],os:=[1,5,7] } [(0:Int)≤((i:Nat):Int)∧((i:Nat):Int) < ((List.length x0:Nat):Int),(List.length (pays (List.take i x0))+List.length ([(x0.getD i (0,([],[]))).2.2]))*24≤140737488355328] gamOK hT h (by kernel_rfl) ⟨(by refine ⟨?_,?_⟩<;>(first | omega | (simp only [lsA];omega) | (simp<;>omega))),(by first | omega | (simp only [lsA];omega) | (simp<;>omega)),trivial⟩ fun a w h=>in_normal (then_normal ?_)
   refine at_regq [{},{ nw:=true }] { ts:=[0,1,4,5,6,7,8],os:=[1,5,7] } [I64 (((i:Nat):Int)+1)] gamOK hT h (by kernel_rfl) ⟨⟨by first | omega | (simp only [lsA];omega) | (simp<;>omega),by first | omega | (simp only [lsA];omega) | (simp<;>omega)⟩,trivial⟩ fun a w h=>?_
   replace h:=at_out (σ':=⟨[(0,aF s38 x0),(1,aF (.int 3) x1),(4,aP 1 0),(5,aB false),(6,aS 2),(7,aS 3),(8,aI (((i:Nat):Int)+1))],[(1,oX 38 [cI 0,cN,cN]),(2,oF s33 ((cofs (List.take i x0))++([(x0.getD i (0,([],[]))).2.1]))),(3,oF s33 ((pays (List.take i x0))++([(x0.getD i (0,([],[]))).2.2])))]⟩) { ts:=[0,1,4,5,6,7,8],os:=[1,5,7],rn:=[(5,2),(7,3)] } h (by kernel_rfl)
   exact ⟨i+1,at_eq h (st_congr3 (fun (d0:List (List Int)) (d1:List (List Int)) (d2:Int)=>(⟨[(0,aF s38 x0),(1,aF (.int 3) x1),(4,aP 1 0),(5,aB false),(6,aS 2),(7,aS 3),(8,aI d2)],[(1,oX 38 [cI 0,cN,cN]),(2,oF s33 d0),(3,oF s33 d1)]⟩:St)) (show (((cofs (List.take i x0))++([(x0.getD i (0,([],[]))).2.1])):List (List Int))=(cofs (List.take (i+1) x0)) from by first | with_reducible rfl | ((rw [take_snoc (z:=(0,([],[]))) (by omega),cofs_snoc];done)) | rfl) (show (((pays (List.take i x0))++([(x0.getD i (0,([],[]))).2.2])):List (List Int))=(pays (List.take (i+1) x0)) from by first | with_reducible rfl | ((rw [take_snoc (z:=(0,([],[]))) (by omega),pays_snoc];done)) | rfl) (show (((i:Nat):Int)+1:Int)=(((i+1):Nat):Int) from by first | with_reducible rfl | (omega) | rfl)),(by exact ⟨by omega,allTo1_succ hok0.2 (decide_eq_true (by omega))⟩),(by omega)⟩
 ·replace h1 : ¬ (((i : Nat) : Int) < ((List.length x0 : Nat) : Int)) := of_decide_eq_false h1
  refine wp_exit (then_exit ?_)
  have hs4:(List.all x0 (fun p=>decide (p.1=(x0.getD 0 (0,([],[]))).1)))=true:=by exact all_of (z:=(0,([],[]))) (i:=i) (by omega) hok0.2
  replace h:=at_out (σ':=⟨[(0,aF s38 x0),(1,aF (.int 3) x1),(4,aP 1 0),(5,aB false),(6,aS 2),(7,aS 3)],[(1,oX 38 [cI 0,cN,cN]),(2,oF s33 (cofs (List.take i x0))),(3,oF s33 (pays (List.take i x0)))]⟩) { ts:=[0,1,4,5,6,7],os:=[1,2,3] } h (by kernel_rfl)
  replace h:=at_eq (σ':=⟨[(0,aF s38 x0),(1,aF (.int 3) x1),(4,aP 1 0),(5,aB false),(6,aS 2),(7,aS 3)],[(1,oX 38 [cI 0,cN,cN]),(2,oF s33 (cofs x0)),(3,oF s33 (pays x0))]⟩) h (st_congr2 (fun (d0:List (List Int)) (d1:List (List Int))=>(⟨[(0,aF s38 x0),(1,aF (.int 3) x1),(4,aP 1 0),(5,aB false),(6,aS 2),(7,aS 3)],[(1,oX 38 [cI 0,cN,cN]),(2,oF s33 d0),(3,oF s33 d1)]⟩:St)) (show ((cofs (List.take i x0)):List (List Int))=(cofs x0) from by first | with_reducible rfl | (rw [take_all (by omega)]) | rfl) (show ((pays (List.take i x0)):List (List Int))=(pays x0) from by first | with_reducible rfl | (rw [take_all (by omega)]) | rfl))
  refine then_exit (in_hit (then_normal (wp_seq ?_)))
  refine at_regq [{},{},{ ids:=[8] }] { ts:=[0,1,4,5,7,9],os:=[1,3,8] } [Q_spec_Combine (cofs x0) x1] gamOK hT h (by kernel_rfl) ⟨(by first | exact ⟨fit_cofs hf0,hf1⟩ | exact ⟨fit_pays hf0,hf1⟩),trivial⟩ fun a w h=>then_normal (wp_seq ?_)
  refine at_regq [{},{},{ ids:=[9] }] { ts:=[0,4,5,9,10],os:=[1,8,9] } [Q_spec_Combine (pays x0) x1] gamOK hT h (by kernel_rfl) ⟨(by first | exact ⟨fit_cofs hf0,hf1⟩ | exact ⟨fit_pays hf0,hf1⟩),trivial⟩ fun a w h=>then_normal (wp_seq (wp_seq ?_))
  by_cases h5:((List.length (combV (cofs x0) x1):Nat):Int)=0
  ·refine at_regq [{}, {}, { hint := some (aB true) }] { ts := [0, 4, 5, 9, 10, 59], os := [1, 8, 9] } [(AV.p (.c (.v (.bool (decide (((List.length (combV (cofs x0) x1) : Nat) : Int) = 0))))) = AV.p (.c (.v (.bool true))))] gamOK hT h (by kernel_rfl) ⟨hint_bool (decide_eq_true h5), trivial⟩ fun a w h => then_normal ?_
   refine at_test true h (by kernel_rfl) (fun hh=>?_) (fun hh=>nomatch hh)
   refine wp_seq ?_
   refine at_regq [] { ts:=[0,4,5,9,10],os:=[1,8,9] } [] gamOK hT h (by kernel_rfl) trivial fun a w h=>then_normal (wp_ret (then_ret ?_))
   exact at_return ((0,(([]:List Int),([]:List Int))),(false,())) [] h (by kernel_rfl) trivial (congrArg (fun z=>(z.1,z.2,())) (show (((0,(([]:List Int),([]:List Int))),false))=comP x0 x1 from by first | exact comP_n (by first | (left;assumption) | (right;left;omega) | (right;right;omega)) | exact comP_y (by assumption) (by omega) (by omega)))
  ·refine at_regq [{}, {}, { hint := some (aB false) }] { ts := [0, 4, 5, 9, 10, 59], os := [1, 8, 9] } [(AV.p (.c (.v (.bool (decide (((List.length (combV (cofs x0) x1) : Nat) : Int) = 0))))) = AV.p (.c (.v (.bool false))))] gamOK hT h (by kernel_rfl) ⟨hint_bool (decide_eq_false h5), trivial⟩ fun a w h => then_normal ?_
   refine at_test (decide (((List.length (combV (pays x0) x1):Nat):Int)=0)) h (by kernel_rfl) (fun h6=>?_) (fun h6=>?_)
   ·replace h6 : ((List.length (combV (pays x0) x1) : Nat) : Int) = 0 := of_decide_eq_true h6
    refine wp_seq ?_
    refine at_regq [] { ts:=[0,4,5,9,10],os:=[1,8,9] } [] gamOK hT h (by kernel_rfl) trivial fun a w h=>then_normal (wp_ret (then_ret ?_))
    exact at_return ((0,(([]:List Int),([]:List Int))),(false,())) [] h (by kernel_rfl) trivial (congrArg (fun z=>(z.1,z.2,())) (show (((0,(([]:List Int),([]:List Int))),false))=comP x0 x1 from by first | exact comP_n (by first | (left;assumption) | (right;left;omega) | (right;right;omega)) | exact comP_y (by assumption) (by omega) (by omega)))
   ·replace h6 : ¬ (((List.length (combV (pays x0) x1) : Nat) : Int) = 0) := of_decide_eq_false h6
    have hcp:=pays_len x0
    have hcq:=combV_pos (vs:=pays x0) (cs:=x1) (by omega)
    refine wp_skip (then_normal (wp_seq ?_))
    refine at_regq [] { ts:=[4,5],os:=[1,8,9] } [(0:Int)≤0∧0 < ((List.length x0:Nat):Int)] gamOK hT h (by kernel_rfl) ⟨(by refine ⟨?_,?_⟩<;>(first | omega | (simp only [lsA];omega) | (simp<;>omega))),trivial⟩ fun a w h=>then_normal (wp_ret ?_)
    exact at_return (((x0.getD 0 (0,([],[]))).1,((combV (cofs x0) x1),(combV (pays x0) x1))),(true,())) [] h (by kernel_rfl) trivial (congrArg (fun z=>(z.1,z.2,())) (show ((((x0.getD 0 (0,([],[]))).1,((combV (cofs x0) x1),(combV (pays x0) x1))),true))=comP x0 x1 from by first | exact comP_n (by first | (left;assumption) | (right;left;omega) | (right;right;omega)) | exact comP_y (by assumption) (by omega) (by omega)))

def D__impl_Recoder_seed:=(fun (r:T54) (s:Int)=>keyed s ([r.1,r.2.2.2.2]))
abbrev Q__impl_Recoder_seed:=(fun (x0:T54) (x1:Int)=>Sh.fit s54 x0)
def S__impl_Recoder_seed:Sum:={ fid:=87,dom:=[s54,(.int 3)],cod:=[(.int 3)],dp:=true,fz:=false,pre:=fun x=>Q__impl_Recoder_seed x.1 x.2.1,g:=fun x=>((D__impl_Recoder_seed x.1 x.2.1),()) }
def S__impl_Recoder_seed_tab:List (Nat×Sum):=[(117,S_impl_KeyedHash)]
theorem S__impl_Recoder_seed_ok:FnOK Try.prog 87 S__impl_Recoder_seed:=by
 refine at_enter 12 (fun x=>⟨[(0,aG [cI x.1.1,cI x.1.2.1,cI x.1.2.2.1,.ro s38 x.1.2.2.2.1,cI x.1.2.2.2.2]),(1,aI x.2.1)],[]⟩) Try.func87 rfl (by kernel_rfl) (fun x=>rfl) ?_
 rintro w0 Z0 ⟨x0,x1,u⟩ a w
 revert x0 x1
 intro (x0:T54) (x1:Int) hpre hlens h
 replace hpre:Q__impl_Recoder_seed x0 x1:=hpre
 have hT:TabOK Try.prog S__impl_Recoder_seed_tab:=(.cons S_impl_KeyedHash_ok .nil)
 have hf0:Sh.fit s54 x0:=hpre
 have hn0_1:List.length x0.2.2.2.1≤1073741824:=hf0.2.2.2.1.1
 refine wp_seq ?_
 refine at_regq [{ ids:=[1] }] { ts:=[1,2,4],os:=[1] } [] gamOK hT h (by kernel_rfl) trivial fun a w h=>then_normal (wp_seq ?_)
 refine at_regq [{},{},{},{},{},{ ids:=[2] }] { ts:=[4],os:=[] } [pKey x1 ([x0.1,x0.2.2.2.2])] gamOK hT h (by kernel_rfl) ⟨(by (show _≤_;simp)),trivial⟩ fun a w h=>then_normal (wp_ret ?_)
 exact at_return ((keyed x1 ([x0.1,x0.2.2.2.2])),()) [] h (by kernel_rfl) trivial (congrArg (fun z=>(z,())) (show ((keyed x1 ([x0.1,x0.2.2.2.2])))=D__impl_Recoder_seed x0 x1 from by unfold D__impl_Recoder_seed;rfl))

def D_spec_l15Seed:=(fun (r:T54) (s:Int)=>keyed s ([r.1,r.2.2.2.2]))
abbrev Q_spec_l15Seed:=(fun (x0:T54) (x1:Int)=>Sh.fit s54 x0)
def S_spec_l15Seed:Sum:={ fid:=109,dom:=[s54,(.int 3)],cod:=[(.int 3)],dp:=true,fz:=false,pre:=fun x=>Q_spec_l15Seed x.1 x.2.1,g:=fun x=>((D_spec_l15Seed x.1 x.2.1),()) }
def S_spec_l15Seed_tab:List (Nat×Sum):=[(130,S_spec_KeyedHash)]
theorem S_spec_l15Seed_ok:FnOK Try.prog 109 S_spec_l15Seed:=by
 refine at_enter 12 (fun x=>⟨[(0,aG [cI x.1.1,cI x.1.2.1,cI x.1.2.2.1,.ro s38 x.1.2.2.2.1,cI x.1.2.2.2.2]),(1,aI x.2.1)],[]⟩) Try.func109 rfl (by kernel_rfl) (fun x=>rfl) ?_
 rintro w0 Z0 ⟨x0,x1,u⟩ a w
 revert x0 x1
 intro (x0:T54) (x1:Int) hpre hlens h
 replace hpre:Q_spec_l15Seed x0 x1:=hpre
 have hT:TabOK Try.prog S_spec_l15Seed_tab:=(.cons S_spec_KeyedHash_ok .nil)
 have hf0:Sh.fit s54 x0:=hpre
 have hn0_1:List.length x0.2.2.2.1≤1073741824:=hf0.2.2.2.1.1
 refine wp_seq ?_
 refine at_regq [{ ids:=[1] }] { ts:=[1,2,4],os:=[1] } [] gamOK hT h (by kernel_rfl) trivial fun a w h=>then_normal (wp_seq ?_)
 refine at_regq [{},{},{},{},{},{ ids:=[2] }] { ts:=[4],os:=[] } [pKey x1 ([x0.1,x0.2.2.2.2])] gamOK hT h (by kernel_rfl) ⟨(by (show _≤_;simp)),trivial⟩ fun a w h=>then_normal (wp_ret ?_)
 exact at_return ((keyed x1 ([x0.1,x0.2.2.2.2])),()) [] h (by kernel_rfl) trivial (congrArg (fun z=>(z,())) (show ((keyed x1 ([x0.1,x0.2.2.2.2])))=D_spec_l15Seed x0 x1 from by unfold D_spec_l15Seed;rfl))

abbrev Q__P_impl_Recoder_recode:=(fun (x0:T54) (x1:Int)=>Sh.fit s54 x0∧validR x0=true)
def S__P_impl_Recoder_recode:Sum:={ fid:=55,dom:=[s54,(.int 3)],cod:=[s38,(.bool 4)],dp:=true,fz:=false,pre:=fun x=>Q__P_impl_Recoder_recode x.1 x.2.1,g:=fun x=>((recD x.1 x.2.1).1,((recD x.1 x.2.1).2,())),kinds:=[(.bx 54 0),.rd],upd:=fun x=>(recU x.1 x.2.1,(x.2.1,())) }
def S__P_impl_Recoder_recode_tab:List (Nat×Sum):=[(87,S__impl_Recoder_seed),(86,S_impl_RandomVector),(85,S_impl_CombinePackets)]
theorem S__P_impl_Recoder_recode_ok:FnOK Try.prog 55 S__P_impl_Recoder_recode:=by
 refine at_enterI 50 [1,2] [3] (fun us x=>⟨[(0,aP 1 0),(1,aI x.2.1)],[(1,oX 54 [cI x.1.1,cI x.1.2.1,cI x.1.2.2.1,.sl 2,cI x.1.2.2.2.2]),(2,oR s38 x.1.2.2.2.1),(3,oP 1 (S__P_impl_Recoder_recode.hd us 0))]⟩) Try.func55 rfl (by kernel_rfl) (fun us x=>rfl) ?_
 rintro w0 Z0 us ⟨x0,x1,u⟩ L a w
 revert x0 x1
 intro (x0:T54) (x1:Int) hio hpre hlens h
 replace h:At w0 Z0 L 50 ⟨[(0,aP 1 0),(1,aI x1)],[(1,oX 54 [cI x0.1,cI x0.2.1,cI x0.2.2.1,.sl 2,cI x0.2.2.2.2]),(2,oR s38 x0.2.2.2.1),(3,oP 1 (S__P_impl_Recoder_recode.hd us 0))]⟩ a w:=h
 replace hpre:Q__P_impl_Recoder_recode x0 x1:=hpre
 have hT:TabOK Try.prog S__P_impl_Recoder_recode_tab:=(.cons S__impl_Recoder_seed_ok (.cons S_impl_RandomVector_ok (.cons S_impl_CombinePackets_ok .nil)))
 obtain ⟨hf0,hpx⟩:=hpre
 have hn0_1:List.length x0.2.2.2.1≤1073741824:=hf0.2.2.2.1.1
 have hvr:=validR_t hpx
 refine wp_seq ?_
 refine at_regq [{ ids:=[4] }] { ts:=[0,1,4,5],os:=[1,2,3,4] } [] gamOK hT h (by kernel_rfl) trivial fun a w h=>then_normal (wp_seq (wp_seq ?_))
 by_cases h1:((List.length x0.2.2.2.1:Nat):Int)=0
 ·refine at_regq [{}, {}, {}, {}, {}, { hint := some (aB true) }] { ts := [0, 1, 4, 5, 20], os := [1, 2, 3, 4] } [(AV.p (.c (.v (.bool (decide (((List.length x0.2.2.2.1 : Nat) : Int) = 0))))) = AV.p (.c (.v (.bool true))))] gamOK hT h (by kernel_rfl) ⟨hint_bool (decide_eq_true h1), trivial⟩ fun a w h => then_normal ?_
  refine at_test true h (by kernel_rfl) (fun hh=>?_) (fun hh=>nomatch hh)
  refine wp_seq ?_
  refine at_regq [] { ts:=[0,1,4,5],os:=[1,2,3,4] } [] gamOK hT h (by kernel_rfl) trivial fun a w h=>then_normal (wp_ret (then_ret ?_))
  exact at_returnI (S:=S__P_impl_Recoder_recode) (x:=(x0,x1,())) [1,2] [3] (x0,(x1,())) (some ((0,(([]:List Int),([]:List Int))),(false,()))) [S__P_impl_Recoder_recode.hd us 0=S__P_impl_Recoder_recode.hd us 0] hio h (by kernel_rfl) ⟨rfl,trivial⟩ (by first | rfl | exact congrArg (fun (z:T54)=>(z,(x1,()))) (show (x0:T54)=recU x0 x1 from by (first | exact recU_y (recNo_t (by omega)) | exact recU_n (recNo_f (by omega) (by omega))))) (fun z e=>(Option.some.inj e) ▸ (congrArg (fun z=>(z.1,z.2,())) (show (((0,(([]:List Int),([]:List Int))),false))=recD x0 x1 from by (first | exact recD_y (recNo_t (by omega)) | exact recD_n (recNo_f (by omega) (by omega))))))
 ·refine at_regq [{}, {}, {}, {}, {}, { hint := some (aB false) }] { ts := [0, 1, 4, 5, 20], os := [1, 2, 3, 4] } [(AV.p (.c (.v (.bool (decide (((List.length x0.2.2.2.1 : Nat) : Int) = 0))))) = AV.p (.c (.v (.bool false))))] gamOK hT h (by kernel_rfl) ⟨hint_bool (decide_eq_false h1), trivial⟩ fun a w h => then_normal ?_
  refine at_test (decide (x0.2.2.2.2=1000000000000)) h (by kernel_rfl) (fun h2=>?_) (fun h2=>?_)
  ·replace h2 : x0.2.2.2.2 = 1000000000000 := of_decide_eq_true h2
   refine wp_seq ?_
   refine at_regq [] { ts:=[0,1,4,5],os:=[1,2,3,4] } [] gamOK hT h (by kernel_rfl) trivial fun a w h=>then_normal (wp_ret (then_ret ?_))
   exact at_returnI (S:=S__P_impl_Recoder_recode) (x:=(x0,x1,())) [1,2] [3] (x0,(x1,())) (some ((0,(([]:List Int),([]:List Int))),(false,()))) [S__P_impl_Recoder_recode.hd us 0=S__P_impl_Recoder_recode.hd us 0] hio h (by kernel_rfl) ⟨rfl,trivial⟩ (by first | rfl | exact congrArg (fun (z:T54)=>(z,(x1,()))) (show (x0:T54)=recU x0 x1 from by (first | exact recU_y (recNo_t (by omega)) | exact recU_n (recNo_f (by omega) (by omega))))) (fun z e=>(Option.some.inj e) ▸ (congrArg (fun z=>(z.1,z.2,())) (show (((0,(([]:List Int),([]:List Int))),false))=recD x0 x1 from by (first | exact recD_y (recNo_t (by omega)) | exact recD_n (recNo_f (by omega) (by omega))))))
  ·replace h2 : ¬ (x0.2.2.2.2 = 1000000000000) := of_decide_eq_false h2
   refine wp_skip (then_normal (wp_seq ?_))
   refine at_anyq [{},{},{},{},{},{},{},{},{},{},{},{},{},{},{ ids:=[5] },{ ids:=[6,7] },{},{},{},{ ids:=[8] },{},{}] { ts:=[0,4,5,6,7],os:=[1,2,3,4,6,7,8] } [Q__impl_Recoder_seed x0 x1,True,Q_impl_CombinePackets x0.2.2.2.1 (rndV (keyed x1 ([x0.1,x0.2.2.2.2])) ((List.length x0.2.2.2.1:Nat):Int))] gamOK hT mixed h (by kernel_rfl) ⟨(by exact hf0),trivial,(by exact ⟨hf0.2.2.2.1,(Sh.fit_len rfl (Nat.le_trans (rndV_len _ _) (by decide)))⟩),trivial⟩ fun a w h=>then_normal (wp_seq ?_)
   refine at_regq [{},{},{},{},{ nw:=true }] { ts:=[4,5,6,7],os:=[1,2,3,4,6,7,8] } [I64 (x0.2.2.2.2+1)] gamOK hT h (by kernel_rfl) ⟨⟨by first | omega | (simp only [lsA];omega) | (simp<;>omega),by first | omega | (simp only [lsA];omega) | (simp<;>omega)⟩,trivial⟩ fun a w h=>then_normal (wp_seq ?_)
   refine at_regq [] { ts:=[4,5],os:=[1,2,3,4,6,7] } [] gamOK hT h (by kernel_rfl) trivial fun a w h=>then_normal (wp_ret ?_)
   exact at_returnI (S:=S__P_impl_Recoder_recode) (x:=(x0,x1,())) [1,2] [3] ((x0.1,(x0.2.1,(x0.2.2.1,(x0.2.2.2.1,x0.2.2.2.2+1)))),(x1,())) (some ((comP x0.2.2.2.1 (rndV (keyed x1 ([x0.1,x0.2.2.2.2])) ((List.length x0.2.2.2.1:Nat):Int))).1,((comP x0.2.2.2.1 (rndV (keyed x1 ([x0.1,x0.2.2.2.2])) ((List.length x0.2.2.2.1:Nat):Int))).2,()))) [S__P_impl_Recoder_recode.hd us 0=S__P_impl_Recoder_recode.hd us 0] hio h (by kernel_rfl) ⟨rfl,trivial⟩ (by first | rfl | exact congrArg (fun (z:T54)=>(z,(x1,()))) (show ((x0.1,(x0.2.1,(x0.2.2.1,(x0.2.2.2.1,x0.2.2.2.2+1)))):T54)=recU x0 x1 from by (first | exact recU_y (recNo_t (by omega)) | exact recU_n (recNo_f (by omega) (by omega))))) (fun z e=>(Option.some.inj e) ▸ (congrArg (fun z=>(z.1,z.2,())) (show (((comP x0.2.2.2.1 (rndV (keyed x1 ([x0.1,x0.2.2.2.2])) ((List.length x0.2.2.2.1:Nat):Int))).1,(comP x0.2.2.2.1 (rndV (keyed x1 ([x0.1,x0.2.2.2.2])) ((List.length x0.2.2.2.1:Nat):Int))).2))=recD x0 x1 from by (first | exact recD_y (recNo_t (by omega)) | exact recD_n (recNo_f (by omega) (by omega))))))

abbrev Q_impl_Recode:=(fun (x0:T54) (x1:Int)=>Sh.fit s54 x0)
def S_impl_Recode:Sum:={ fid:=26,dom:=[s54,(.int 3)],cod:=[s54,s38,(.bool 4)],dp:=true,fz:=false,pre:=fun x=>Q_impl_Recode x.1 x.2.1,g:=fun x=>((recodeR x.1 x.2.1).1,((recodeR x.1 x.2.1).2.1,((recodeR x.1 x.2.1).2.2,()))) }
def S_impl_Recode_tab:List (Nat×Sum):=[(54,S__impl_Recoder_clone),(23,S_impl_IsValidRecoder),(55,S__P_impl_Recoder_recode)]
theorem S_impl_Recode_ok:FnOK Try.prog 26 S_impl_Recode:=by
 refine at_enter 25 (fun x=>⟨[(0,aG [cI x.1.1,cI x.1.2.1,cI x.1.2.2.1,.ro s38 x.1.2.2.2.1,cI x.1.2.2.2.2]),(1,aI x.2.1)],[]⟩) Try.func26 rfl (by kernel_rfl) (fun x=>rfl) ?_
 rintro w0 Z0 ⟨x0,x1,u⟩ a w
 revert x0 x1
 intro (x0:T54) (x1:Int) hpre hlens h
 replace hpre:Q_impl_Recode x0 x1:=hpre
 have hT:TabOK Try.prog S_impl_Recode_tab:=(.cons S__impl_Recoder_clone_ok (.cons S_impl_IsValidRecoder_ok (.cons S__P_impl_Recoder_recode_ok .nil)))
 have hf0:Sh.fit s54 x0:=hpre
 have hn0_1:List.length x0.2.2.2.1≤1073741824:=hf0.2.2.2.1.1
 refine wp_seq ?_
 refine at_regq [{ ids:=[1] },{ ids:=[2] },{ ids:=[3] }] { ts:=[1,2,4,5,6],os:=[1,2,3] } [] gamOK hT h (by kernel_rfl) trivial fun a w h=>then_normal (wp_seq ?_)
 refine at_regq [{},{ ids:=[4] },{ ids:=[5] }] { ts:=[1,2,4,5,6,7],os:=[1,2,3,4,5] } [Q__impl_Recoder_clone x0] gamOK hT h (by kernel_rfl) ⟨(by exact hf0),trivial⟩ fun a w h=>then_normal (wp_seq (wp_seq ?_))
 refine at_regq [] { ts:=[1,4,5,6,7,14],os:=[2,3,4,5] } [Q_impl_IsValidRecoder x0] gamOK hT h (by kernel_rfl) ⟨(by exact hf0),trivial⟩ fun a w h=>then_normal ?_
 refine at_test (!(validR x0)) h (by kernel_rfl) (fun h1=>?_) (fun h1=>?_)
 ·replace h1 : (validR x0) = false := notT h1
  refine wp_seq ?_
  refine at_regq [] { ts:=[1,4,5,6,7],os:=[2,3,4,5] } [] gamOK hT h (by kernel_rfl) trivial fun a w h=>then_normal (wp_ret (then_ret ?_))
  exact at_return (x0,((0,(([]:List Int),([]:List Int))),(false,()))) [] h (by kernel_rfl) trivial (congrArg (fun z=>(z.1,z.2.1,z.2.2,())) (show ((x0,(0,(([]:List Int),([]:List Int))),false))=recodeR x0 x1 from by first | exact recodeR_n (by assumption) | exact recodeR_y (by assumption)))
 ·replace h1 : (validR x0) = true := notF h1
  have hvh1:=validR_t h1
  refine wp_skip (then_normal (wp_seq ?_))
  refine at_regq [{},{ ids:=[6,7,8] },{},{},{},{ ids:=[9] }] { ts:=[4,5,6,7,8,9],os:=[2,3,5,6,7,8,9] } [Q__P_impl_Recoder_recode x0 x1] gamOK hT h (by kernel_rfl) ⟨(by exact ⟨hf0,by assumption⟩),trivial⟩ fun a w h=>then_normal (wp_seq ?_)
  refine at_anyq [{},{},{},{},{},{}] { ts:=[4,5,6],os:=[2,3,6,7,8] } [] gamOK hT mixed h (by kernel_rfl) trivial fun a w h=>then_normal (wp_ret ?_)
  exact at_return ((recU x0 x1),((recD x0 x1).1,((recD x0 x1).2,()))) [] h (by kernel_rfl) trivial (congrArg (fun z=>(z.1,z.2.1,z.2.2,())) (show (((recU x0 x1),(recD x0 x1).1,(recD x0 x1).2))=recodeR x0 x1 from by first | exact recodeR_n (by assumption) | exact recodeR_y (by assumption)))

abbrev Q_spec_Recode:=(fun (x0:T54) (x1:Int)=>Sh.fit s54 x0)
def S_spec_Recode:Sum:={ fid:=77,dom:=[s54,(.int 3)],cod:=[s54,s38,(.bool 4)],dp:=true,fz:=false,pre:=fun x=>Q_spec_Recode x.1 x.2.1,g:=fun x=>((recodeR x.1 x.2.1).1,((recodeR x.1 x.2.1).2.1,((recodeR x.1 x.2.1).2.2,()))) }
def S_spec_Recode_tab:List (Nat×Sum):=[(105,S_spec_l15Copy),(106,S_spec_IsValidRecoder),(109,S_spec_l15Seed),(108,S_spec_RandomVector),(107,S_spec_CombinePackets)]
theorem S_spec_Recode_ok:FnOK Try.prog 77 S_spec_Recode:=by
 refine at_enter 48 (fun x=>⟨[(0,aG [cI x.1.1,cI x.1.2.1,cI x.1.2.2.1,.ro s38 x.1.2.2.2.1,cI x.1.2.2.2.2]),(1,aI x.2.1)],[]⟩) Try.func77 rfl (by kernel_rfl) (fun x=>rfl) ?_
 rintro w0 Z0 ⟨x0,x1,u⟩ a w
 revert x0 x1
 intro (x0:T54) (x1:Int) hpre hlens h
 replace hpre:Q_spec_Recode x0 x1:=hpre
 have hT:TabOK Try.prog S_spec_Recode_tab:=(.cons S_spec_l15Copy_ok (.cons S_spec_IsValidRecoder_ok (.cons S_spec_l15Seed_ok (.cons S_spec_RandomVector_ok (.cons S_spec_CombinePackets_ok .nil)))))
 have hf0:Sh.fit s54 x0:=hpre
 have hn0_1:List.length x0.2.2.2.1≤1073741824:=hf0.2.2.2.1.1
 refine wp_seq ?_
 refine at_regq [{ ids:=[1] },{ ids:=[2] },{ ids:=[3] }] { ts:=[1,2,4,5,6],os:=[1,2,3] } [] gamOK hT h (by kernel_rfl) trivial fun a w h=>then_normal (wp_seq ?_)
 refine at_regq [{},{ ids:=[4] },{ ids:=[5] }] { ts:=[1,2,4,5,6,7],os:=[1,2,3,4,5] } [Q_spec_l15Copy x0] gamOK hT h (by kernel_rfl) ⟨(by exact hf0),trivial⟩ fun a w h=>then_normal (wp_seq (wp_seq ?_))
 rcases Bool.eq_false_or_eq_true (!(validR x0)) with h1 | h1
 ·have hzh1 : (validR x0) = false := notT h1
  refine at_regq [{},{},{ hint:=some (aB true) }] { ts:=[1,2,4,5,6,7,25],os:=[1,2,3,4,5] } [Q_spec_IsValidRecoder x0,(AV.p (.c (.v (.bool (!(validR x0)))))=AV.p (.c (.v (.bool true))))] gamOK hT h (by kernel_rfl) ⟨(by exact hf0),hint_bool (h1),trivial⟩ fun a w h=>then_normal ?_
  refine at_test true h (by kernel_rfl) (fun hh=>?_) (fun hh=>nomatch hh)
  refine wp_seq ?_
  refine at_regq [] { ts:=[1,2,4,5,6,7],os:=[1,2,3,4,5] } [] gamOK hT h (by kernel_rfl) trivial fun a w h=>then_normal (wp_ret (then_ret ?_))
  exact at_return (x0,((0,(([]:List Int),([]:List Int))),(false,()))) [] h (by kernel_rfl) trivial (congrArg (fun z=>(z.1,z.2.1,z.2.2,())) (show ((x0,(0,(([]:List Int),([]:List Int))),false))=recodeR x0 x1 from by first | exact recodeR_n (by assumption) | (rw [← recodeR_y (by assumption),← recU_y (recNo_t (by omega)),← recD_y (recNo_t (by omega))];done) | (rw [← recodeR_y (by assumption),← recU_n (recNo_f (by omega) (by omega)),← recD_n (recNo_f (by omega) (by omega))];done)))
 ·have hzh1 : (validR x0) = true := notF h1
  have hvh1:=validR_t (notF h1)
  by_cases h2:((List.length x0.2.2.2.1:Nat):Int)=0
  ·refine at_regq [{}, {}, { hint := some (aB false) }, {}, {}, {}, {}, { hint := some (aB true) }] { ts := [1, 2, 4, 5, 6, 7, 25], os := [1, 2, 3, 4, 5] } [Q_spec_IsValidRecoder x0, (AV.p (.c (.v (.bool (!(validR x0))))) = AV.p (.c (.v (.bool false)))), (AV.p (.c (.v (.bool (decide (((List.length x0.2.2.2.1 : Nat) : Int) = 0))))) = AV.p (.c (.v (.bool true))))] gamOK hT h (by kernel_rfl) ⟨(by exact hf0), hint_bool (h1), hint_bool (decide_eq_true h2), trivial⟩ fun a w h => then_normal ?_
   refine at_test true h (by kernel_rfl) (fun hh=>?_) (fun hh=>nomatch hh)
   refine wp_seq ?_
   refine at_regq [] { ts:=[1,2,4,5,6,7],os:=[1,2,3,4,5] } [] gamOK hT h (by kernel_rfl) trivial fun a w h=>then_normal (wp_ret (then_ret ?_))
   exact at_return (x0,((0,(([]:List Int),([]:List Int))),(false,()))) [] h (by kernel_rfl) trivial (congrArg (fun z=>(z.1,z.2.1,z.2.2,())) (show ((x0,(0,(([]:List Int),([]:List Int))),false))=recodeR x0 x1 from by first | exact recodeR_n (by assumption) | (rw [← recodeR_y (by assumption),← recU_y (recNo_t (by omega)),← recD_y (recNo_t (by omega))];done) | (rw [← recodeR_y (by assumption),← recU_n (recNo_f (by omega) (by omega)),← recD_n (recNo_f (by omega) (by omega))];done)))
  ·refine at_regq [{}, {}, { hint := some (aB false) }, {}, {}, {}, {}, { hint := some (aB false) }] { ts := [1, 2, 4, 5, 6, 7, 25], os := [1, 2, 3, 4, 5] } [Q_spec_IsValidRecoder x0, (AV.p (.c (.v (.bool (!(validR x0))))) = AV.p (.c (.v (.bool false)))), (AV.p (.c (.v (.bool (decide (((List.length x0.2.2.2.1 : Nat) : Int) = 0))))) = AV.p (.c (.v (.bool false))))] gamOK hT h (by kernel_rfl) ⟨(by exact hf0), hint_bool (h1), hint_bool (decide_eq_false h2), trivial⟩ fun a w h => then_normal ?_
   refine at_test (decide (x0.2.2.2.2=1000000000000)) h (by kernel_rfl) (fun h3=>?_) (fun h3=>?_)
   ·replace h3 : x0.2.2.2.2 = 1000000000000 := of_decide_eq_true h3
    refine wp_seq ?_
    refine at_regq [] { ts:=[1,2,4,5,6,7],os:=[1,2,3,4,5] } [] gamOK hT h (by kernel_rfl) trivial fun a w h=>then_normal (wp_ret (then_ret ?_))
    exact at_return (x0,((0,(([]:List Int),([]:List Int))),(false,()))) [] h (by kernel_rfl) trivial (congrArg (fun z=>(z.1,z.2.1,z.2.2,())) (show ((x0,(0,(([]:List Int),([]:List Int))),false))=recodeR x0 x1 from by first | exact recodeR_n (by assumption) | (rw [← recodeR_y (by assumption),← recU_y (recNo_t (by omega)),← recD_y (recNo_t (by omega))];done) | (rw [← recodeR_y (by assumption),← recU_n (recNo_f (by omega) (by omega)),← recD_n (recNo_f (by omega) (by omega))];done)))
   ·replace h3 : ¬ (x0.2.2.2.2 = 1000000000000) := of_decide_eq_false h3
    refine wp_skip (then_normal (wp_seq ?_))
    refine at_anyq [{},{},{},{},{},{},{},{},{ ids:=[6] },{ ids:=[7,8] },{},{},{},{ ids:=[9] },{},{}] { ts:=[2,4,5,6,7,8,9],os:=[1,2,3,4,5,7,8,9] } [Q_spec_l15Seed x0 x1,True,Q_spec_CombinePackets x0.2.2.2.1 (rndV (keyed x1 ([x0.1,x0.2.2.2.2])) ((List.length x0.2.2.2.1:Nat):Int))] gamOK hT mixed h (by kernel_rfl) ⟨(by exact hf0),trivial,(by exact ⟨hf0.2.2.2.1,(Sh.fit_len rfl (Nat.le_trans (rndV_len _ _) (by decide)))⟩),trivial⟩ fun a w h=>then_normal (wp_seq ?_)
    refine at_regq [{},{},{ nw:=true }] { ts:=[4,5,6,7,8,9],os:=[2,3,4,5,7,8,9] } [I64 (x0.2.2.2.2+1)] gamOK hT h (by kernel_rfl) ⟨⟨by first | omega | (simp only [lsA];omega) | (simp<;>omega),by first | omega | (simp only [lsA];omega) | (simp<;>omega)⟩,trivial⟩ fun a w h=>then_normal (wp_seq ?_)
    refine at_anyq [{},{},{},{},{},{}] { ts:=[4,5,6],os:=[2,3,4,7,8] } [] gamOK hT mixed h (by kernel_rfl) trivial fun a w h=>then_normal (wp_ret ?_)
    exact at_return ((x0.1,(x0.2.1,(x0.2.2.1,(x0.2.2.2.1,x0.2.2.2.2+1)))),((comP x0.2.2.2.1 (rndV (keyed x1 ([x0.1,x0.2.2.2.2])) ((List.length x0.2.2.2.1:Nat):Int))).1,((comP x0.2.2.2.1 (rndV (keyed x1 ([x0.1,x0.2.2.2.2])) ((List.length x0.2.2.2.1:Nat):Int))).2,()))) [] h (by kernel_rfl) trivial (congrArg (fun z=>(z.1,z.2.1,z.2.2,())) (show (((x0.1,(x0.2.1,(x0.2.2.1,(x0.2.2.2.1,x0.2.2.2.2+1)))),(comP x0.2.2.2.1 (rndV (keyed x1 ([x0.1,x0.2.2.2.2])) ((List.length x0.2.2.2.1:Nat):Int))).1,(comP x0.2.2.2.1 (rndV (keyed x1 ([x0.1,x0.2.2.2.2])) ((List.length x0.2.2.2.1:Nat):Int))).2))=recodeR x0 x1 from by first | exact recodeR_n (by assumption) | (rw [← recodeR_y (by assumption),← recU_y (recNo_t (by omega)),← recD_y (recNo_t (by omega))];done) | (rw [← recodeR_y (by assumption),← recU_n (recNo_f (by omega) (by omega)),← recD_n (recNo_f (by omega) (by omega))];done)))

def codePk (g:T26) (cs:List Int):T38×Bool:=if validG g=true∧validV cs=true∧cs.length=g.2.length then ((g.1,cs,combV g.2 cs),true) else ((0,[],[]),false)
theorem codePk_y {g:T26} {cs:List Int} (h1:validG g=true) (h2:validV cs=true) (h3:cs.length=g.2.length):((g.1,cs,combV g.2 cs),true)=codePk g cs:=(if_pos ⟨h1,h2,h3⟩).symm
theorem codePk_n {g:T26} {cs:List Int} (h:validG g=false∨validV cs=false∨¬ cs.length=g.2.length):((0,[],[]),false)=codePk g cs:=by
 unfold codePk;rw [if_neg]
 rintro ⟨h1,h2,h3⟩
 rcases h with h | h | h
 ·rw [h1] at h;cases h
 ·rw [h2] at h;cases h
 ·exact h h3
theorem genP {g:T26} (h:validG g=true) {cs:List Int} (hc:LA.VokB g.2.length cs):combP g.2 cs:=by
 have h1:=validG_t h
 have hm:=validM_t h1.2.2.1
 have hk:=validM_ok h1.2.2.1
 have h0:=(validV_t (hm.2 _ (getD_mem (z:=[]) (show 0 < g.2.length by omega))).1).1
 exact ⟨⟨by omega,by have:=hc.1;omega,h0⟩,fun j hj=>hk _ (LA.getD_in hj),fun j=>hc.rng j⟩
theorem genC {g:T26} (h:validG g=true) {cs:List Int} (hc:LA.VokB g.2.length cs):combV g.2 cs=combS g.2 cs:=by
 have h1:=validG_t h
 have hm:=validM_t h1.2.2.1
 refine (combV_y (by omega) hc.1.symm (validV_of hc (by omega)) ?_).symm
 rw [List.all_eq_true];intro v hv
 have h2:=hm.2 v hv
 unfold cvB
 rw [Bool.and_eq_true];exact ⟨h2.1,decide_eq_true h2.2⟩
abbrev Q_spec_CodePacket:=(fun (x0:T26) (x1:(List Int))=>Sh.fit s26 x0∧Sh.fit s33 x1)
def S_spec_CodePacket:Sum:={ fid:=18,dom:=[s26,s33],cod:=[s38,(.bool 4)],dp:=true,fz:=false,pre:=fun x=>Q_spec_CodePacket x.1 x.2.1,g:=fun x=>((codePk x.1 x.2.1).1,((codePk x.1 x.2.1).2,())) }
def S_spec_CodePacket_tab:List (Nat×Sum):=[(37,S_spec_IsValidGeneration),(43,S_spec_IsValidVector),(44,S_spec_Combine)]
theorem S_spec_CodePacket_ok:FnOK Try.prog 18 S_spec_CodePacket:=by
 refine at_enter 33 (fun x=>⟨[(0,aG [cI x.1.1,.ro s33 x.1.2]),(1,aF (.int 3) x.2.1)],[]⟩) Try.func18 rfl (by kernel_rfl) (fun x=>rfl) ?_
 rintro w0 Z0 ⟨x0,x1,u⟩ a w
 revert x0 x1
 intro (x0:T26) (x1:(List Int)) hpre hlens h
 replace hpre:Q_spec_CodePacket x0 x1:=hpre
 have hT:TabOK Try.prog S_spec_CodePacket_tab:=(.cons S_spec_IsValidGeneration_ok (.cons S_spec_IsValidVector_ok (.cons S_spec_Combine_ok .nil)))
 obtain ⟨hf0,hf1⟩:=hpre
 have hn0_1:List.length x0.2≤1073741824:=hf0.2.1
 have hn1_2:List.length x1≤1073741824:=hf1.1
 refine wp_seq ?_
 refine at_regq [{ ids:=[1] },{ ids:=[2] }] { ts:=[1,2,4,5],os:=[1,2] } [] gamOK hT h (by kernel_rfl) trivial fun a w h=>then_normal (wp_seq (wp_seq ?_))
 rcases Bool.eq_false_or_eq_true (!(validG x0)) with h1 | h1
 ·have hzh1 : (validG x0) = false := notT h1
  refine at_regq [{},{},{ hint:=some (aB true) }] { ts:=[1,2,4,5,21],os:=[1,2] } [Q_spec_IsValidGeneration x0,(AV.p (.c (.v (.bool (!(validG x0)))))=AV.p (.c (.v (.bool true))))] gamOK hT h (by kernel_rfl) ⟨(by exact hf0),hint_bool (h1),trivial⟩ fun a w h=>then_normal ?_
  refine at_test true h (by kernel_rfl) (fun hh=>?_) (fun hh=>nomatch hh)
  refine wp_seq ?_
  refine at_regq [] { ts:=[1,2,4,5],os:=[1,2] } [] gamOK hT h (by kernel_rfl) trivial fun a w h=>then_normal (wp_ret (then_ret ?_))
  exact at_return ((0,(([]:List Int),([]:List Int))),(false,())) [] h (by kernel_rfl) trivial (congrArg (fun z=>(z.1,z.2,())) (show (((0,(([]:List Int),([]:List Int))),false))=codePk x0 x1 from by first | exact codePk_n (by first | (left;assumption) | (right;left;assumption) | (right;right;omega)) | exact codePk_y (cs:=x1) (by assumption) (by assumption) (by omega)))
 ·have hzh1 : (validG x0) = true := notF h1
  have hvh1:=validG_t (notF h1)
  rcases Bool.eq_false_or_eq_true (!(validV x1)) with h2 | h2
  ·have hzh2 : (validV x1) = false := notT h2
   refine at_regq [{},{},{ hint:=some (aB false) },{},{},{},{ hint:=some (aB true) }] { ts:=[1,2,4,5,21],os:=[1,2] } [Q_spec_IsValidGeneration x0,(AV.p (.c (.v (.bool (!(validG x0)))))=AV.p (.c (.v (.bool false)))),Q_spec_IsValidVector x1,(AV.p (.c (.v (.bool (!(validV x1)))))=AV.p (.c (.v (.bool true))))] gamOK hT h (by kernel_rfl) ⟨(by exact hf0),hint_bool (h1),(by exact hf1),hint_bool (h2),trivial⟩ fun a w h=>then_normal ?_
   refine at_test true h (by kernel_rfl) (fun hh=>?_) (fun hh=>nomatch hh)
   refine wp_seq ?_
   refine at_regq [] { ts:=[1,2,4,5],os:=[1,2] } [] gamOK hT h (by kernel_rfl) trivial fun a w h=>then_normal (wp_ret (then_ret ?_))
   exact at_return ((0,(([]:List Int),([]:List Int))),(false,())) [] h (by kernel_rfl) trivial (congrArg (fun z=>(z.1,z.2,())) (show (((0,(([]:List Int),([]:List Int))),false))=codePk x0 x1 from by first | exact codePk_n (by first | (left;assumption) | (right;left;assumption) | (right;right;omega)) | exact codePk_y (cs:=x1) (by assumption) (by assumption) (by omega)))
  ·have hzh2 : (validV x1) = true := notF h2
   have hvh2:=validV_t (notF h2)
   refine at_regq [{},{},{ hint:=some (aB false) },{},{},{},{ hint:=some (aB false) }] { ts:=[1,2,4,5,21],os:=[1,2] } [Q_spec_IsValidGeneration x0,(AV.p (.c (.v (.bool (!(validG x0)))))=AV.p (.c (.v (.bool false)))),Q_spec_IsValidVector x1,(AV.p (.c (.v (.bool (!(validV x1)))))=AV.p (.c (.v (.bool false))))] gamOK hT h (by kernel_rfl) ⟨(by exact hf0),hint_bool (h1),(by exact hf1),hint_bool (h2),trivial⟩ fun a w h=>then_normal ?_
   refine at_test (!decide (((List.length x1:Nat):Int)=((List.length x0.2:Nat):Int))) h (by kernel_rfl) (fun h3=>?_) (fun h3=>?_)
   ·replace h3 : ¬ (((List.length x1 : Nat) : Int) = ((List.length x0.2 : Nat) : Int)) := of_decide_eq_false (notT h3)
    refine wp_seq ?_
    refine at_regq [] { ts:=[1,2,4,5],os:=[1,2] } [] gamOK hT h (by kernel_rfl) trivial fun a w h=>then_normal (wp_ret (then_ret ?_))
    exact at_return ((0,(([]:List Int),([]:List Int))),(false,())) [] h (by kernel_rfl) trivial (congrArg (fun z=>(z.1,z.2,())) (show (((0,(([]:List Int),([]:List Int))),false))=codePk x0 x1 from by first | exact codePk_n (by first | (left;assumption) | (right;left;assumption) | (right;right;omega)) | exact codePk_y (cs:=x1) (by assumption) (by assumption) (by omega)))
   ·replace h3 : ((List.length x1 : Nat) : Int) = ((List.length x0.2 : Nat) : Int) := of_decide_eq_true (notF h3)
    refine wp_skip (then_normal (wp_seq ?_))
    refine at_anyq [{},{},{ ids:=[3] },{},{ ids:=[4] },{},{},{},{ ids:=[5] },{},{},{}] { ts:=[4,5],os:=[2,4,5] } [(List.length ([]:List Int)+List.length x1)*8≤140737488355328,Q_spec_Combine x0.2 x1] gamOK hT mixed h (by kernel_rfl) ⟨(by first | omega | (simp only [lsA];omega) | (simp<;>omega)),(by exact ⟨hf0.2,hf1⟩),trivial⟩ fun a w h=>then_normal (wp_ret ?_)
    exact at_return ((x0.1,((([]:List Int)++x1),(combV x0.2 x1))),(true,())) [] h (by kernel_rfl) trivial (congrArg (fun z=>(z.1,z.2,())) (show (((x0.1,((([]:List Int)++x1),(combV x0.2 x1))),true))=codePk x0 x1 from by first | exact codePk_n (by first | (left;assumption) | (right;left;assumption) | (right;right;omega)) | exact codePk_y (cs:=x1) (by assumption) (by assumption) (by omega)))

def and255 (z:Int):Int:=IntKind.i64.wrap ((BitVec.ofInt (IntKind.i64).bits z &&& BitVec.ofInt (IntKind.i64).bits 255).toNat:Int)
theorem and255_bd (z:Int):0≤and255 z∧and255 z≤255:=by
 unfold and255
 have e:(BitVec.ofInt (IntKind.i64).bits z &&& BitVec.ofInt (IntKind.i64).bits 255).toNat≤255:=by
  rw [BitVec.toNat_and]
  have h2:(BitVec.ofInt (IntKind.i64).bits 255).toNat=255:=by decide
  rw [h2];exact Nat.and_le_right
 rw [IntKind.wrap_i64];omega
def lcgF (h:Int):Int:=IntKind.i64.wrap (IntKind.i64.wrap (h*6364136223846793005)+1442695040888963407)
def xorF (h:Int):Int:=IntKind.i64.wrap ((BitVec.ofInt (IntKind.i64).bits (Int.fdiv h (2 ^ (min (33:Int).toNat (IntKind.i64).bits))) ^^^ BitVec.ofInt (IntKind.i64).bits (Int.fdiv h (2 ^ (min (47:Int).toNat (IntKind.i64).bits)))).toNat:Int)
def hsF (h c:Int):Int:=IntKind.i64.wrap ((BitVec.ofInt (IntKind.i64).bits (IntKind.i64.wrap (IntKind.i64.wrap (IntKind.i64.wrap (h*137)+c)+11)) &&& BitVec.ofInt (IntKind.i64).bits 1073741823).toNat:Int)
def hsTo (code:List Int):Nat→Int
 | 0=>193017+((List.length code:Nat):Int)
 | i+1=>hsF (hsTo code i) (code.getD i 0)
def newC (code:List Int):T91:=(code,0,hsTo code (min (List.length code) 4000))
abbrev Q_spec_l1New:=(fun (x0:(List Int))=>Sh.fit s22 x0)
def B_spec_l1New:NS:={ t:=91,s:=s91,dom:=[s22],pre:=fun x=>Q_spec_l1New x.1,g:=fun x=>(newC x.1) }
def S_spec_l1New:Sum:=nSum 30 B_spec_l1New
def S_spec_l1New_tab:List (Nat×Sum):=[]
theorem S_spec_l1New_ok:FnOK Try.prog 30 S_spec_l1New:=by
 refine at_enterN (B:=B_spec_l1New) 32 (fun x=>⟨[(0,aF (.u8 5) x.1)],[]⟩) Try.func30 rfl (by kernel_rfl) (fun x=>rfl) ?_
 rintro w0 Z0 ⟨x0,u⟩ a w
 revert x0
 intro (x0:(List Int)) hpre hlens h
 replace h:At w0 Z0 [] 32 ⟨[(0,aF (.u8 5) x0)],[]⟩ a w:=h
 replace hpre:Q_spec_l1New x0:=hpre
 have hl1:List.length x0≤9223372036854775807:=hlens.1.1
 have hu0:u8L x0:=hlens.1.2
 have hT:TabOK Try.prog S_spec_l1New_tab:=.nil
 have hf0:Sh.fit s22 x0:=hpre
 have hn0_1:List.length x0≤1073741824:=hf0.1
 refine wp_seq ?_
 refine at_regq [] { ts:=[0,2],os:=[] } [] gamOK hT h (by kernel_rfl) trivial fun a w h=>then_normal (wp_seq ?_)
 refine at_regq [{},{},{ nw:=true }] { ts:=[0,2,3],os:=[] } [I64 (193017+((List.length x0:Nat):Int))] gamOK hT h (by kernel_rfl) ⟨⟨by first | omega | (simp only [lsA];omega) | (simp<;>omega),by first | omega | (simp only [lsA];omega) | (simp<;>omega)⟩,trivial⟩ fun a w h=>then_normal (wp_seq (wp_seq ?_))
 refine at_regq [] { ts:=[0,2,3,4],os:=[] } [] gamOK hT h (by kernel_rfl) trivial fun a w h=>then_normal (wp_block ?_)
 replace h:=at_out (σ':=⟨[(0,aF (.u8 5) x0),(2,.p (.c (.v (.pointer none)))),(3,aI (193017+((List.length x0:Nat):Int))),(4,aI 0)],[]⟩) { ts:=[0,2,3,4],os:=[] } h (by kernel_rfl)
 refine at_loop (fun i:Nat=>(⟨[(0,aF (.u8 5) x0),(2,.p (.c (.v (.pointer none)))),(3,aI (hsTo x0 i)),(4,aI ((i:Nat):Int))],[]⟩:St)) (fun i=>i≤(min (List.length x0) 4000)) (fun i=>(min (List.length x0) 4000) - i) (0) h (st_congr2 (fun (d0:Int) (d1:Int)=>(⟨[(0,aF (.u8 5) x0),(2,.p (.c (.v (.pointer none)))),(3,aI d0),(4,aI d1)],[]⟩:St)) (show (193017+((List.length x0:Nat):Int):Int)=(hsTo x0 (0)) from by first | with_reducible rfl | (rfl) | rfl) (show (0:Int)=(((0):Nat):Int) from by first | with_reducible rfl | (rfl) | rfl)) (by omega) ?_
 intro i a w hok0 h
 have hu1:=getD_u8 hu0 i
 refine wp_seq (wp_seq ?_)
 by_cases h1:((i:Nat):Int) < ((List.length x0:Nat):Int)
 ·refine at_regq [{}, {}, {}, { hint := some (aB true) }] { ts := [0, 2, 3, 4, 13, 14, 15], os := [] } [(AV.p (.c (.v (.bool (decide (((i : Nat) : Int) < ((List.length x0 : Nat) : Int)))))) = AV.p (.c (.v (.bool true))))] gamOK hT h (by kernel_rfl) ⟨hint_bool (decide_eq_true h1), trivial⟩ fun a w h => then_normal ?_
  refine at_test (decide (((i:Nat):Int) < 4000)) h (by kernel_rfl) (fun h2=>?_) (fun h2=>?_)
  ·replace h2 : ((i : Nat) : Int) < 4000 := of_decide_eq_true h2
   refine wp_skip (then_normal (wp_seq (wp_block ?_)))
   refine at_regq [{},{},{},{},{},{},{ hint:=some (aI (x0.getD i 0)) },{},{},{ hint:=some (aI (hsF (hsTo x0 i) (x0.getD i 0))) }] { ts:=[0,2,3,4,13,14],os:=[] } [(0:Int)≤((i:Nat):Int)∧((i:Nat):Int) < ((List.length x0:Nat):Int),(AV.p (.c (.v (.int .i64 (IntKind.i64.wrap ((x0.getD i 0))))))=AV.p (.c (.v (.int .i64 ((x0.getD i 0)))))),(AV.p (.c (.v (.int .i64 (IntKind.i64.wrap ((BitVec.ofInt (IntKind.i64).bits (IntKind.i64.wrap ((IntKind.i64.wrap ((IntKind.i64.wrap ((hsTo x0 i)*137))+(x0.getD i 0)))+11)) &&& BitVec.ofInt (IntKind.i64).bits 1073741823).toNat:Int)))))=AV.p (.c (.v (.int .i64 ((hsF (hsTo x0 i) (x0.getD i 0)))))))] gamOK hT h (by kernel_rfl) ⟨(by refine ⟨?_,?_⟩<;>(first | omega | (simp only [lsA];omega) | (simp<;>omega))),hint_int (wrap_id ⟨by first | omega | (simp only [lsA];omega) | (simp<;>omega),by first | omega | (simp only [lsA];omega) | (simp<;>omega)⟩),hint_int (by rfl),trivial⟩ fun a w h=>in_normal (then_normal ?_)
   refine at_regq [{},{ nw:=true }] { ts:=[0,2,3,4,13,14],os:=[] } [I64 (((i:Nat):Int)+1)] gamOK hT h (by kernel_rfl) ⟨⟨by first | omega | (simp only [lsA];omega) | (simp<;>omega),by first | omega | (simp only [lsA];omega) | (simp<;>omega)⟩,trivial⟩ fun a w h=>?_
   replace h:=at_out (σ':=⟨[(0,aF (.u8 5) x0),(2,.p (.c (.v (.pointer none)))),(3,aI (hsF (hsTo x0 i) (x0.getD i 0))),(4,aI (((i:Nat):Int)+1))],[]⟩) { ts:=[0,2,3,4],os:=[] } h (by kernel_rfl)
   exact ⟨i+1,at_eq h (st_congr2 (fun (d0:Int) (d1:Int)=>(⟨[(0,aF (.u8 5) x0),(2,.p (.c (.v (.pointer none)))),(3,aI d0),(4,aI d1)],[]⟩:St)) (show ((hsF (hsTo x0 i) (x0.getD i 0)):Int)=(hsTo x0 (i+1)) from by first | with_reducible rfl | (rfl) | rfl) (show (((i:Nat):Int)+1:Int)=(((i+1):Nat):Int) from by first | with_reducible rfl | (omega) | rfl)),(by omega),(by omega)⟩
  ·replace h2 : ¬ (((i : Nat) : Int) < 4000) := of_decide_eq_false h2
   refine wp_exit (then_exit ?_)
   replace h:=at_out (σ':=⟨[(0,aF (.u8 5) x0),(2,.p (.c (.v (.pointer none)))),(3,aI (hsTo x0 i))],[]⟩) { ts:=[0,2,3],os:=[] } h (by kernel_rfl)
   replace h:=at_eq (σ':=⟨[(0,aF (.u8 5) x0),(2,.p (.c (.v (.pointer none)))),(3,aI (hsTo x0 (min (List.length x0) 4000)))],[]⟩) h (st_congr1 (fun (d0:Int)=>(⟨[(0,aF (.u8 5) x0),(2,.p (.c (.v (.pointer none)))),(3,aI d0)],[]⟩:St)) (show ((hsTo x0 i):Int)=(hsTo x0 (min (List.length x0) 4000)) from by first | with_reducible rfl | (rw [show i=(min (List.length x0) 4000) by omega]) | rfl))
   refine then_exit (in_hit (then_normal (wp_seq ?_)))
   refine at_regq [{},{},{},{ ids:=[1] }] { ts:=[2],os:=[1] } [] gamOK hT h (by kernel_rfl) trivial fun a w h=>then_normal (wp_ret ?_)
   exact at_returnN (B:=B_spec_l1New) (x:=(x0,())) ((x0,(0,(hsTo x0 (min (List.length x0) 4000))))) [] h (by kernel_rfl) trivial (show (x0,(0,(hsTo x0 (min (List.length x0) 4000))))=newC x0 from by rfl)
 ·refine at_regq [{}, {}, {}, { hint := some (aB false) }] { ts := [0, 2, 3, 4, 13, 14, 15], os := [] } [(AV.p (.c (.v (.bool (decide (((i : Nat) : Int) < ((List.length x0 : Nat) : Int)))))) = AV.p (.c (.v (.bool false))))] gamOK hT h (by kernel_rfl) ⟨hint_bool (decide_eq_false h1), trivial⟩ fun a w h => then_normal ?_
  refine at_test false h (by kernel_rfl) (fun hh=>nomatch hh) (fun hh=>?_)
  refine wp_exit (then_exit ?_)
  replace h:=at_out (σ':=⟨[(0,aF (.u8 5) x0),(2,.p (.c (.v (.pointer none)))),(3,aI (hsTo x0 i))],[]⟩) { ts:=[0,2,3],os:=[] } h (by kernel_rfl)
  replace h:=at_eq (σ':=⟨[(0,aF (.u8 5) x0),(2,.p (.c (.v (.pointer none)))),(3,aI (hsTo x0 (min (List.length x0) 4000)))],[]⟩) h (st_congr1 (fun (d0:Int)=>(⟨[(0,aF (.u8 5) x0),(2,.p (.c (.v (.pointer none)))),(3,aI d0)],[]⟩:St)) (show ((hsTo x0 i):Int)=(hsTo x0 (min (List.length x0) 4000)) from by first | with_reducible rfl | (rw [show i=(min (List.length x0) 4000) by omega]) | rfl))
  refine then_exit (in_hit (then_normal (wp_seq ?_)))
  refine at_regq [{},{},{},{ ids:=[1] }] { ts:=[2],os:=[1] } [] gamOK hT h (by kernel_rfl) trivial fun a w h=>then_normal (wp_ret ?_)
  exact at_returnN (B:=B_spec_l1New) (x:=(x0,())) ((x0,(0,(hsTo x0 (min (List.length x0) 4000))))) [] h (by kernel_rfl) trivial (show (x0,(0,(hsTo x0 (min (List.length x0) 4000))))=newC x0 from by rfl)

@[irreducible]
def byteC (x0:T91):T91×Int:=(if x0.2.1 < ((List.length x0.1:Nat):Int) then ((x0.1,(x0.2.1+1,(lcgF x0.2.2))),(and255 (and255 (xorF (lcgF x0.2.2))+x0.1.getD x0.2.1.toNat 0))) else ((x0.1,(x0.2.1,(lcgF x0.2.2))),(and255 (xorF (lcgF x0.2.2)))))
abbrev Q_spec_l1Byte:=(fun (x0:T91)=>0≤x0.2.1)
def B_spec_l1Byte:BS:={ t:=91,s:=s91,dom:=[],cod:=[(.int 3)],pre:=fun y x=>Q_spec_l1Byte y,upd:=fun y x=>(byteC y).1,g:=fun y x=>((byteC y).2,()) }
def S_spec_l1Byte:Sum:=bSum 89 B_spec_l1Byte
def S_spec_l1Byte_tab:List (Nat×Sum):=[]
theorem S_spec_l1Byte_ok:FnOK Try.prog 89 S_spec_l1Byte:=by
 refine at_enterB (B:=B_spec_l1Byte) 58 (fun v y x=>⟨[(0,aP 1 0)],[(1,oX 91 [.ro (.u8 5) y.1,cI y.2.1,cI y.2.2]),(2,oP 1 v)]⟩) Try.func89 rfl (by kernel_rfl) (fun v y x=>rfl) ?_
 rintro w0 Z0 b0 x0 ⟨u⟩ a w
 revert x0
 intro (x0:T91) hpre hlens0 hlens h
 replace h:At w0 Z0 [b0] 58 ⟨[(0,aP 1 0)],[(1,oX 91 [.ro (.u8 5) x0.1,cI x0.2.1,cI x0.2.2]),(2,oP 1 (Value.pointer (some ⟨b0,0,none⟩)))]⟩ a w:=h
 replace hpre:Q_spec_l1Byte x0:=hpre
 have hl1:List.length x0.1≤9223372036854775807:=hlens0.1.1
 have hu0:u8L x0.1:=hlens0.1.2
 have hT:TabOK Try.prog S_spec_l1Byte_tab:=.nil
 have hp:(0:Int)≤x0.2.1:=hpre
 refine wp_seq ?_
 refine at_regq [] { ts:=[0,2],os:=[1,2] } [] gamOK hT h (by kernel_rfl) trivial fun a w h=>then_normal (wp_seq ?_)
 refine at_regq [{},{},{},{},{},{},{ hint:=some (aI (lcgF x0.2.2)) }] { ts:=[0,2],os:=[1,2] } [(AV.p (.c (.v (.int .i64 (IntKind.i64.wrap ((IntKind.i64.wrap (x0.2.2*6364136223846793005))+1442695040888963407)))))=AV.p (.c (.v (.int .i64 ((lcgF x0.2.2))))))] gamOK hT h (by kernel_rfl) ⟨hint_int (by rfl),trivial⟩ fun a w h=>then_normal (wp_seq ?_)
 refine at_anyq [{},{},{},{},{},{},{},{},{},{},{ hint:=some (aI (xorF (lcgF x0.2.2))) },{ hint:=some (aI (and255 (xorF (lcgF x0.2.2)))) },{}] { ts:=[0,2,3],os:=[1,2] } [(0:Int)≤33,(0:Int)≤47,(AV.p (.c (.v (.int .i64 (IntKind.i64.wrap ((BitVec.ofInt (IntKind.i64).bits (Int.fdiv (lcgF x0.2.2) (2 ^ (min (33:Int).toNat (IntKind.i64).bits))) ^^^ BitVec.ofInt (IntKind.i64).bits (Int.fdiv (lcgF x0.2.2) (2 ^ (min (47:Int).toNat (IntKind.i64).bits)))).toNat:Int)))))=AV.p (.c (.v (.int .i64 ((xorF (lcgF x0.2.2))))))),(AV.p (.c (.v (.int .i64 (IntKind.i64.wrap ((BitVec.ofInt (IntKind.i64).bits (xorF (lcgF x0.2.2)) &&& BitVec.ofInt (IntKind.i64).bits 255).toNat:Int)))))=AV.p (.c (.v (.int .i64 ((and255 (xorF (lcgF x0.2.2))))))))] gamOK hT mixed h (by kernel_rfl) ⟨(by first | omega | (simp only [lsA];omega) | (simp<;>omega)),(by first | omega | (simp only [lsA];omega) | (simp<;>omega)),hint_int (by rfl),hint_int (by rfl),trivial⟩ fun a w h=>then_normal (wp_seq (wp_seq ?_))
 refine at_anyq [{},{},{},{},{},{},{},{},{},{}] { ts:=[0,2,3,34],os:=[1,2] } [] gamOK hT mixed h (by kernel_rfl) trivial fun a w h=>then_normal ?_
 refine at_test (decide (x0.2.1 < ((List.length x0.1:Nat):Int))) h (by kernel_rfl) (fun h1=>?_) (fun h1=>?_)
 ·replace h1 : x0.2.1 < ((List.length x0.1 : Nat) : Int) := of_decide_eq_true h1
  have hu1:=getD_u8 hu0 x0.2.1.toNat
  have ha1:=and255_bd (xorF (lcgF x0.2.2))
  refine wp_seq ?_
  refine at_anyq [{},{},{},{},{},{},{},{},{},{},{},{ hint:=some (aI (x0.1.getD ((x0.2.1).toNat) 0)) },{ nw:=true },{ hint:=some (aI (and255 (and255 (xorF (lcgF x0.2.2))+x0.1.getD x0.2.1.toNat 0))) },{}] { ts:=[0,2,3],os:=[1,2] } [(0:Int)≤x0.2.1∧x0.2.1 < ((List.length x0.1:Nat):Int),(AV.p (.c (.v (.int .i64 (IntKind.i64.wrap ((x0.1.getD ((x0.2.1).toNat) 0))))))=AV.p (.c (.v (.int .i64 ((x0.1.getD ((x0.2.1).toNat) 0)))))),I64 ((and255 (xorF (lcgF x0.2.2)))+(x0.1.getD ((x0.2.1).toNat) 0)),(AV.p (.c (.v (.int .i64 (IntKind.i64.wrap ((BitVec.ofInt (IntKind.i64).bits ((and255 (xorF (lcgF x0.2.2)))+(x0.1.getD ((x0.2.1).toNat) 0)) &&& BitVec.ofInt (IntKind.i64).bits 255).toNat:Int)))))=AV.p (.c (.v (.int .i64 ((and255 (and255 (xorF (lcgF x0.2.2))+x0.1.getD x0.2.1.toNat 0)))))))] gamOK hT mixed h (by kernel_rfl) ⟨(by refine ⟨?_,?_⟩<;>(first | omega | (simp only [lsA];omega) | (simp<;>omega))),hint_int (wrap_id ⟨by first | omega | (simp only [lsA];omega) | (simp<;>omega),by first | omega | (simp only [lsA];omega) | (simp<;>omega)⟩),⟨by first | omega | (simp only [lsA];omega) | (simp<;>omega),by first | omega | (simp only [lsA];omega) | (simp<;>omega)⟩,hint_int (by rfl),trivial⟩ fun a w h=>then_normal ?_
  refine at_regq [{},{},{},{},{},{ nw:=true }] { ts:=[2,3],os:=[1,2] } [I64 (x0.2.1+1)] gamOK hT h (by kernel_rfl) ⟨⟨by first | omega | (simp only [lsA];omega) | (simp<;>omega),by first | omega | (simp only [lsA];omega) | (simp<;>omega)⟩,trivial⟩ fun a w h=>then_normal (wp_seq ?_)
  refine at_regq [] { ts:=[2],os:=[1,2] } [] gamOK hT h (by kernel_rfl) trivial fun a w h=>then_normal (wp_ret ?_)
  have hr2:(((x0.1,(x0.2.1+1,(lcgF x0.2.2))),(and255 (and255 (xorF (lcgF x0.2.2))+x0.1.getD x0.2.1.toNat 0))):T91×Int)=byteC x0:=by (unfold byteC;rw [if_pos h1])
  exact at_returnB (B:=B_spec_l1Byte) (c0:=x0) (x:=(())) ((x0.1,(x0.2.1+1,(lcgF x0.2.2)))) ((and255 (and255 (xorF (lcgF x0.2.2))+x0.1.getD x0.2.1.toNat 0)),()) [(Value.pointer (some ⟨b0,0,none⟩))=(Value.pointer (some ⟨b0,0,none⟩))] h (by kernel_rfl) ⟨rfl,trivial⟩ (congrArg (a₁:=((x0.1,(x0.2.1+1,(lcgF x0.2.2))),(and255 (and255 (xorF (lcgF x0.2.2))+x0.1.getD x0.2.1.toNat 0)))) (a₂:=byteC x0) (fun (z:T91×Int)=>z.1) hr2) (congrArg (a₁:=((x0.1,(x0.2.1+1,(lcgF x0.2.2))),(and255 (and255 (xorF (lcgF x0.2.2))+x0.1.getD x0.2.1.toNat 0)))) (a₂:=byteC x0) (fun (z:T91×Int)=>(z.2,())) hr2)
 ·replace h1 : ¬ (x0.2.1 < ((List.length x0.1 : Nat) : Int)) := of_decide_eq_false h1
  refine wp_skip (then_normal (wp_seq ?_))
  refine at_regq [] { ts:=[2],os:=[1,2] } [] gamOK hT h (by kernel_rfl) trivial fun a w h=>then_normal (wp_ret ?_)
  have hr3:(((x0.1,(x0.2.1,(lcgF x0.2.2))),(and255 (xorF (lcgF x0.2.2)))):T91×Int)=byteC x0:=by (unfold byteC;rw [if_neg h1])
  exact at_returnB (B:=B_spec_l1Byte) (c0:=x0) (x:=(())) ((x0.1,(x0.2.1,(lcgF x0.2.2)))) ((and255 (xorF (lcgF x0.2.2))),()) [(Value.pointer (some ⟨b0,0,none⟩))=(Value.pointer (some ⟨b0,0,none⟩))] h (by kernel_rfl) ⟨rfl,trivial⟩ (congrArg (a₁:=((x0.1,(x0.2.1,(lcgF x0.2.2))),(and255 (xorF (lcgF x0.2.2))))) (a₂:=byteC x0) (fun (z:T91×Int)=>z.1) hr3) (congrArg (a₁:=((x0.1,(x0.2.1,(lcgF x0.2.2))),(and255 (xorF (lcgF x0.2.2))))) (a₂:=byteC x0) (fun (z:T91×Int)=>(z.2,())) hr3)
theorem byte_bd (x:T91):0≤(byteC x).2∧(byteC x).2≤255:=by
 unfold byteC;split<;>exact and255_bd _
theorem byte_ok {x:T91} (h:0≤x.2.1):0≤(byteC x).1.2.1:=by
 unfold byteC;split
 ·show (0:Int)≤x.2.1+1;omega
 ·exact h

@[irreducible]
def belowC (x0:T91) (x1:Int):T91×Int:=(if x1≤0 then (x0,0) else (if x1≤256 then ((byteC x0).1,(Int.tmod (byteC x0).2 x1)) else ((byteC (byteC (byteC x0).1).1).1,(Int.tmod ((((byteC x0).2*65536)+((byteC (byteC x0).1).2*256))+(byteC (byteC (byteC x0).1).1).2) x1))))
abbrev Q_spec_l1Below:=(fun (x0:T91) (x1:Int)=>0≤x0.2.1)
def B_spec_l1Below:BS:={ t:=91,s:=s91,dom:=[(.int 3)],cod:=[(.int 3)],pre:=fun y x=>Q_spec_l1Below y x.1,upd:=fun y x=>(belowC y x.1).1,g:=fun y x=>((belowC y x.1).2,()) }
def S_spec_l1Below:Sum:=bSum 60 B_spec_l1Below
def S_spec_l1Below_tab:List (Nat×Sum):=[(89,S_spec_l1Byte)]
theorem S_spec_l1Below_ok:FnOK Try.prog 60 S_spec_l1Below:=by
 refine at_enterB (B:=B_spec_l1Below) 31 (fun v y x=>⟨[(0,aP 1 0),(1,aI x.1)],[(1,oX 91 [.ro (.u8 5) y.1,cI y.2.1,cI y.2.2]),(2,oP 1 v)]⟩) Try.func60 rfl (by kernel_rfl) (fun v y x=>rfl) ?_
 rintro w0 Z0 b0 x0 ⟨x1,u⟩ a w
 revert x0 x1
 intro (x0:T91) (x1:Int) hpre hlens0 hlens h
 replace h:At w0 Z0 [b0] 31 ⟨[(0,aP 1 0),(1,aI x1)],[(1,oX 91 [.ro (.u8 5) x0.1,cI x0.2.1,cI x0.2.2]),(2,oP 1 (Value.pointer (some ⟨b0,0,none⟩)))]⟩ a w:=h
 replace hpre:Q_spec_l1Below x0 x1:=hpre
 have hl1:List.length x0.1≤9223372036854775807:=hlens0.1.1
 have hu0:u8L x0.1:=hlens0.1.2
 have hT:TabOK Try.prog S_spec_l1Below_tab:=(.cons S_spec_l1Byte_ok .nil)
 have hb1:=byte_ok hpre
 have hb2:=byte_ok hb1
 have hb3:=byte_ok hb2
 have hd1:=byte_bd x0
 have hd2:=byte_bd (byteC x0).1
 have hd3:=byte_bd (byteC (byteC x0).1).1
 refine wp_seq ?_
 refine at_regq [] { ts:=[0,1,4],os:=[1,2] } [] gamOK hT h (by kernel_rfl) trivial fun a w h=>then_normal (wp_seq (wp_seq ?_))
 refine at_regq [] { ts:=[0,1,4,9],os:=[1,2] } [] gamOK hT h (by kernel_rfl) trivial fun a w h=>then_normal ?_
 refine at_test (decide (x1≤0)) h (by kernel_rfl) (fun h1=>?_) (fun h1=>?_)
 ·replace h1 : x1 ≤ 0 := of_decide_eq_true h1
  refine wp_seq ?_
  refine at_regq [] { ts:=[0,1,4],os:=[1,2] } [] gamOK hT h (by kernel_rfl) trivial fun a w h=>then_normal (wp_ret (then_ret ?_))
  have hr2:((x0,0):T91×Int)=belowC x0 x1:=by (unfold belowC;rw [if_pos h1])
  exact at_returnB (B:=B_spec_l1Below) (c0:=x0) (x:=(x1,())) (x0) (0,()) [(Value.pointer (some ⟨b0,0,none⟩))=(Value.pointer (some ⟨b0,0,none⟩))] h (by kernel_rfl) ⟨rfl,trivial⟩ (congrArg (a₁:=(x0,0)) (a₂:=belowC x0 x1) (fun (z:T91×Int)=>z.1) hr2) (congrArg (a₁:=(x0,0)) (a₂:=belowC x0 x1) (fun (z:T91×Int)=>(z.2,())) hr2)
 ·replace h1 : ¬ (x1 ≤ 0) := of_decide_eq_false h1
  refine wp_skip (then_normal (wp_seq (wp_seq ?_)))
  refine at_regq [] { ts:=[0,1,4,11],os:=[1,2] } [] gamOK hT h (by kernel_rfl) trivial fun a w h=>then_normal ?_
  refine at_test (decide (x1≤256)) h (by kernel_rfl) (fun h3=>?_) (fun h3=>?_)
  ·replace h3 : x1 ≤ 256 := of_decide_eq_true h3
   refine wp_seq ?_
   refine at_regq [] { ts:=[0,1,4],os:=[1,2] } [B_spec_l1Byte.pre x0 (()),(x1:Int)≠0] gamOK hT h (by kernel_rfl) ⟨(by first | exact hpre | exact hb1 | exact hb2 | exact hb3),(by first | omega | (simp only [lsA];omega) | (simp<;>omega)),trivial⟩ fun a w h=>then_normal (wp_ret (then_ret ?_))
   have hr4:(((byteC x0).1,(Int.tmod (byteC x0).2 x1)):T91×Int)=belowC x0 x1:=by (unfold belowC;rw [if_neg h1,if_pos h3])
   exact at_returnB (B:=B_spec_l1Below) (c0:=x0) (x:=(x1,())) ((byteC x0).1) ((Int.tmod (byteC x0).2 x1),()) [(Value.pointer (some ⟨b0,0,none⟩))=(Value.pointer (some ⟨b0,0,none⟩))] h (by kernel_rfl) ⟨rfl,trivial⟩ (congrArg (a₁:=((byteC x0).1,(Int.tmod (byteC x0).2 x1))) (a₂:=belowC x0 x1) (fun (z:T91×Int)=>z.1) hr4) (congrArg (a₁:=((byteC x0).1,(Int.tmod (byteC x0).2 x1))) (a₂:=belowC x0 x1) (fun (z:T91×Int)=>(z.2,())) hr4)
  ·replace h3 : ¬ (x1 ≤ 256) := of_decide_eq_false h3
   refine wp_skip (then_normal (wp_seq ?_))
   refine at_regq [] { ts:=[0,1,4,5],os:=[1,2] } [B_spec_l1Byte.pre x0 (())] gamOK hT h (by kernel_rfl) ⟨(by first | exact hpre | exact hb1 | exact hb2 | exact hb3),trivial⟩ fun a w h=>then_normal (wp_seq ?_)
   refine at_regq [] { ts:=[0,1,4,5,6],os:=[1,2] } [B_spec_l1Byte.pre (byteC x0).1 (())] gamOK hT h (by kernel_rfl) ⟨(by first | exact hpre | exact hb1 | exact hb2 | exact hb3),trivial⟩ fun a w h=>then_normal (wp_seq ?_)
   refine at_regq [] { ts:=[1,4,5,6,7],os:=[1,2] } [B_spec_l1Byte.pre (byteC (byteC x0).1).1 (())] gamOK hT h (by kernel_rfl) ⟨(by first | exact hpre | exact hb1 | exact hb2 | exact hb3),trivial⟩ fun a w h=>then_normal (wp_seq ?_)
   refine at_regq [{},{ nw:=true },{},{ nw:=true },{ nw:=true },{},{ nw:=true }] { ts:=[4],os:=[1,2] } [I64 ((byteC x0).2*65536),I64 ((byteC (byteC x0).1).2*256),I64 (((byteC x0).2*65536)+((byteC (byteC x0).1).2*256)),I64 ((((byteC x0).2*65536)+((byteC (byteC x0).1).2*256))+(byteC (byteC (byteC x0).1).1).2),(x1:Int)≠0] gamOK hT h (by kernel_rfl) ⟨⟨by first | omega | (simp only [lsA];omega) | (simp<;>omega),by first | omega | (simp only [lsA];omega) | (simp<;>omega)⟩,⟨by first | omega | (simp only [lsA];omega) | (simp<;>omega),by first | omega | (simp only [lsA];omega) | (simp<;>omega)⟩,⟨by first | omega | (simp only [lsA];omega) | (simp<;>omega),by first | omega | (simp only [lsA];omega) | (simp<;>omega)⟩,⟨by first | omega | (simp only [lsA];omega) | (simp<;>omega),by first | omega | (simp only [lsA];omega) | (simp<;>omega)⟩,(by first | omega | (simp only [lsA];omega) | (simp<;>omega)),trivial⟩ fun a w h=>then_normal (wp_ret ?_)
   have hr5:(((byteC (byteC (byteC x0).1).1).1,(Int.tmod ((((byteC x0).2*65536)+((byteC (byteC x0).1).2*256))+(byteC (byteC (byteC x0).1).1).2) x1)):T91×Int)=belowC x0 x1:=by (unfold belowC;rw [if_neg h1,if_neg h3])
   exact at_returnB (B:=B_spec_l1Below) (c0:=x0) (x:=(x1,())) ((byteC (byteC (byteC x0).1).1).1) ((Int.tmod ((((byteC x0).2*65536)+((byteC (byteC x0).1).2*256))+(byteC (byteC (byteC x0).1).1).2) x1),()) [(Value.pointer (some ⟨b0,0,none⟩))=(Value.pointer (some ⟨b0,0,none⟩))] h (by kernel_rfl) ⟨rfl,trivial⟩ (congrArg (a₁:=((byteC (byteC (byteC x0).1).1).1,(Int.tmod ((((byteC x0).2*65536)+((byteC (byteC x0).1).2*256))+(byteC (byteC (byteC x0).1).1).2) x1))) (a₂:=belowC x0 x1) (fun (z:T91×Int)=>z.1) hr5) (congrArg (a₁:=((byteC (byteC (byteC x0).1).1).1,(Int.tmod ((((byteC x0).2*65536)+((byteC (byteC x0).1).2*256))+(byteC (byteC (byteC x0).1).1).2) x1))) (a₂:=belowC x0 x1) (fun (z:T91×Int)=>(z.2,())) hr5)
theorem below_ok {x:T91} {n:Int} (h:0≤x.2.1):0≤(belowC x n).1.2.1:=by
 unfold belowC
 split
 ·exact h
 ·split
  ·exact byte_ok h
  ·exact byte_ok (byte_ok (byte_ok h))
theorem below_bd (x:T91) {n:Int} (h:0 < n):0≤(belowC x n).2∧(belowC x n).2 < n:=by
 unfold belowC
 rw [if_neg (by omega)]
 have hd1:=byte_bd x;have hd2:=byte_bd (byteC x).1;have hd3:=byte_bd (byteC (byteC x).1).1
 split
 ·exact LA.tmod_lt hd1.1 h
 ·exact LA.tmod_lt (by first | omega | (dsimp only;omega)) h

def onceC (x0:T91) (x1:Int):T91×Bool:=((belowC x0 x1).1,decide ((belowC x0 x1).2=0))
abbrev Q_spec_l1Once:=(fun (x0:T91) (x1:Int)=>0≤x0.2.1)
def B_spec_l1Once:BS:={ t:=91,s:=s91,dom:=[(.int 3)],cod:=[(.bool 4)],pre:=fun y x=>Q_spec_l1Once y x.1,upd:=fun y x=>(onceC y x.1).1,g:=fun y x=>((onceC y x.1).2,()) }
def S_spec_l1Once:Sum:=bSum 76 B_spec_l1Once
def S_spec_l1Once_tab:List (Nat×Sum):=[(60,S_spec_l1Below)]
theorem S_spec_l1Once_ok:FnOK Try.prog 76 S_spec_l1Once:=by
 refine at_enterB (B:=B_spec_l1Once) 9 (fun v y x=>⟨[(0,aP 1 0),(1,aI x.1)],[(1,oX 91 [.ro (.u8 5) y.1,cI y.2.1,cI y.2.2]),(2,oP 1 v)]⟩) Try.func76 rfl (by kernel_rfl) (fun v y x=>rfl) ?_
 rintro w0 Z0 b0 x0 ⟨x1,u⟩ a w
 revert x0 x1
 intro (x0:T91) (x1:Int) hpre hlens0 hlens h
 replace h:At w0 Z0 [b0] 9 ⟨[(0,aP 1 0),(1,aI x1)],[(1,oX 91 [.ro (.u8 5) x0.1,cI x0.2.1,cI x0.2.2]),(2,oP 1 (Value.pointer (some ⟨b0,0,none⟩)))]⟩ a w:=h
 replace hpre:Q_spec_l1Once x0 x1:=hpre
 have hl1:List.length x0.1≤9223372036854775807:=hlens0.1.1
 have hu0:u8L x0.1:=hlens0.1.2
 have hT:TabOK Try.prog S_spec_l1Once_tab:=(.cons S_spec_l1Below_ok .nil)
 refine wp_seq ?_
 refine at_regq [] { ts:=[0,1,4],os:=[1,2] } [] gamOK hT h (by kernel_rfl) trivial fun a w h=>then_normal (wp_seq ?_)
 refine at_regq [] { ts:=[4],os:=[1,2] } [B_spec_l1Below.pre x0 (x1,())] gamOK hT h (by kernel_rfl) ⟨(by exact hpre),trivial⟩ fun a w h=>then_normal (wp_ret ?_)
 have hr1:(((belowC x0 x1).1,decide ((belowC x0 x1).2=0)):T91×Bool)=onceC x0 x1:=by rfl
 exact at_returnB (B:=B_spec_l1Once) (c0:=x0) (x:=(x1,())) ((belowC x0 x1).1) (decide ((belowC x0 x1).2=0),()) [(Value.pointer (some ⟨b0,0,none⟩))=(Value.pointer (some ⟨b0,0,none⟩))] h (by kernel_rfl) ⟨rfl,trivial⟩ (congrArg (a₁:=((belowC x0 x1).1,decide ((belowC x0 x1).2=0))) (a₂:=onceC x0 x1) (fun (z:T91×Bool)=>z.1) hr1) (congrArg (a₁:=((belowC x0 x1).1,decide ((belowC x0 x1).2=0))) (a₂:=onceC x0 x1) (fun (z:T91×Bool)=>(z.2,())) hr1)
theorem once_ok {x:T91} {n:Int} (h:0≤x.2.1):0≤(onceC x n).1.2.1:=below_ok h

def bigF (x0:(List Int)):Bool:=decide (((List.length x0:Nat):Int) > 1048576)
def S_laws_big:Sum:={ fid:=6,dom:=[s22],cod:=[(.bool 4)],dp:=true,fz:=false,pre:=fun x=>True,g:=fun x=>((bigF x.1),()) }
def S_laws_big_tab:List (Nat×Sum):=[]
theorem S_laws_big_ok:FnOK Try.prog 6 S_laws_big:=by
 refine at_enter 6 (fun x=>⟨[(0,aF (.u8 5) x.1)],[]⟩) Try.func6 rfl (by kernel_rfl) (fun x=>rfl) ?_
 rintro w0 Z0 ⟨x0,u⟩ a w
 revert x0
 intro (x0:(List Int)) hpre hlens h
 have hl1:List.length x0≤9223372036854775807:=hlens.1.1
 have hu0:u8L x0:=hlens.1.2
 have hT:TabOK Try.prog S_laws_big_tab:=.nil
 refine wp_seq ?_
 refine at_regq [] { ts:=[0,2],os:=[] } [] gamOK hT h (by kernel_rfl) trivial fun a w h=>then_normal (wp_seq ?_)
 refine at_regq [] { ts:=[2],os:=[] } [] gamOK hT h (by kernel_rfl) trivial fun a w h=>then_normal (wp_ret ?_)
 exact at_return (decide (((List.length x0:Nat):Int) > 1048576),()) [] h (by kernel_rfl) trivial (congrArg (fun z=>(z,())) (show (decide (((List.length x0:Nat):Int) > 1048576))=bigF x0 from by rfl))
theorem big_f {x:List Int} (h:bigF x=false):List.length x≤1048576:=by
 have:=of_decide_eq_false h;omega

def atF (x0:(List Int)) (x1:Int):Int:=(if x1 < ((List.length x0:Nat):Int) then (x0.getD ((x1).toNat) 0) else (Int.tmod ((x1*31)+(((List.length x0:Nat):Int)*7)) 256))
abbrev Q_laws_at:=(fun (x0:List Int) (x1:Int)=>List.length x0≤1048576∧(0≤x1∧x1≤1048576))
def S_laws_at:Sum:={ fid:=16,dom:=[s22,(.int 3)],cod:=[(.int 3)],dp:=true,fz:=false,pre:=fun x=>Q_laws_at x.1 x.2.1,g:=fun x=>((atF x.1 x.2.1),()) }
def S_laws_at_tab:List (Nat×Sum):=[]
theorem S_laws_at_ok:FnOK Try.prog 16 S_laws_at:=by
 refine at_enter 21 (fun x=>⟨[(0,aF (.u8 5) x.1),(1,aI x.2.1)],[]⟩) Try.func16 rfl (by kernel_rfl) (fun x=>rfl) ?_
 rintro w0 Z0 ⟨x0,x1,u⟩ a w
 revert x0 x1
 intro (x0:(List Int)) (x1:Int) hpre hlens h
 replace hpre:Q_laws_at x0 x1:=hpre
 have hl1:List.length x0≤9223372036854775807:=hlens.1.1
 have hu0:u8L x0:=hlens.1.2
 have hT:TabOK Try.prog S_laws_at_tab:=.nil
 have hpz:List.length x0≤1048576∧(0≤x1∧x1≤1048576):=hpre
 refine wp_seq ?_
 refine at_regq [] { ts:=[0,1,4],os:=[] } [] gamOK hT h (by kernel_rfl) trivial fun a w h=>then_normal (wp_seq (wp_seq ?_))
 refine at_regq [] { ts:=[0,1,4,8],os:=[] } [] gamOK hT h (by kernel_rfl) trivial fun a w h=>then_normal ?_
 refine at_test (decide (x1 < ((List.length x0:Nat):Int))) h (by kernel_rfl) (fun h1=>?_) (fun h1=>?_)
 ·replace h1 : x1 < ((List.length x0 : Nat) : Int) := of_decide_eq_true h1
  have hu1:=getD_u8 hu0 x1.toNat
  refine wp_seq ?_
  refine at_regq [{},{},{},{},{ hint:=some (aI (x0.getD ((x1).toNat) 0)) }] { ts:=[0,1,4],os:=[] } [(0:Int)≤x1∧x1 < ((List.length x0:Nat):Int),(AV.p (.c (.v (.int .i64 (IntKind.i64.wrap ((x0.getD ((x1).toNat) 0))))))=AV.p (.c (.v (.int .i64 ((x0.getD ((x1).toNat) 0))))))] gamOK hT h (by kernel_rfl) ⟨(by refine ⟨?_,?_⟩<;>(first | omega | (simp only [lsA];omega) | (simp<;>omega))),hint_int (wrap_id ⟨by first | omega | (simp only [lsA];omega) | (simp<;>omega),by first | omega | (simp only [lsA];omega) | (simp<;>omega)⟩),trivial⟩ fun a w h=>then_normal (wp_ret (then_ret ?_))
  exact at_return ((x0.getD ((x1).toNat) 0),()) [] h (by kernel_rfl) trivial (congrArg (fun z=>(z,())) (show ((x0.getD ((x1).toNat) 0))=atF x0 x1 from by first | rfl | (unfold atF;rw [if_pos h1])))
 ·replace h1 : ¬ (x1 < ((List.length x0 : Nat) : Int)) := of_decide_eq_false h1
  have hu1:=getD_u8 hu0 x1.toNat
  refine wp_skip (then_normal (wp_seq ?_))
  refine at_regq [{},{ nw:=true },{},{},{ nw:=true },{ nw:=true }] { ts:=[4],os:=[] } [I64 (x1*31),I64 (((List.length x0:Nat):Int)*7),I64 ((x1*31)+(((List.length x0:Nat):Int)*7)),(256:Int)≠0] gamOK hT h (by kernel_rfl) ⟨⟨by first | omega | (simp only [lsA];omega) | (simp<;>omega),by first | omega | (simp only [lsA];omega) | (simp<;>omega)⟩,⟨by first | omega | (simp only [lsA];omega) | (simp<;>omega),by first | omega | (simp only [lsA];omega) | (simp<;>omega)⟩,⟨by first | omega | (simp only [lsA];omega) | (simp<;>omega),by first | omega | (simp only [lsA];omega) | (simp<;>omega)⟩,(by first | omega | (simp only [lsA];omega) | (simp<;>omega)),trivial⟩ fun a w h=>then_normal (wp_ret ?_)
  exact at_return ((Int.tmod ((x1*31)+(((List.length x0:Nat):Int)*7)) 256),()) [] h (by kernel_rfl) trivial (congrArg (fun z=>(z,())) (show ((Int.tmod ((x1*31)+(((List.length x0:Nat):Int)*7)) 256))=atF x0 x1 from by first | rfl | (unfold atF;rw [if_neg h1])))
theorem at_bd {x:List Int} (hu:u8L x) {i:Int} (h:0≤i):0≤atF x i∧atF x i < 256:=by
 unfold atF;split
 ·exact getD_u8 hu _
 ·exact LA.tmod_lt (by omega) (by decide)

def elemC (x0:T91):T91×Int:=((belowC x0 1019).1,(belowC x0 1019).2)
abbrev Q_spec_l4Element:=(fun (x0:T91)=>0≤x0.2.1)
def B_spec_l4Element:BS:={ t:=91,s:=s91,dom:=[],cod:=[(.int 3)],pre:=fun y x=>Q_spec_l4Element y,upd:=fun y x=>(elemC y).1,g:=fun y x=>((elemC y).2,()) }
def S_spec_l4Element:Sum:=bSum 125 B_spec_l4Element
def S_spec_l4Element_tab:List (Nat×Sum):=[(60,S_spec_l1Below)]
theorem S_spec_l4Element_ok:FnOK Try.prog 125 S_spec_l4Element:=by
 refine at_enterB (B:=B_spec_l4Element) 5 (fun v y x=>⟨[(0,aP 1 0)],[(1,oX 91 [.ro (.u8 5) y.1,cI y.2.1,cI y.2.2]),(2,oP 1 v)]⟩) Try.func125 rfl (by kernel_rfl) (fun v y x=>rfl) ?_
 rintro w0 Z0 b0 x0 ⟨u⟩ a w
 revert x0
 intro (x0:T91) hpre hlens0 hlens h
 replace h:At w0 Z0 [b0] 5 ⟨[(0,aP 1 0)],[(1,oX 91 [.ro (.u8 5) x0.1,cI x0.2.1,cI x0.2.2]),(2,oP 1 (Value.pointer (some ⟨b0,0,none⟩)))]⟩ a w:=h
 replace hpre:Q_spec_l4Element x0:=hpre
 have hl1:List.length x0.1≤9223372036854775807:=hlens0.1.1
 have hu0:u8L x0.1:=hlens0.1.2
 have hT:TabOK Try.prog S_spec_l4Element_tab:=(.cons S_spec_l1Below_ok .nil)
 refine wp_seq ?_
 refine at_regq [] { ts:=[0,2],os:=[1,2] } [] gamOK hT h (by kernel_rfl) trivial fun a w h=>then_normal (wp_seq ?_)
 refine at_regq [] { ts:=[2],os:=[1,2] } [B_spec_l1Below.pre x0 (1019,())] gamOK hT h (by kernel_rfl) ⟨(by exact hpre),trivial⟩ fun a w h=>then_normal (wp_ret ?_)
 have hr1:(((belowC x0 1019).1,(belowC x0 1019).2):T91×Int)=elemC x0:=by rfl
 exact at_returnB (B:=B_spec_l4Element) (c0:=x0) (x:=(())) ((belowC x0 1019).1) ((belowC x0 1019).2,()) [(Value.pointer (some ⟨b0,0,none⟩))=(Value.pointer (some ⟨b0,0,none⟩))] h (by kernel_rfl) ⟨rfl,trivial⟩ (congrArg (a₁:=((belowC x0 1019).1,(belowC x0 1019).2)) (a₂:=elemC x0) (fun (z:T91×Int)=>z.1) hr1) (congrArg (a₁:=((belowC x0 1019).1,(belowC x0 1019).2)) (a₂:=elemC x0) (fun (z:T91×Int)=>(z.2,())) hr1)
theorem elem_ok {x:T91} (h:0≤x.2.1):0≤(elemC x).1.2.1:=below_ok h
theorem elem_bd (x:T91):LA.El (elemC x).2:=by have:=below_bd x (n:=1019) (by decide);show 0≤_∧_≤1018;unfold elemC;dsimp only;omega
def vecS (q:T91×List Int):T91×List Int:=if (onceC q.1 3).2=true then ((onceC q.1 3).1,q.2++[0]) else ((elemC (onceC q.1 3).1).1,q.2++[(elemC (onceC q.1 3).1).2])
def vecIt (x:T91):Nat→T91×List Int
 | 0=>(x,[])
 | i+1=>vecS (vecIt x i)
theorem vecIt_y {x:T91} {i:Nat} (h:(onceC (vecIt x i).1 3).2=true):vecIt x (i+1)=((onceC (vecIt x i).1 3).1,(vecIt x i).2++[0]):=if_pos h
theorem vecIt_n {x:T91} {i:Nat} (h:(onceC (vecIt x i).1 3).2=false):vecIt x (i+1)=((elemC (onceC (vecIt x i).1 3).1).1,(vecIt x i).2++[(elemC (onceC (vecIt x i).1 3).1).2]):=if_neg (by rw [h];decide)
theorem vecIt_inv {x:T91} (hx:0≤x.2.1):∀ i,0≤(vecIt x i).1.2.1∧(vecIt x i).2.length=i∧∀ e∈(vecIt x i).2,LA.El e
 | 0=>⟨hx,rfl,fun e he=>by cases he⟩
 | i + 1 => by
  obtain ⟨h1,h2,h3⟩:=vecIt_inv hx i
  have e:vecIt x (i+1)=vecS (vecIt x i):=rfl
  have hb:=elem_bd (onceC (vecIt x i).1 3).1
  rw [e];unfold vecS
  split
  ·refine ⟨once_ok h1, by simp [h2], fun y hy => ?_⟩
   rcases List.mem_append.1 hy with hy | hy
   ·exact h3 y hy
   ·have : y = 0 := by simpa using hy
    rw [this];unfold LA.El;omega
  ·refine ⟨elem_ok (once_ok h1), by simp [h2], fun y hy => ?_⟩
   rcases List.mem_append.1 hy with hy | hy
   ·exact h3 y hy
   ·have : y = (elemC (onceC (vecIt x i).1 3).1).2 := by simpa using hy
    rw [this];exact hb

def vecD (x0:T91) (x1:Int):T91×(List Int):=((vecIt x0 x1.toNat).1,(vecIt x0 x1.toNat).2)
abbrev Q_spec_l5Vector:=(fun (x0:T91) (x1:Int)=>0≤x0.2.1∧x1≤1000)
def B_spec_l5Vector:BS:={ t:=91,s:=s91,dom:=[(.int 3)],cod:=[s33],pre:=fun y x=>Q_spec_l5Vector y x.1,upd:=fun y x=>(vecD y x.1).1,g:=fun y x=>((vecD y x.1).2,()) }
def S_spec_l5Vector:Sum:=bSum 98 B_spec_l5Vector
def S_spec_l5Vector_tab:List (Nat×Sum):=[(76,S_spec_l1Once),(125,S_spec_l4Element)]
theorem S_spec_l5Vector_ok:FnOK Try.prog 98 S_spec_l5Vector:=by
 refine at_enterB (B:=B_spec_l5Vector) 24 (fun v y x=>⟨[(0,aP 1 0),(1,aI x.1)],[(1,oX 91 [.ro (.u8 5) y.1,cI y.2.1,cI y.2.2]),(2,oP 1 v)]⟩) Try.func98 rfl (by kernel_rfl) (fun v y x=>rfl) ?_
 rintro w0 Z0 b0 x0 ⟨x1,u⟩ a w
 revert x0 x1
 intro (x0:T91) (x1:Int) hpre hlens0 hlens h
 replace h:At w0 Z0 [b0] 24 ⟨[(0,aP 1 0),(1,aI x1)],[(1,oX 91 [.ro (.u8 5) x0.1,cI x0.2.1,cI x0.2.2]),(2,oP 1 (Value.pointer (some ⟨b0,0,none⟩)))]⟩ a w:=h
 replace hpre:Q_spec_l5Vector x0 x1:=hpre
 have hl1:List.length x0.1≤9223372036854775807:=hlens0.1.1
 have hu0:u8L x0.1:=hlens0.1.2
 have hT:TabOK Try.prog S_spec_l5Vector_tab:=(.cons S_spec_l1Once_ok (.cons S_spec_l4Element_ok .nil))
 have hp2:=hpre.2
 refine wp_seq ?_
 refine at_regq [] { ts:=[0,1,4],os:=[1,2] } [] gamOK hT h (by kernel_rfl) trivial fun a w h=>then_normal (wp_seq ?_)
 refine at_regq [{ ids:=[3] }] { ts:=[0,1,4,5],os:=[1,2,3] } [] gamOK hT h (by kernel_rfl) trivial fun a w h=>then_normal (wp_seq (wp_seq ?_))
 refine at_regq [] { ts:=[0,1,4,5,6],os:=[1,2,3] } [] gamOK hT h (by kernel_rfl) trivial fun a w h=>then_normal (wp_block ?_)
 replace h:=at_out (σ':=⟨[(0,aP 1 0),(1,aI x1),(4,.p (.c (cN))),(5,aS 3),(6,aI 0)],[(1,oX 91 [.ro (.u8 5) x0.1,cI x0.2.1,cI x0.2.2]),(2,oP 1 (Value.pointer (some ⟨b0,0,none⟩))),(3,oR (.int 3) ([]:List Int))]⟩) { ts:=[0,1,4,5,6],os:=[1,2,3] } h (by kernel_rfl)
 refine at_loop (fun i:Nat=>(⟨[(0,aP 1 0),(1,aI x1),(4,.p (.c (cN))),(5,aS 3),(6,aI ((i:Nat):Int))],[(1,oX 91 [.ro (.u8 5) (vecIt x0 i).1.1,cI (vecIt x0 i).1.2.1,cI (vecIt x0 i).1.2.2]),(2,oP 1 (Value.pointer (some ⟨b0,0,none⟩))),(3,oR (.int 3) (vecIt x0 i).2)]⟩:St)) (fun i=>i≤x1.toNat) (fun i=>x1.toNat - i) (0) h (st_congr5 (fun (d0:List Int) (d1:Int) (d2:Int) (d3:List Int) (d4:Int)=>(⟨[(0,aP 1 0),(1,aI x1),(4,.p (.c (cN))),(5,aS 3),(6,aI d4)],[(1,oX 91 [.ro (.u8 5) d0,cI d1,cI d2]),(2,oP 1 (Value.pointer (some ⟨b0,0,none⟩))),(3,oR (.int 3) d3)]⟩:St)) (show (x0.1:List Int)=(vecIt x0 (0)).1.1 from by first | with_reducible rfl | (rfl) | rfl) (show (x0.2.1:Int)=(vecIt x0 (0)).1.2.1 from by first | with_reducible rfl | (rfl) | rfl) (show (x0.2.2:Int)=(vecIt x0 (0)).1.2.2 from by first | with_reducible rfl | (rfl) | rfl) (show (([]:List Int):List Int)=(vecIt x0 (0)).2 from by first | with_reducible rfl | (rfl) | rfl) (show (0:Int)=(((0):Nat):Int) from by first | with_reducible rfl | (rfl) | rfl)) (by omega) ?_
 intro i a w hok0 h
 have hvi:=vecIt_inv hpre.1 i
 have hvl:=hvi.2.1
 refine wp_seq (wp_seq ?_)
 refine at_regq [] { ts:=[0,1,4,5,6,10],os:=[1,2,3] } [] gamOK hT h (by kernel_rfl) trivial fun a w h=>then_normal ?_
 refine at_test (decide (((i:Nat):Int) < x1)) h (by kernel_rfl) (fun h1=>?_) (fun h1=>?_)
 ·replace h1 : ((i : Nat) : Int) < x1 := of_decide_eq_true h1
  refine wp_skip (then_normal (wp_seq (wp_block (wp_seq ?_))))
  refine at_regq [] { ts:=[0,1,4,5,6,14],os:=[1,2,3] } [B_spec_l1Once.pre (vecIt x0 i).1 (3,())] gamOK hT h (by kernel_rfl) ⟨(by exact hvi.1),trivial⟩ fun a w h=>then_normal ?_
  refine at_test ((onceC (vecIt x0 i).1 3).2) h (by kernel_rfl) (fun h2=>?_) (fun h2=>?_)
  ·refine at_regq [{}, { ids := [4] }, { ids := [5] }] { ts := [0, 1, 4, 5, 6], os := [1, 2, 5] } [(List.length (vecIt x0 i).2 + List.length ([0])) * 8 ≤ 140737488355328] gamOK hT h (by kernel_rfl) ⟨(by first | omega | (simp only [lsA]; omega) | (simp <;> omega)), trivial⟩ fun a w h => in_normal (then_normal ?_)
   refine at_regq [{},{ nw:=true }] { ts:=[0,1,4,5,6],os:=[1,2,5] } [I64 (((i:Nat):Int)+1)] gamOK hT h (by kernel_rfl) ⟨⟨by first | omega | (simp only [lsA];omega) | (simp<;>omega),by first | omega | (simp only [lsA];omega) | (simp<;>omega)⟩,trivial⟩ fun a w h=>?_
   replace h:=at_out (σ':=⟨[(0,aP 1 0),(1,aI x1),(4,.p (.c (cN))),(5,aS 3),(6,aI (((i:Nat):Int)+1))],[(1,oX 91 [.ro (.u8 5) (onceC (vecIt x0 i).1 3).1.1,cI (onceC (vecIt x0 i).1 3).1.2.1,cI (onceC (vecIt x0 i).1 3).1.2.2]),(2,oP 1 (Value.pointer (some ⟨b0,0,none⟩))),(3,oR (.int 3) ((vecIt x0 i).2++([0])))]⟩) { ts:=[0,1,4,5,6],os:=[1,2,5],rn:=[(5,3)] } h (by kernel_rfl)
   exact ⟨i+1,at_eq h (st_congr5 (fun (d0:List Int) (d1:Int) (d2:Int) (d3:List Int) (d4:Int)=>(⟨[(0,aP 1 0),(1,aI x1),(4,.p (.c (cN))),(5,aS 3),(6,aI d4)],[(1,oX 91 [.ro (.u8 5) d0,cI d1,cI d2]),(2,oP 1 (Value.pointer (some ⟨b0,0,none⟩))),(3,oR (.int 3) d3)]⟩:St)) (show ((onceC (vecIt x0 i).1 3).1.1:List Int)=(vecIt x0 (i+1)).1.1 from by first | with_reducible rfl | (first | (rw [vecIt_y (x:=x0) (i:=i) (by assumption)];done) | (rw [vecIt_n (x:=x0) (i:=i) (by assumption)];done)) | rfl) (show ((onceC (vecIt x0 i).1 3).1.2.1:Int)=(vecIt x0 (i+1)).1.2.1 from by first | with_reducible rfl | (first | (rw [vecIt_y (x:=x0) (i:=i) (by assumption)];done) | (rw [vecIt_n (x:=x0) (i:=i) (by assumption)];done)) | rfl) (show ((onceC (vecIt x0 i).1 3).1.2.2:Int)=(vecIt x0 (i+1)).1.2.2 from by first | with_reducible rfl | (first | (rw [vecIt_y (x:=x0) (i:=i) (by assumption)];done) | (rw [vecIt_n (x:=x0) (i:=i) (by assumption)];done)) | rfl) (show (((vecIt x0 i).2++([0])):List Int)=(vecIt x0 (i+1)).2 from by first | with_reducible rfl | (first | (rw [vecIt_y (x:=x0) (i:=i) (by assumption)];done) | (rw [vecIt_n (x:=x0) (i:=i) (by assumption)];done)) | rfl) (show (((i:Nat):Int)+1:Int)=(((i+1):Nat):Int) from by first | with_reducible rfl | (omega) | rfl)),(by omega),(by omega)⟩
  ·refine at_regq [{}, {}, {}, { ids := [6] }, { ids := [7] }] { ts := [0, 1, 4, 5, 6], os := [1, 2, 7] } [B_spec_l4Element.pre (onceC (vecIt x0 i).1 3).1 (()), (List.length (vecIt x0 i).2 + List.length ([(elemC (onceC (vecIt x0 i).1 3).1).2])) * 8 ≤ 140737488355328] gamOK hT h (by kernel_rfl) ⟨(by exact (once_ok hvi.1)), (by first | omega | (simp only [lsA]; omega) | (simp <;> omega)), trivial⟩ fun a w h => in_normal (then_normal ?_)
   refine at_regq [{},{ nw:=true }] { ts:=[0,1,4,5,6],os:=[1,2,7] } [I64 (((i:Nat):Int)+1)] gamOK hT h (by kernel_rfl) ⟨⟨by first | omega | (simp only [lsA];omega) | (simp<;>omega),by first | omega | (simp only [lsA];omega) | (simp<;>omega)⟩,trivial⟩ fun a w h=>?_
   replace h:=at_out (σ':=⟨[(0,aP 1 0),(1,aI x1),(4,.p (.c (cN))),(5,aS 3),(6,aI (((i:Nat):Int)+1))],[(1,oX 91 [.ro (.u8 5) (elemC (onceC (vecIt x0 i).1 3).1).1.1,cI (elemC (onceC (vecIt x0 i).1 3).1).1.2.1,cI (elemC (onceC (vecIt x0 i).1 3).1).1.2.2]),(2,oP 1 (Value.pointer (some ⟨b0,0,none⟩))),(3,oR (.int 3) ((vecIt x0 i).2++([(elemC (onceC (vecIt x0 i).1 3).1).2])))]⟩) { ts:=[0,1,4,5,6],os:=[1,2,7],rn:=[(7,3)] } h (by kernel_rfl)
   exact ⟨i+1,at_eq h (st_congr5 (fun (d0:List Int) (d1:Int) (d2:Int) (d3:List Int) (d4:Int)=>(⟨[(0,aP 1 0),(1,aI x1),(4,.p (.c (cN))),(5,aS 3),(6,aI d4)],[(1,oX 91 [.ro (.u8 5) d0,cI d1,cI d2]),(2,oP 1 (Value.pointer (some ⟨b0,0,none⟩))),(3,oR (.int 3) d3)]⟩:St)) (show ((elemC (onceC (vecIt x0 i).1 3).1).1.1:List Int)=(vecIt x0 (i+1)).1.1 from by first | with_reducible rfl | (first | (rw [vecIt_y (x:=x0) (i:=i) (by assumption)];done) | (rw [vecIt_n (x:=x0) (i:=i) (by assumption)];done)) | rfl) (show ((elemC (onceC (vecIt x0 i).1 3).1).1.2.1:Int)=(vecIt x0 (i+1)).1.2.1 from by first | with_reducible rfl | (first | (rw [vecIt_y (x:=x0) (i:=i) (by assumption)];done) | (rw [vecIt_n (x:=x0) (i:=i) (by assumption)];done)) | rfl) (show ((elemC (onceC (vecIt x0 i).1 3).1).1.2.2:Int)=(vecIt x0 (i+1)).1.2.2 from by first | with_reducible rfl | (first | (rw [vecIt_y (x:=x0) (i:=i) (by assumption)];done) | (rw [vecIt_n (x:=x0) (i:=i) (by assumption)];done)) | rfl) (show (((vecIt x0 i).2++([(elemC (onceC (vecIt x0 i).1 3).1).2])):List Int)=(vecIt x0 (i+1)).2 from by first | with_reducible rfl | (first | (rw [vecIt_y (x:=x0) (i:=i) (by assumption)];done) | (rw [vecIt_n (x:=x0) (i:=i) (by assumption)];done)) | rfl) (show (((i:Nat):Int)+1:Int)=(((i+1):Nat):Int) from by first | with_reducible rfl | (omega) | rfl)),(by omega),(by omega)⟩
 ·replace h1 : ¬ (((i : Nat) : Int) < x1) := of_decide_eq_false h1
  refine wp_exit (then_exit ?_)
  replace h:=at_out (σ':=⟨[(4,.p (.c (cN))),(5,aS 3)],[(1,oX 91 [.ro (.u8 5) (vecIt x0 i).1.1,cI (vecIt x0 i).1.2.1,cI (vecIt x0 i).1.2.2]),(2,oP 1 (Value.pointer (some ⟨b0,0,none⟩))),(3,oR (.int 3) (vecIt x0 i).2)]⟩) { ts:=[4,5],os:=[1,2,3] } h (by kernel_rfl)
  replace h:=at_eq (σ':=⟨[(4,.p (.c (cN))),(5,aS 3)],[(1,oX 91 [.ro (.u8 5) (vecIt x0 x1.toNat).1.1,cI (vecIt x0 x1.toNat).1.2.1,cI (vecIt x0 x1.toNat).1.2.2]),(2,oP 1 (Value.pointer (some ⟨b0,0,none⟩))),(3,oR (.int 3) (vecIt x0 x1.toNat).2)]⟩) h (st_congr4 (fun (d0:List Int) (d1:Int) (d2:Int) (d3:List Int)=>(⟨[(4,.p (.c (cN))),(5,aS 3)],[(1,oX 91 [.ro (.u8 5) d0,cI d1,cI d2]),(2,oP 1 (Value.pointer (some ⟨b0,0,none⟩))),(3,oR (.int 3) d3)]⟩:St)) (show ((vecIt x0 i).1.1:List Int)=(vecIt x0 x1.toNat).1.1 from by first | with_reducible rfl | (rw [show x1.toNat=i by omega]) | rfl) (show ((vecIt x0 i).1.2.1:Int)=(vecIt x0 x1.toNat).1.2.1 from by first | with_reducible rfl | (rw [show x1.toNat=i by omega]) | rfl) (show ((vecIt x0 i).1.2.2:Int)=(vecIt x0 x1.toNat).1.2.2 from by first | with_reducible rfl | (rw [show x1.toNat=i by omega]) | rfl) (show ((vecIt x0 i).2:List Int)=(vecIt x0 x1.toNat).2 from by first | with_reducible rfl | (rw [show x1.toNat=i by omega]) | rfl))
  refine then_exit (in_hit (then_normal (wp_seq ?_)))
  refine at_regq [] { ts:=[4],os:=[1,2,3] } [] gamOK hT h (by kernel_rfl) trivial fun a w h=>then_normal (wp_ret ?_)
  have hr3:(((vecIt x0 x1.toNat).1,(vecIt x0 x1.toNat).2):T91×(List Int))=vecD x0 x1:=by rfl
  exact at_returnB (B:=B_spec_l5Vector) (c0:=x0) (x:=(x1,())) ((vecIt x0 x1.toNat).1) ((vecIt x0 x1.toNat).2,()) [(Value.pointer (some ⟨b0,0,none⟩))=(Value.pointer (some ⟨b0,0,none⟩))] h (by kernel_rfl) ⟨rfl,trivial⟩ (congrArg (a₁:=((vecIt x0 x1.toNat).1,(vecIt x0 x1.toNat).2)) (a₂:=vecD x0 x1) (fun (z:T91×(List Int))=>z.1) hr3) (congrArg (a₁:=((vecIt x0 x1.toNat).1,(vecIt x0 x1.toNat).2)) (a₂:=vecD x0 x1) (fun (z:T91×(List Int))=>(z.2,())) hr3)
theorem vecD_ok {x:T91} {n:Int} (h:0≤x.2.1):0≤(vecD x n).1.2.1∧LA.VokB n.toNat (vecD x n).2:=⟨(vecIt_inv h _).1,(vecIt_inv h _).2.1,(vecIt_inv h _).2.2⟩

end Go.Proofs.Ytgeonngfipikeaa
