/- The walks of the functions that the law reaches: each summary holds. No condition. -/
import Derived.Test.YtgeonngfipikeaaGreatFnLedgers2
import Derived.Test.YtgeonngfipikeaaGreatLA
import Derived.Test.YtgeonngfipikeaaGreatProg
namespace Go.Proofs.YtgeonngfipikeaaGreat
open Go.RowKit
set_option linter.unusedVariables false
set_option linter.unusedSimpArgs false
abbrev Q_spec_CodePacket:=(fun (x0:T26) (x1:(List Int))=>Sh.fit s26 x0∧Sh.fit s39 x1)
def S_spec_CodePacket:Sum:={ fid:=38,dom:=[s26,s39],cod:=[s41,(.bool 4)],dp:=true,fz:=false,pre:=fun x=>Q_spec_CodePacket x.1 x.2.1,g:=fun x=>((codePk x.1 x.2.1).1,((codePk x.1 x.2.1).2,())) }
def S_spec_CodePacket_tab:List (Nat×Sum):=[(72,S_spec_IsValidGeneration),(73,S_spec_IsValidVector),(74,S_spec_Combine)]
theorem S_spec_CodePacket_ok:FnOK Tryz.prog 38 S_spec_CodePacket:=by
 refine at_enter 33 (fun x=>⟨[(0,aG [cI x.1.1,.ro s39 x.1.2]),(1,aF (.int 3) x.2.1)],[]⟩) Tryz.func38 rfl (by kernel_rfl) (fun x=>rfl) ?_
 rintro w0 Z0 ⟨x0,x1,u⟩ a w
 revert x0 x1
 intro (x0:T26) (x1:(List Int)) hpre hlens h
 replace hpre:Q_spec_CodePacket x0 x1:=hpre
 have hT:TabOK Tryz.prog S_spec_CodePacket_tab:=(.cons S_spec_IsValidGeneration_ok (.cons S_spec_IsValidVector_ok (.cons S_spec_Combine_ok .nil)))
 obtain ⟨hf0,hf1⟩:=hpre
 have hn0_1:List.length x0.2≤1073741824:=hf0.2.1
 have hn1_2:List.length x1≤1073741824:=hf1.1
 refine wp_seq ?_
 refine at_regq [{ ids:=[1] },{ ids:=[2] }] { ts:=[1,2,4,5],os:=[1,2] } [] gamOK hT h (by kernel_rfl) trivial fun a w h=>then_normal (wp_seq (wp_seq ?_))
 rcases Bool.eq_false_or_eq_true (!(validG x0)) with h1 | h1
 ·have hzh1 : (validG x0) = false := notT h1
  refine at_regq [{},{},{ hint:=some (aB true) }] { ts:=[1,2,4,5,21],os:=[1,2] } [Q_spec_IsValidGeneration x0,(AV.p (.c (.v (.bool (!(validG x0)))))=AV.p (.c (.v (.bool true))))] gamOK hT h (by kernel_rfl) ⟨(by exact hf0),hint_bool (h1),trivial⟩ fun a w h=>then_normal ?_
  refine at_test true h (by kernel_rfl) (fun hh=>?_) (fun hh=>nomatch hh)
  refine wp_seq ?_
  refine at_regq [] { ts:=[1,2,4,5],os:=[1,2] } [] gamOK hT h (by kernel_rfl) trivial fun a w h=>then_normal (wp_ret (then_ret ?_))
  exact at_return ((0,(([]:List Int),([]:List Int))),(false,())) [] h (by kernel_rfl) trivial (congrArg (fun z=>(z.1,z.2,())) (show (((0,(([]:List Int),([]:List Int))),false))=codePk x0 x1 from by first | exact codePk_n (by first | (left;assumption) | (right;left;assumption) | (right;right;omega)) | exact codePk_y (cs:=x1) (by assumption) (by assumption) (by omega)))
 ·have hzh1 : (validG x0) = true := notF h1
  have hvh1:=validG_t (notF h1)
  rcases Bool.eq_false_or_eq_true (!(validV x1)) with h2 | h2
  ·have hzh2 : (validV x1) = false := notT h2
   refine at_regq [{},{},{ hint:=some (aB false) },{},{},{},{ hint:=some (aB true) }] { ts:=[1,2,4,5,21],os:=[1,2] } [Q_spec_IsValidGeneration x0,(AV.p (.c (.v (.bool (!(validG x0)))))=AV.p (.c (.v (.bool false)))),Q_spec_IsValidVector x1,(AV.p (.c (.v (.bool (!(validV x1)))))=AV.p (.c (.v (.bool true))))] gamOK hT h (by kernel_rfl) ⟨(by exact hf0),hint_bool (h1),(by exact hf1),hint_bool (h2),trivial⟩ fun a w h=>then_normal ?_
   refine at_test true h (by kernel_rfl) (fun hh=>?_) (fun hh=>nomatch hh)
   refine wp_seq ?_
   refine at_regq [] { ts:=[1,2,4,5],os:=[1,2] } [] gamOK hT h (by kernel_rfl) trivial fun a w h=>then_normal (wp_ret (then_ret ?_))
   exact at_return ((0,(([]:List Int),([]:List Int))),(false,())) [] h (by kernel_rfl) trivial (congrArg (fun z=>(z.1,z.2,())) (show (((0,(([]:List Int),([]:List Int))),false))=codePk x0 x1 from by first | exact codePk_n (by first | (left;assumption) | (right;left;assumption) | (right;right;omega)) | exact codePk_y (cs:=x1) (by assumption) (by assumption) (by omega)))
  ·have hzh2 : (validV x1) = true := notF h2
   have hvh2:=validV_t (notF h2)
   refine at_regq [{},{},{ hint:=some (aB false) },{},{},{},{ hint:=some (aB false) }] { ts:=[1,2,4,5,21],os:=[1,2] } [Q_spec_IsValidGeneration x0,(AV.p (.c (.v (.bool (!(validG x0)))))=AV.p (.c (.v (.bool false)))),Q_spec_IsValidVector x1,(AV.p (.c (.v (.bool (!(validV x1)))))=AV.p (.c (.v (.bool false))))] gamOK hT h (by kernel_rfl) ⟨(by exact hf0),hint_bool (h1),(by exact hf1),hint_bool (h2),trivial⟩ fun a w h=>then_normal ?_
   refine at_test (!decide (((List.length x1:Nat):Int)=((List.length x0.2:Nat):Int))) h (by kernel_rfl) (fun h3=>?_) (fun h3=>?_)
   ·replace h3 : ¬ (((List.length x1 : Nat) : Int) = ((List.length x0.2 : Nat) : Int)) := of_decide_eq_false (notT h3)
    refine wp_seq ?_
    refine at_regq [] { ts:=[1,2,4,5],os:=[1,2] } [] gamOK hT h (by kernel_rfl) trivial fun a w h=>then_normal (wp_ret (then_ret ?_))
    exact at_return ((0,(([]:List Int),([]:List Int))),(false,())) [] h (by kernel_rfl) trivial (congrArg (fun z=>(z.1,z.2,())) (show (((0,(([]:List Int),([]:List Int))),false))=codePk x0 x1 from by first | exact codePk_n (by first | (left;assumption) | (right;left;assumption) | (right;right;omega)) | exact codePk_y (cs:=x1) (by assumption) (by assumption) (by omega)))
   ·replace h3 : ((List.length x1 : Nat) : Int) = ((List.length x0.2 : Nat) : Int) := of_decide_eq_true (notF h3)
    refine wp_skip (then_normal (wp_seq ?_))
    refine at_anyq [{},{},{ ids:=[3] },{},{ ids:=[4] },{},{},{},{ ids:=[5] },{},{},{}] { ts:=[4,5],os:=[2,4,5] } [(List.length ([]:List Int)+List.length x1)*8≤140737488355328,Q_spec_Combine x0.2 x1] gamOK hT mixed h (by kernel_rfl) ⟨(by first | omega | (simp only [lsA];omega) | (simp<;>omega)),(by exact ⟨hf0.2,hf1⟩),trivial⟩ fun a w h=>then_normal (wp_ret ?_)
    exact at_return ((x0.1,((([]:List Int)++x1),(combV x0.2 x1))),(true,())) [] h (by kernel_rfl) trivial (congrArg (fun z=>(z.1,z.2,())) (show (((x0.1,((([]:List Int)++x1),(combV x0.2 x1))),true))=codePk x0 x1 from by first | exact codePk_n (by first | (left;assumption) | (right;left;assumption) | (right;right;omega)) | exact codePk_y (cs:=x1) (by assumption) (by assumption) (by omega)))

def and255 (z:Int):Int:=IntKind.i64.wrap ((BitVec.ofInt (IntKind.i64).bits z &&& BitVec.ofInt (IntKind.i64).bits 255).toNat:Int)
theorem and255_bd (z:Int):0≤and255 z∧and255 z≤255:=by
 unfold and255
 have e:(BitVec.ofInt (IntKind.i64).bits z &&& BitVec.ofInt (IntKind.i64).bits 255).toNat≤255:=by
  rw [BitVec.toNat_and]
  have h2:(BitVec.ofInt (IntKind.i64).bits 255).toNat=255:=by decide
  rw [h2];exact Nat.and_le_right
 rw [IntKind.wrap_i64];omega
def lcgF (h:Int):Int:=IntKind.i64.wrap (IntKind.i64.wrap (h*6364136223846793005)+1442695040888963407)
def xorF (h:Int):Int:=IntKind.i64.wrap ((BitVec.ofInt (IntKind.i64).bits (Int.fdiv h (2 ^ (min (33:Int).toNat (IntKind.i64).bits))) ^^^ BitVec.ofInt (IntKind.i64).bits (Int.fdiv h (2 ^ (min (47:Int).toNat (IntKind.i64).bits)))).toNat:Int)
def hsF (h c:Int):Int:=IntKind.i64.wrap ((BitVec.ofInt (IntKind.i64).bits (IntKind.i64.wrap (IntKind.i64.wrap (IntKind.i64.wrap (h*137)+c)+11)) &&& BitVec.ofInt (IntKind.i64).bits 1073741823).toNat:Int)
def hsTo (code:List Int):Nat→Int
 | 0=>193017+((List.length code:Nat):Int)
 | i+1=>hsF (hsTo code i) (code.getD i 0)
def newC (code:List Int):T112:=(code,0,hsTo code (min (List.length code) 4000))
abbrev Q_spec_l1New:=(fun (x0:(List Int))=>Sh.fit s22 x0)
def B_spec_l1New:NS:={ t:=112,s:=s112,dom:=[s22],pre:=fun x=>Q_spec_l1New x.1,g:=fun x=>(newC x.1) }
def S_spec_l1New:Sum:=nSum 28 B_spec_l1New
def S_spec_l1New_tab:List (Nat×Sum):=[]
theorem S_spec_l1New_ok:FnOK Tryz.prog 28 S_spec_l1New:=by
 refine at_enterN (B:=B_spec_l1New) 32 (fun x=>⟨[(0,aF (.u8 5) x.1)],[]⟩) Tryz.func28 rfl (by kernel_rfl) (fun x=>rfl) ?_
 rintro w0 Z0 ⟨x0,u⟩ a w
 revert x0
 intro (x0:(List Int)) hpre hlens h
 replace h:At w0 Z0 [] 32 ⟨[(0,aF (.u8 5) x0)],[]⟩ a w:=h
 replace hpre:Q_spec_l1New x0:=hpre
 have hl1:List.length x0≤9223372036854775807:=hlens.1.1
 have hu0:u8L x0:=hlens.1.2
 have hT:TabOK Tryz.prog S_spec_l1New_tab:=.nil
 have hf0:Sh.fit s22 x0:=hpre
 have hn0_1:List.length x0≤1073741824:=hf0.1
 refine wp_seq ?_
 refine at_regq [] { ts:=[0,2],os:=[] } [] gamOK hT h (by kernel_rfl) trivial fun a w h=>then_normal (wp_seq ?_)
 refine at_regq [{},{},{ nw:=true }] { ts:=[0,2,3],os:=[] } [I64 (193017+((List.length x0:Nat):Int))] gamOK hT h (by kernel_rfl) ⟨⟨by first | omega | (simp only [lsA];omega) | (simp<;>omega),by first | omega | (simp only [lsA];omega) | (simp<;>omega)⟩,trivial⟩ fun a w h=>then_normal (wp_seq (wp_seq ?_))
 refine at_regq [] { ts:=[0,2,3,4],os:=[] } [] gamOK hT h (by kernel_rfl) trivial fun a w h=>then_normal (wp_block ?_)
 replace h:=at_out (σ':=⟨[(0,aF (.u8 5) x0),(2,.p (.c (.v (.pointer none)))),(3,aI (193017+((List.length x0:Nat):Int))),(4,aI 0)],[]⟩) { ts:=[0,2,3,4],os:=[] } h (by kernel_rfl)
 refine at_loop (fun i:Nat=>(⟨[(0,aF (.u8 5) x0),(2,.p (.c (.v (.pointer none)))),(3,aI (hsTo x0 i)),(4,aI ((i:Nat):Int))],[]⟩:St)) (fun i=>i≤(min (List.length x0) 4000)) (fun i=>(min (List.length x0) 4000) - i) (0) h (st_congr2 (fun (d0:Int) (d1:Int)=>(⟨[(0,aF (.u8 5) x0),(2,.p (.c (.v (.pointer none)))),(3,aI d0),(4,aI d1)],[]⟩:St)) (show (193017+((List.length x0:Nat):Int):Int)=(hsTo x0 (0)) from by first | with_reducible rfl | (rfl) | rfl) (show (0:Int)=(((0):Nat):Int) from by first | with_reducible rfl | (rfl) | rfl)) (by omega) ?_
 intro i a w hok0 h
 have hu1:=getD_u8 hu0 i
 refine wp_seq (wp_seq ?_)
 by_cases h1:((i:Nat):Int) < ((List.length x0:Nat):Int)
 ·refine at_regq [{}, {}, {}, { hint := some (aB true) }] { ts := [0, 2, 3, 4, 13, 14, 15], os := [] } [(AV.p (.c (.v (.bool (decide (((i : Nat) : Int) < ((List.length x0 : Nat) : Int)))))) = AV.p (.c (.v (.bool true))))] gamOK hT h (by kernel_rfl) ⟨hint_bool (decide_eq_true h1), trivial⟩ fun a w h => then_normal ?_
  refine at_test (decide (((i:Nat):Int) < 4000)) h (by kernel_rfl) (fun h2=>?_) (fun h2=>?_)
  ·replace h2 : ((i : Nat) : Int) < 4000 := of_decide_eq_true h2
   refine wp_skip (then_normal (wp_seq (wp_block ?_)))
   refine at_regq [{},{},{},{},{},{},{ hint:=some (aI (x0.getD i 0)) },{},{},{ hint:=some (aI (hsF (hsTo x0 i) (x0.getD i 0))) }] { ts:=[0,2,3,4,13,14],os:=[] } [(0:Int)≤((i:Nat):Int)∧((i:Nat):Int) < ((List.length x0:Nat):Int),(AV.p (.c (.v (.int .i64 (IntKind.i64.wrap ((x0.getD i 0))))))=AV.p (.c (.v (.int .i64 ((x0.getD i 0)))))),(AV.p (.c (.v (.int .i64 (IntKind.i64.wrap ((BitVec.ofInt (IntKind.i64).bits (IntKind.i64.wrap ((IntKind.i64.wrap ((IntKind.i64.wrap ((hsTo x0 i)*137))+(x0.getD i 0)))+11)) &&& BitVec.ofInt (IntKind.i64).bits 1073741823).toNat:Int)))))=AV.p (.c (.v (.int .i64 ((hsF (hsTo x0 i) (x0.getD i 0)))))))] gamOK hT h (by kernel_rfl) ⟨(by refine ⟨?_,?_⟩<;>(first | omega | (simp only [lsA];omega) | (simp<;>omega))),hint_int (wrap_id ⟨by first | omega | (simp only [lsA];omega) | (simp<;>omega),by first | omega | (simp only [lsA];omega) | (simp<;>omega)⟩),hint_int (by rfl),trivial⟩ fun a w h=>in_normal (then_normal ?_)
   refine at_regq [{},{ nw:=true }] { ts:=[0,2,3,4,13,14],os:=[] } [I64 (((i:Nat):Int)+1)] gamOK hT h (by kernel_rfl) ⟨⟨by first | omega | (simp only [lsA];omega) | (simp<;>omega),by first | omega | (simp only [lsA];omega) | (simp<;>omega)⟩,trivial⟩ fun a w h=>?_
   replace h:=at_out (σ':=⟨[(0,aF (.u8 5) x0),(2,.p (.c (.v (.pointer none)))),(3,aI (hsF (hsTo x0 i) (x0.getD i 0))),(4,aI (((i:Nat):Int)+1))],[]⟩) { ts:=[0,2,3,4],os:=[] } h (by kernel_rfl)
   exact ⟨i+1,at_eq h (st_congr2 (fun (d0:Int) (d1:Int)=>(⟨[(0,aF (.u8 5) x0),(2,.p (.c (.v (.pointer none)))),(3,aI d0),(4,aI d1)],[]⟩:St)) (show ((hsF (hsTo x0 i) (x0.getD i 0)):Int)=(hsTo x0 (i+1)) from by first | with_reducible rfl | (rfl) | rfl) (show (((i:Nat):Int)+1:Int)=(((i+1):Nat):Int) from by first | with_reducible rfl | (omega) | rfl)),(by omega),(by omega)⟩
  ·replace h2 : ¬ (((i : Nat) : Int) < 4000) := of_decide_eq_false h2
   refine wp_exit (then_exit ?_)
   replace h:=at_out (σ':=⟨[(0,aF (.u8 5) x0),(2,.p (.c (.v (.pointer none)))),(3,aI (hsTo x0 i))],[]⟩) { ts:=[0,2,3],os:=[] } h (by kernel_rfl)
   replace h:=at_eq (σ':=⟨[(0,aF (.u8 5) x0),(2,.p (.c (.v (.pointer none)))),(3,aI (hsTo x0 (min (List.length x0) 4000)))],[]⟩) h (st_congr1 (fun (d0:Int)=>(⟨[(0,aF (.u8 5) x0),(2,.p (.c (.v (.pointer none)))),(3,aI d0)],[]⟩:St)) (show ((hsTo x0 i):Int)=(hsTo x0 (min (List.length x0) 4000)) from by first | with_reducible rfl | (rw [show i=(min (List.length x0) 4000) by omega]) | rfl))
   refine then_exit (in_hit (then_normal (wp_seq ?_)))
   refine at_regq [{},{},{},{ ids:=[1] }] { ts:=[2],os:=[1] } [] gamOK hT h (by kernel_rfl) trivial fun a w h=>then_normal (wp_ret ?_)
   exact at_returnN (B:=B_spec_l1New) (x:=(x0,())) ((x0,(0,(hsTo x0 (min (List.length x0) 4000))))) [] h (by kernel_rfl) trivial (show (x0,(0,(hsTo x0 (min (List.length x0) 4000))))=newC x0 from by rfl)
 ·refine at_regq [{}, {}, {}, { hint := some (aB false) }] { ts := [0, 2, 3, 4, 13, 14, 15], os := [] } [(AV.p (.c (.v (.bool (decide (((i : Nat) : Int) < ((List.length x0 : Nat) : Int)))))) = AV.p (.c (.v (.bool false))))] gamOK hT h (by kernel_rfl) ⟨hint_bool (decide_eq_false h1), trivial⟩ fun a w h => then_normal ?_
  refine at_test false h (by kernel_rfl) (fun hh=>nomatch hh) (fun hh=>?_)
  refine wp_exit (then_exit ?_)
  replace h:=at_out (σ':=⟨[(0,aF (.u8 5) x0),(2,.p (.c (.v (.pointer none)))),(3,aI (hsTo x0 i))],[]⟩) { ts:=[0,2,3],os:=[] } h (by kernel_rfl)
  replace h:=at_eq (σ':=⟨[(0,aF (.u8 5) x0),(2,.p (.c (.v (.pointer none)))),(3,aI (hsTo x0 (min (List.length x0) 4000)))],[]⟩) h (st_congr1 (fun (d0:Int)=>(⟨[(0,aF (.u8 5) x0),(2,.p (.c (.v (.pointer none)))),(3,aI d0)],[]⟩:St)) (show ((hsTo x0 i):Int)=(hsTo x0 (min (List.length x0) 4000)) from by first | with_reducible rfl | (rw [show i=(min (List.length x0) 4000) by omega]) | rfl))
  refine then_exit (in_hit (then_normal (wp_seq ?_)))
  refine at_regq [{},{},{},{ ids:=[1] }] { ts:=[2],os:=[1] } [] gamOK hT h (by kernel_rfl) trivial fun a w h=>then_normal (wp_ret ?_)
  exact at_returnN (B:=B_spec_l1New) (x:=(x0,())) ((x0,(0,(hsTo x0 (min (List.length x0) 4000))))) [] h (by kernel_rfl) trivial (show (x0,(0,(hsTo x0 (min (List.length x0) 4000))))=newC x0 from by rfl)

@[irreducible]
def byteC (x0:T112):T112×Int:=(if x0.2.1 < ((List.length x0.1:Nat):Int) then ((x0.1,(x0.2.1+1,(lcgF x0.2.2))),(and255 (and255 (xorF (lcgF x0.2.2))+x0.1.getD x0.2.1.toNat 0))) else ((x0.1,(x0.2.1,(lcgF x0.2.2))),(and255 (xorF (lcgF x0.2.2)))))
abbrev Q_spec_l1Byte:=(fun (x0:T112)=>0≤x0.2.1)
def B_spec_l1Byte:BS:={ t:=112,s:=s112,dom:=[],cod:=[(.int 3)],pre:=fun y x=>Q_spec_l1Byte y,upd:=fun y x=>(byteC y).1,g:=fun y x=>((byteC y).2,()) }
def S_spec_l1Byte:Sum:=bSum 93 B_spec_l1Byte
def S_spec_l1Byte_tab:List (Nat×Sum):=[]
theorem S_spec_l1Byte_ok:FnOK Tryz.prog 93 S_spec_l1Byte:=by
 refine at_enterB (B:=B_spec_l1Byte) 58 (fun v y x=>⟨[(0,aP 1 0)],[(1,oX 112 [.ro (.u8 5) y.1,cI y.2.1,cI y.2.2]),(2,oP 1 v)]⟩) Tryz.func93 rfl (by kernel_rfl) (fun v y x=>rfl) ?_
 rintro w0 Z0 b0 x0 ⟨u⟩ a w
 revert x0
 intro (x0:T112) hpre hlens0 hlens h
 replace h:At w0 Z0 [b0] 58 ⟨[(0,aP 1 0)],[(1,oX 112 [.ro (.u8 5) x0.1,cI x0.2.1,cI x0.2.2]),(2,oP 1 (Value.pointer (some ⟨b0,0,none⟩)))]⟩ a w:=h
 replace hpre:Q_spec_l1Byte x0:=hpre
 have hl1:List.length x0.1≤9223372036854775807:=hlens0.1.1
 have hu0:u8L x0.1:=hlens0.1.2
 have hT:TabOK Tryz.prog S_spec_l1Byte_tab:=.nil
 have hp:(0:Int)≤x0.2.1:=hpre
 refine wp_seq ?_
 refine at_regq [] { ts:=[0,2],os:=[1,2] } [] gamOK hT h (by kernel_rfl) trivial fun a w h=>then_normal (wp_seq ?_)
 refine at_regq [{},{},{},{},{},{},{ hint:=some (aI (lcgF x0.2.2)) }] { ts:=[0,2],os:=[1,2] } [(AV.p (.c (.v (.int .i64 (IntKind.i64.wrap ((IntKind.i64.wrap (x0.2.2*6364136223846793005))+1442695040888963407)))))=AV.p (.c (.v (.int .i64 ((lcgF x0.2.2))))))] gamOK hT h (by kernel_rfl) ⟨hint_int (by rfl),trivial⟩ fun a w h=>then_normal (wp_seq ?_)
 refine at_anyq [{},{},{},{},{},{},{},{},{},{},{ hint:=some (aI (xorF (lcgF x0.2.2))) },{ hint:=some (aI (and255 (xorF (lcgF x0.2.2)))) },{}] { ts:=[0,2,3],os:=[1,2] } [(0:Int)≤33,(0:Int)≤47,(AV.p (.c (.v (.int .i64 (IntKind.i64.wrap ((BitVec.ofInt (IntKind.i64).bits (Int.fdiv (lcgF x0.2.2) (2 ^ (min (33:Int).toNat (IntKind.i64).bits))) ^^^ BitVec.ofInt (IntKind.i64).bits (Int.fdiv (lcgF x0.2.2) (2 ^ (min (47:Int).toNat (IntKind.i64).bits)))).toNat:Int)))))=AV.p (.c (.v (.int .i64 ((xorF (lcgF x0.2.2))))))),(AV.p (.c (.v (.int .i64 (IntKind.i64.wrap ((BitVec.ofInt (IntKind.i64).bits (xorF (lcgF x0.2.2)) &&& BitVec.ofInt (IntKind.i64).bits 255).toNat:Int)))))=AV.p (.c (.v (.int .i64 ((and255 (xorF (lcgF x0.2.2))))))))] gamOK hT mixed h (by kernel_rfl) ⟨(by first | omega | (simp only [lsA];omega) | (simp<;>omega)),(by first | omega | (simp only [lsA];omega) | (simp<;>omega)),hint_int (by rfl),hint_int (by rfl),trivial⟩ fun a w h=>then_normal (wp_seq (wp_seq ?_))
 refine at_anyq [{},{},{},{},{},{},{},{},{},{}] { ts:=[0,2,3,34],os:=[1,2] } [] gamOK hT mixed h (by kernel_rfl) trivial fun a w h=>then_normal ?_
 refine at_test (decide (x0.2.1 < ((List.length x0.1:Nat):Int))) h (by kernel_rfl) (fun h1=>?_) (fun h1=>?_)
 ·replace h1 : x0.2.1 < ((List.length x0.1 : Nat) : Int) := of_decide_eq_true h1
  have hu1:=getD_u8 hu0 x0.2.1.toNat
  have ha1:=and255_bd (xorF (lcgF x0.2.2))
  refine wp_seq ?_
  refine at_anyq [{},{},{},{},{},{},{},{},{},{},{},{ hint:=some (aI (x0.1.getD ((x0.2.1).toNat) 0)) },{ nw:=true },{ hint:=some (aI (and255 (and255 (xorF (lcgF x0.2.2))+x0.1.getD x0.2.1.toNat 0))) },{}] { ts:=[0,2,3],os:=[1,2] } [(0:Int)≤x0.2.1∧x0.2.1 < ((List.length x0.1:Nat):Int),(AV.p (.c (.v (.int .i64 (IntKind.i64.wrap ((x0.1.getD ((x0.2.1).toNat) 0))))))=AV.p (.c (.v (.int .i64 ((x0.1.getD ((x0.2.1).toNat) 0)))))),I64 ((and255 (xorF (lcgF x0.2.2)))+(x0.1.getD ((x0.2.1).toNat) 0)),(AV.p (.c (.v (.int .i64 (IntKind.i64.wrap ((BitVec.ofInt (IntKind.i64).bits ((and255 (xorF (lcgF x0.2.2)))+(x0.1.getD ((x0.2.1).toNat) 0)) &&& BitVec.ofInt (IntKind.i64).bits 255).toNat:Int)))))=AV.p (.c (.v (.int .i64 ((and255 (and255 (xorF (lcgF x0.2.2))+x0.1.getD x0.2.1.toNat 0)))))))] gamOK hT mixed h (by kernel_rfl) ⟨(by refine ⟨?_,?_⟩<;>(first | omega | (simp only [lsA];omega) | (simp<;>omega))),hint_int (wrap_id ⟨by first | omega | (simp only [lsA];omega) | (simp<;>omega),by first | omega | (simp only [lsA];omega) | (simp<;>omega)⟩),⟨by first | omega | (simp only [lsA];omega) | (simp<;>omega),by first | omega | (simp only [lsA];omega) | (simp<;>omega)⟩,hint_int (by rfl),trivial⟩ fun a w h=>then_normal ?_
  refine at_regq [{},{},{},{},{},{ nw:=true }] { ts:=[2,3],os:=[1,2] } [I64 (x0.2.1+1)] gamOK hT h (by kernel_rfl) ⟨⟨by first | omega | (simp only [lsA];omega) | (simp<;>omega),by first | omega | (simp only [lsA];omega) | (simp<;>omega)⟩,trivial⟩ fun a w h=>then_normal (wp_seq ?_)
  refine at_regq [] { ts:=[2],os:=[1,2] } [] gamOK hT h (by kernel_rfl) trivial fun a w h=>then_normal (wp_ret ?_)
  have hr2:(((x0.1,(x0.2.1+1,(lcgF x0.2.2))),(and255 (and255 (xorF (lcgF x0.2.2))+x0.1.getD x0.2.1.toNat 0))):T112×Int)=byteC x0:=by (unfold byteC;rw [if_pos h1])
  exact at_returnB (B:=B_spec_l1Byte) (c0:=x0) (x:=(())) ((x0.1,(x0.2.1+1,(lcgF x0.2.2)))) ((and255 (and255 (xorF (lcgF x0.2.2))+x0.1.getD x0.2.1.toNat 0)),()) [(Value.pointer (some ⟨b0,0,none⟩))=(Value.pointer (some ⟨b0,0,none⟩))] h (by kernel_rfl) ⟨rfl,trivial⟩ (congrArg (a₁:=((x0.1,(x0.2.1+1,(lcgF x0.2.2))),(and255 (and255 (xorF (lcgF x0.2.2))+x0.1.getD x0.2.1.toNat 0)))) (a₂:=byteC x0) (fun (z:T112×Int)=>z.1) hr2) (congrArg (a₁:=((x0.1,(x0.2.1+1,(lcgF x0.2.2))),(and255 (and255 (xorF (lcgF x0.2.2))+x0.1.getD x0.2.1.toNat 0)))) (a₂:=byteC x0) (fun (z:T112×Int)=>(z.2,())) hr2)
 ·replace h1 : ¬ (x0.2.1 < ((List.length x0.1 : Nat) : Int)) := of_decide_eq_false h1
  refine wp_skip (then_normal (wp_seq ?_))
  refine at_regq [] { ts:=[2],os:=[1,2] } [] gamOK hT h (by kernel_rfl) trivial fun a w h=>then_normal (wp_ret ?_)
  have hr3:(((x0.1,(x0.2.1,(lcgF x0.2.2))),(and255 (xorF (lcgF x0.2.2)))):T112×Int)=byteC x0:=by (unfold byteC;rw [if_neg h1])
  exact at_returnB (B:=B_spec_l1Byte) (c0:=x0) (x:=(())) ((x0.1,(x0.2.1,(lcgF x0.2.2)))) ((and255 (xorF (lcgF x0.2.2))),()) [(Value.pointer (some ⟨b0,0,none⟩))=(Value.pointer (some ⟨b0,0,none⟩))] h (by kernel_rfl) ⟨rfl,trivial⟩ (congrArg (a₁:=((x0.1,(x0.2.1,(lcgF x0.2.2))),(and255 (xorF (lcgF x0.2.2))))) (a₂:=byteC x0) (fun (z:T112×Int)=>z.1) hr3) (congrArg (a₁:=((x0.1,(x0.2.1,(lcgF x0.2.2))),(and255 (xorF (lcgF x0.2.2))))) (a₂:=byteC x0) (fun (z:T112×Int)=>(z.2,())) hr3)
theorem byte_bd (x:T112):0≤(byteC x).2∧(byteC x).2≤255:=by
 unfold byteC;split<;>exact and255_bd _
theorem byte_ok {x:T112} (h:0≤x.2.1):0≤(byteC x).1.2.1:=by
 unfold byteC;split
 ·show (0:Int)≤x.2.1+1;omega
 ·exact h

@[irreducible]
def belowC (x0:T112) (x1:Int):T112×Int:=(if x1≤0 then (x0,0) else (if x1≤256 then ((byteC x0).1,(Int.tmod (byteC x0).2 x1)) else ((byteC (byteC (byteC x0).1).1).1,(Int.tmod ((((byteC x0).2*65536)+((byteC (byteC x0).1).2*256))+(byteC (byteC (byteC x0).1).1).2) x1))))
abbrev Q_spec_l1Below:=(fun (x0:T112) (x1:Int)=>0≤x0.2.1)
def B_spec_l1Below:BS:={ t:=112,s:=s112,dom:=[(.int 3)],cod:=[(.int 3)],pre:=fun y x=>Q_spec_l1Below y x.1,upd:=fun y x=>(belowC y x.1).1,g:=fun y x=>((belowC y x.1).2,()) }
def S_spec_l1Below:Sum:=bSum 54 B_spec_l1Below
def S_spec_l1Below_tab:List (Nat×Sum):=[(93,S_spec_l1Byte)]
theorem S_spec_l1Below_ok:FnOK Tryz.prog 54 S_spec_l1Below:=by
 refine at_enterB (B:=B_spec_l1Below) 31 (fun v y x=>⟨[(0,aP 1 0),(1,aI x.1)],[(1,oX 112 [.ro (.u8 5) y.1,cI y.2.1,cI y.2.2]),(2,oP 1 v)]⟩) Tryz.func54 rfl (by kernel_rfl) (fun v y x=>rfl) ?_
 rintro w0 Z0 b0 x0 ⟨x1,u⟩ a w
 revert x0 x1
 intro (x0:T112) (x1:Int) hpre hlens0 hlens h
 replace h:At w0 Z0 [b0] 31 ⟨[(0,aP 1 0),(1,aI x1)],[(1,oX 112 [.ro (.u8 5) x0.1,cI x0.2.1,cI x0.2.2]),(2,oP 1 (Value.pointer (some ⟨b0,0,none⟩)))]⟩ a w:=h
 replace hpre:Q_spec_l1Below x0 x1:=hpre
 have hl1:List.length x0.1≤9223372036854775807:=hlens0.1.1
 have hu0:u8L x0.1:=hlens0.1.2
 have hT:TabOK Tryz.prog S_spec_l1Below_tab:=(.cons S_spec_l1Byte_ok .nil)
 have hb1:=byte_ok hpre
 have hb2:=byte_ok hb1
 have hb3:=byte_ok hb2
 have hd1:=byte_bd x0
 have hd2:=byte_bd (byteC x0).1
 have hd3:=byte_bd (byteC (byteC x0).1).1
 refine wp_seq ?_
 refine at_regq [] { ts:=[0,1,4],os:=[1,2] } [] gamOK hT h (by kernel_rfl) trivial fun a w h=>then_normal (wp_seq (wp_seq ?_))
 refine at_regq [] { ts:=[0,1,4,9],os:=[1,2] } [] gamOK hT h (by kernel_rfl) trivial fun a w h=>then_normal ?_
 refine at_test (decide (x1≤0)) h (by kernel_rfl) (fun h1=>?_) (fun h1=>?_)
 ·replace h1 : x1 ≤ 0 := of_decide_eq_true h1
  refine wp_seq ?_
  refine at_regq [] { ts:=[0,1,4],os:=[1,2] } [] gamOK hT h (by kernel_rfl) trivial fun a w h=>then_normal (wp_ret (then_ret ?_))
  have hr2:((x0,0):T112×Int)=belowC x0 x1:=by (unfold belowC;rw [if_pos h1])
  exact at_returnB (B:=B_spec_l1Below) (c0:=x0) (x:=(x1,())) (x0) (0,()) [(Value.pointer (some ⟨b0,0,none⟩))=(Value.pointer (some ⟨b0,0,none⟩))] h (by kernel_rfl) ⟨rfl,trivial⟩ (congrArg (a₁:=(x0,0)) (a₂:=belowC x0 x1) (fun (z:T112×Int)=>z.1) hr2) (congrArg (a₁:=(x0,0)) (a₂:=belowC x0 x1) (fun (z:T112×Int)=>(z.2,())) hr2)
 ·replace h1 : ¬ (x1 ≤ 0) := of_decide_eq_false h1
  refine wp_skip (then_normal (wp_seq (wp_seq ?_)))
  refine at_regq [] { ts:=[0,1,4,11],os:=[1,2] } [] gamOK hT h (by kernel_rfl) trivial fun a w h=>then_normal ?_
  refine at_test (decide (x1≤256)) h (by kernel_rfl) (fun h3=>?_) (fun h3=>?_)
  ·replace h3 : x1 ≤ 256 := of_decide_eq_true h3
   refine wp_seq ?_
   refine at_regq [] { ts:=[0,1,4],os:=[1,2] } [B_spec_l1Byte.pre x0 (()),(x1:Int)≠0] gamOK hT h (by kernel_rfl) ⟨(by first | exact hpre | exact hb1 | exact hb2 | exact hb3),(by first | omega | (simp only [lsA];omega) | (simp<;>omega)),trivial⟩ fun a w h=>then_normal (wp_ret (then_ret ?_))
   have hr4:(((byteC x0).1,(Int.tmod (byteC x0).2 x1)):T112×Int)=belowC x0 x1:=by (unfold belowC;rw [if_neg h1,if_pos h3])
   exact at_returnB (B:=B_spec_l1Below) (c0:=x0) (x:=(x1,())) ((byteC x0).1) ((Int.tmod (byteC x0).2 x1),()) [(Value.pointer (some ⟨b0,0,none⟩))=(Value.pointer (some ⟨b0,0,none⟩))] h (by kernel_rfl) ⟨rfl,trivial⟩ (congrArg (a₁:=((byteC x0).1,(Int.tmod (byteC x0).2 x1))) (a₂:=belowC x0 x1) (fun (z:T112×Int)=>z.1) hr4) (congrArg (a₁:=((byteC x0).1,(Int.tmod (byteC x0).2 x1))) (a₂:=belowC x0 x1) (fun (z:T112×Int)=>(z.2,())) hr4)
  ·replace h3 : ¬ (x1 ≤ 256) := of_decide_eq_false h3
   refine wp_skip (then_normal (wp_seq ?_))
   refine at_regq [] { ts:=[0,1,4,5],os:=[1,2] } [B_spec_l1Byte.pre x0 (())] gamOK hT h (by kernel_rfl) ⟨(by first | exact hpre | exact hb1 | exact hb2 | exact hb3),trivial⟩ fun a w h=>then_normal (wp_seq ?_)
   refine at_regq [] { ts:=[0,1,4,5,6],os:=[1,2] } [B_spec_l1Byte.pre (byteC x0).1 (())] gamOK hT h (by kernel_rfl) ⟨(by first | exact hpre | exact hb1 | exact hb2 | exact hb3),trivial⟩ fun a w h=>then_normal (wp_seq ?_)
   refine at_regq [] { ts:=[1,4,5,6,7],os:=[1,2] } [B_spec_l1Byte.pre (byteC (byteC x0).1).1 (())] gamOK hT h (by kernel_rfl) ⟨(by first | exact hpre | exact hb1 | exact hb2 | exact hb3),trivial⟩ fun a w h=>then_normal (wp_seq ?_)
   refine at_regq [{},{ nw:=true },{},{ nw:=true },{ nw:=true },{},{ nw:=true }] { ts:=[4],os:=[1,2] } [I64 ((byteC x0).2*65536),I64 ((byteC (byteC x0).1).2*256),I64 (((byteC x0).2*65536)+((byteC (byteC x0).1).2*256)),I64 ((((byteC x0).2*65536)+((byteC (byteC x0).1).2*256))+(byteC (byteC (byteC x0).1).1).2),(x1:Int)≠0] gamOK hT h (by kernel_rfl) ⟨⟨by first | omega | (simp only [lsA];omega) | (simp<;>omega),by first | omega | (simp only [lsA];omega) | (simp<;>omega)⟩,⟨by first | omega | (simp only [lsA];omega) | (simp<;>omega),by first | omega | (simp only [lsA];omega) | (simp<;>omega)⟩,⟨by first | omega | (simp only [lsA];omega) | (simp<;>omega),by first | omega | (simp only [lsA];omega) | (simp<;>omega)⟩,⟨by first | omega | (simp only [lsA];omega) | (simp<;>omega),by first | omega | (simp only [lsA];omega) | (simp<;>omega)⟩,(by first | omega | (simp only [lsA];omega) | (simp<;>omega)),trivial⟩ fun a w h=>then_normal (wp_ret ?_)
   have hr5:(((byteC (byteC (byteC x0).1).1).1,(Int.tmod ((((byteC x0).2*65536)+((byteC (byteC x0).1).2*256))+(byteC (byteC (byteC x0).1).1).2) x1)):T112×Int)=belowC x0 x1:=by (unfold belowC;rw [if_neg h1,if_neg h3])
   exact at_returnB (B:=B_spec_l1Below) (c0:=x0) (x:=(x1,())) ((byteC (byteC (byteC x0).1).1).1) ((Int.tmod ((((byteC x0).2*65536)+((byteC (byteC x0).1).2*256))+(byteC (byteC (byteC x0).1).1).2) x1),()) [(Value.pointer (some ⟨b0,0,none⟩))=(Value.pointer (some ⟨b0,0,none⟩))] h (by kernel_rfl) ⟨rfl,trivial⟩ (congrArg (a₁:=((byteC (byteC (byteC x0).1).1).1,(Int.tmod ((((byteC x0).2*65536)+((byteC (byteC x0).1).2*256))+(byteC (byteC (byteC x0).1).1).2) x1))) (a₂:=belowC x0 x1) (fun (z:T112×Int)=>z.1) hr5) (congrArg (a₁:=((byteC (byteC (byteC x0).1).1).1,(Int.tmod ((((byteC x0).2*65536)+((byteC (byteC x0).1).2*256))+(byteC (byteC (byteC x0).1).1).2) x1))) (a₂:=belowC x0 x1) (fun (z:T112×Int)=>(z.2,())) hr5)
theorem below_ok {x:T112} {n:Int} (h:0≤x.2.1):0≤(belowC x n).1.2.1:=by
 unfold belowC
 split
 ·exact h
 ·split
  ·exact byte_ok h
  ·exact byte_ok (byte_ok (byte_ok h))
theorem below_bd (x:T112) {n:Int} (h:0 < n):0≤(belowC x n).2∧(belowC x n).2 < n:=by
 unfold belowC
 rw [if_neg (by omega)]
 have hd1:=byte_bd x;have hd2:=byte_bd (byteC x).1;have hd3:=byte_bd (byteC (byteC x).1).1
 split
 ·exact LA.tmod_lt hd1.1 h
 ·exact LA.tmod_lt (by first | omega | (dsimp only;omega)) h

def onceC (x0:T112) (x1:Int):T112×Bool:=((belowC x0 x1).1,decide ((belowC x0 x1).2=0))
abbrev Q_spec_l1Once:=(fun (x0:T112) (x1:Int)=>0≤x0.2.1)
def B_spec_l1Once:BS:={ t:=112,s:=s112,dom:=[(.int 3)],cod:=[(.bool 4)],pre:=fun y x=>Q_spec_l1Once y x.1,upd:=fun y x=>(onceC y x.1).1,g:=fun y x=>((onceC y x.1).2,()) }
def S_spec_l1Once:Sum:=bSum 46 B_spec_l1Once
def S_spec_l1Once_tab:List (Nat×Sum):=[(54,S_spec_l1Below)]
theorem S_spec_l1Once_ok:FnOK Tryz.prog 46 S_spec_l1Once:=by
 refine at_enterB (B:=B_spec_l1Once) 9 (fun v y x=>⟨[(0,aP 1 0),(1,aI x.1)],[(1,oX 112 [.ro (.u8 5) y.1,cI y.2.1,cI y.2.2]),(2,oP 1 v)]⟩) Tryz.func46 rfl (by kernel_rfl) (fun v y x=>rfl) ?_
 rintro w0 Z0 b0 x0 ⟨x1,u⟩ a w
 revert x0 x1
 intro (x0:T112) (x1:Int) hpre hlens0 hlens h
 replace h:At w0 Z0 [b0] 9 ⟨[(0,aP 1 0),(1,aI x1)],[(1,oX 112 [.ro (.u8 5) x0.1,cI x0.2.1,cI x0.2.2]),(2,oP 1 (Value.pointer (some ⟨b0,0,none⟩)))]⟩ a w:=h
 replace hpre:Q_spec_l1Once x0 x1:=hpre
 have hl1:List.length x0.1≤9223372036854775807:=hlens0.1.1
 have hu0:u8L x0.1:=hlens0.1.2
 have hT:TabOK Tryz.prog S_spec_l1Once_tab:=(.cons S_spec_l1Below_ok .nil)
 refine wp_seq ?_
 refine at_regq [] { ts:=[0,1,4],os:=[1,2] } [] gamOK hT h (by kernel_rfl) trivial fun a w h=>then_normal (wp_seq ?_)
 refine at_regq [] { ts:=[4],os:=[1,2] } [B_spec_l1Below.pre x0 (x1,())] gamOK hT h (by kernel_rfl) ⟨(by exact hpre),trivial⟩ fun a w h=>then_normal (wp_ret ?_)
 have hr1:(((belowC x0 x1).1,decide ((belowC x0 x1).2=0)):T112×Bool)=onceC x0 x1:=by rfl
 exact at_returnB (B:=B_spec_l1Once) (c0:=x0) (x:=(x1,())) ((belowC x0 x1).1) (decide ((belowC x0 x1).2=0),()) [(Value.pointer (some ⟨b0,0,none⟩))=(Value.pointer (some ⟨b0,0,none⟩))] h (by kernel_rfl) ⟨rfl,trivial⟩ (congrArg (a₁:=((belowC x0 x1).1,decide ((belowC x0 x1).2=0))) (a₂:=onceC x0 x1) (fun (z:T112×Bool)=>z.1) hr1) (congrArg (a₁:=((belowC x0 x1).1,decide ((belowC x0 x1).2=0))) (a₂:=onceC x0 x1) (fun (z:T112×Bool)=>(z.2,())) hr1)
theorem once_ok {x:T112} {n:Int} (h:0≤x.2.1):0≤(onceC x n).1.2.1:=below_ok h

def bigF (x0:(List Int)):Bool:=decide (((List.length x0:Nat):Int) > 1048576)
def S_laws_big:Sum:={ fid:=5,dom:=[s22],cod:=[(.bool 4)],dp:=true,fz:=false,pre:=fun x=>True,g:=fun x=>((bigF x.1),()) }
def S_laws_big_tab:List (Nat×Sum):=[]
theorem S_laws_big_ok:FnOK Tryz.prog 5 S_laws_big:=by
 refine at_enter 6 (fun x=>⟨[(0,aF (.u8 5) x.1)],[]⟩) Tryz.func5 rfl (by kernel_rfl) (fun x=>rfl) ?_
 rintro w0 Z0 ⟨x0,u⟩ a w
 revert x0
 intro (x0:(List Int)) hpre hlens h
 have hl1:List.length x0≤9223372036854775807:=hlens.1.1
 have hu0:u8L x0:=hlens.1.2
 have hT:TabOK Tryz.prog S_laws_big_tab:=.nil
 refine wp_seq ?_
 refine at_regq [] { ts:=[0,2],os:=[] } [] gamOK hT h (by kernel_rfl) trivial fun a w h=>then_normal (wp_seq ?_)
 refine at_regq [] { ts:=[2],os:=[] } [] gamOK hT h (by kernel_rfl) trivial fun a w h=>then_normal (wp_ret ?_)
 exact at_return (decide (((List.length x0:Nat):Int) > 1048576),()) [] h (by kernel_rfl) trivial (congrArg (fun z=>(z,())) (show (decide (((List.length x0:Nat):Int) > 1048576))=bigF x0 from by rfl))
theorem big_f {x:List Int} (h:bigF x=false):List.length x≤1048576:=by
 have:=of_decide_eq_false h;omega

def hasF (x0:(List Int)) (x1:Int):Bool:=(if (List.any x0 (fun e=>decide (e=x1)))=true then true else false)
def S_laws_contains:Sum:={ fid:=24,dom:=[s39,(.int 3)],cod:=[(.bool 4)],dp:=true,fz:=false,pre:=fun x=>True,g:=fun x=>((hasF x.1 x.2.1),()) }
def S_laws_contains_tab:List (Nat×Sum):=[]
theorem S_laws_contains_ok:FnOK Tryz.prog 24 S_laws_contains:=by
 refine at_enter 18 (fun x=>⟨[(0,aF (.int 3) x.1),(1,aI x.2.1)],[]⟩) Tryz.func24 rfl (by kernel_rfl) (fun x=>rfl) ?_
 rintro w0 Z0 ⟨x0,x1,u⟩ a w
 revert x0 x1
 intro (x0:(List Int)) (x1:Int) hpre hlens h
 have hl1:List.length x0≤9223372036854775807:=hlens.1.1
 have hT:TabOK Tryz.prog S_laws_contains_tab:=.nil
 refine wp_seq ?_
 refine at_regq [] { ts:=[0,1,4],os:=[] } [] gamOK hT h (by kernel_rfl) trivial fun a w h=>then_normal (wp_seq (wp_seq ?_))
 refine at_regq [] { ts:=[0,1,4,5],os:=[] } [] gamOK hT h (by kernel_rfl) trivial fun a w h=>then_normal (wp_block ?_)
 replace h:=at_out (σ':=⟨[(0,aF (.int 3) x0),(1,aI x1),(4,aB false),(5,aI 0)],[]⟩) { ts:=[0,1,4,5],os:=[] } h (by kernel_rfl)
 refine at_loop (fun i:Nat=>(⟨[(0,aF (.int 3) x0),(1,aI x1),(4,aB false),(5,aI ((i:Nat):Int))],[]⟩:St)) (fun i=>(i≤List.length x0∧noneTo (fun e=>decide (e=x1)) x0 0 i)) (fun i=>List.length x0 - i) (0) h (st_congr1 (fun (d0:Int)=>(⟨[(0,aF (.int 3) x0),(1,aI x1),(4,aB false),(5,aI d0)],[]⟩:St)) (show (0:Int)=(((0):Nat):Int) from by first | with_reducible rfl | (rfl) | rfl)) (by exact ⟨Nat.zero_le _,noneTo_zero⟩) ?_
 intro i a w hok0 h
 refine wp_seq (wp_seq ?_)
 refine at_regq [] { ts:=[0,1,4,5,9],os:=[] } [] gamOK hT h (by kernel_rfl) trivial fun a w h=>then_normal ?_
 refine at_test (decide (((i:Nat):Int) < ((List.length x0:Nat):Int))) h (by kernel_rfl) (fun h1=>?_) (fun h1=>?_)
 ·replace h1 : ((i : Nat) : Int) < ((List.length x0 : Nat) : Int) := of_decide_eq_true h1
  refine wp_skip (then_normal (wp_seq (wp_block (wp_seq ?_))))
  refine at_regq [] { ts:=[0,1,4,5,17],os:=[] } [(0:Int)≤((i:Nat):Int)∧((i:Nat):Int) < ((List.length x0:Nat):Int)] gamOK hT h (by kernel_rfl) ⟨(by refine ⟨?_,?_⟩<;>(first | omega | (simp only [lsA];omega) | (simp<;>omega))),trivial⟩ fun a w h=>then_normal ?_
  refine at_test (decide ((x0.getD i 0)=x1)) h (by kernel_rfl) (fun h2=>?_) (fun h2=>?_)
  ·replace h2 : (x0.getD i 0) = x1 := of_decide_eq_true h2
   refine wp_seq ?_
   refine at_regq [] { ts:=[0,1,4,5],os:=[] } [] gamOK hT h (by kernel_rfl) trivial fun a w h=>then_normal (wp_ret (in_ret (then_ret ?_)))
   have hs3:(!(List.any x0 (fun e=>decide (e=x1))))=false:=by exact notT' (any_at (z:=0) (i:=i) (by omega) (by exact decide_eq_true (by assumption)))
   replace hs3:(List.any x0 (fun e=>decide (e=x1)))=true:=notF hs3
   refine then_ret (in_ret (then_ret ?_))
   exact at_return (true,()) [] h (by kernel_rfl) trivial (congrArg (fun z=>(z,())) (show (true)=hasF x0 x1 from by first | rfl | (unfold hasF;rw [if_pos hs3])))
  ·replace h2 : ¬ ((x0.getD i 0) = x1) := of_decide_eq_false h2
   refine wp_skip (in_normal (then_normal ?_))
   refine at_regq [{},{ nw:=true }] { ts:=[0,1,4,5],os:=[] } [I64 (((i:Nat):Int)+1)] gamOK hT h (by kernel_rfl) ⟨⟨by first | omega | (simp only [lsA];omega) | (simp<;>omega),by first | omega | (simp only [lsA];omega) | (simp<;>omega)⟩,trivial⟩ fun a w h=>?_
   replace h:=at_out (σ':=⟨[(0,aF (.int 3) x0),(1,aI x1),(4,aB false),(5,aI (((i:Nat):Int)+1))],[]⟩) { ts:=[0,1,4,5],os:=[] } h (by kernel_rfl)
   exact ⟨i+1,at_eq h (st_congr1 (fun (d0:Int)=>(⟨[(0,aF (.int 3) x0),(1,aI x1),(4,aB false),(5,aI d0)],[]⟩:St)) (show (((i:Nat):Int)+1:Int)=(((i+1):Nat):Int) from by first | with_reducible rfl | (omega) | rfl)),(by exact ⟨by omega,noneTo_succ hok0.2 (by exact decide_eq_false (by assumption))⟩),(by omega)⟩
 ·replace h1 : ¬ (((i : Nat) : Int) < ((List.length x0 : Nat) : Int)) := of_decide_eq_false h1
  refine wp_exit (then_exit ?_)
  have hs4:(!(List.any x0 (fun e=>decide (e=x1))))=true:=by exact notF' (any_of (z:=0) (i:=i) (by omega) hok0.2)
  replace hs4:(List.any x0 (fun e=>decide (e=x1)))=false:=notT hs4
  refine then_exit (in_hit (then_normal (wp_seq ?_)))
  refine at_regq [] { ts:=[4],os:=[] } [] gamOK hT h (by kernel_rfl) trivial fun a w h=>then_normal (wp_ret ?_)
  exact at_return (false,()) [] h (by kernel_rfl) trivial (congrArg (fun z=>(z,())) (show (false)=hasF x0 x1 from by first | rfl | (unfold hasF;rw [if_neg (neT hs4)])))
theorem hasF_iff {l:List Int} {n:Int}:hasF l n=true↔n∈l:=by
 unfold hasF
 simp [List.any_eq_true]

def pickC (x0:T112) (x1:(List Int)):T112×Int:=((belowC x0 ((List.length x1:Nat):Int)).1,(x1.getD (((belowC x0 ((List.length x1:Nat):Int)).2).toNat) 0))
abbrev Q_spec_l1Int:=(fun (x0:T112) (x1:List Int)=>0≤x0.2.1∧(0 < List.length x1∧List.length x1≤1000))
def B_spec_l1Int:BS:={ t:=112,s:=s112,dom:=[s39],cod:=[(.int 3)],pre:=fun y x=>Q_spec_l1Int y x.1,upd:=fun y x=>(pickC y x.1).1,g:=fun y x=>((pickC y x.1).2,()) }
def S_spec_l1Int:Sum:=bSum 84 B_spec_l1Int
def S_spec_l1Int_tab:List (Nat×Sum):=[(54,S_spec_l1Below)]
theorem S_spec_l1Int_ok:FnOK Tryz.prog 84 S_spec_l1Int:=by
 refine at_enterB (B:=B_spec_l1Int) 12 (fun v y x=>⟨[(0,aP 1 0),(1,aF (.int 3) x.1)],[(1,oX 112 [.ro (.u8 5) y.1,cI y.2.1,cI y.2.2]),(2,oP 1 v)]⟩) Tryz.func84 rfl (by kernel_rfl) (fun v y x=>rfl) ?_
 rintro w0 Z0 b0 x0 ⟨x1,u⟩ a w
 revert x0 x1
 intro (x0:T112) (x1:(List Int)) hpre hlens0 hlens h
 replace h:At w0 Z0 [b0] 12 ⟨[(0,aP 1 0),(1,aF (.int 3) x1)],[(1,oX 112 [.ro (.u8 5) x0.1,cI x0.2.1,cI x0.2.2]),(2,oP 1 (Value.pointer (some ⟨b0,0,none⟩)))]⟩ a w:=h
 replace hpre:Q_spec_l1Int x0 x1:=hpre
 have hl1:List.length x0.1≤9223372036854775807:=hlens0.1.1
 have hu0:u8L x0.1:=hlens0.1.2
 have hl2:List.length x1≤9223372036854775807:=hlens.1.1
 have hT:TabOK Tryz.prog S_spec_l1Int_tab:=(.cons S_spec_l1Below_ok .nil)
 have hp1:=hpre.1
 have hp2:=hpre.2.1
 have hp3:=hpre.2.2
 have hb:=below_bd x0 (n:=((List.length x1:Nat):Int)) (by omega)
 refine wp_seq ?_
 refine at_regq [] { ts:=[0,1,4],os:=[1,2] } [] gamOK hT h (by kernel_rfl) trivial fun a w h=>then_normal (wp_seq ?_)
 refine at_regq [] { ts:=[4],os:=[1,2] } [B_spec_l1Below.pre x0 (((List.length x1:Nat):Int),()),(0:Int)≤(belowC x0 ((List.length x1:Nat):Int)).2∧(belowC x0 ((List.length x1:Nat):Int)).2 < ((List.length x1:Nat):Int)] gamOK hT h (by kernel_rfl) ⟨(by exact hpre.1),(by refine ⟨?_,?_⟩<;>(first | omega | (simp only [lsA];omega) | (simp<;>omega))),trivial⟩ fun a w h=>then_normal (wp_ret ?_)
 have hr1:(((belowC x0 ((List.length x1:Nat):Int)).1,(x1.getD (((belowC x0 ((List.length x1:Nat):Int)).2).toNat) 0)):T112×Int)=pickC x0 x1:=by rfl
 exact at_returnB (B:=B_spec_l1Int) (c0:=x0) (x:=(x1,())) ((belowC x0 ((List.length x1:Nat):Int)).1) ((x1.getD (((belowC x0 ((List.length x1:Nat):Int)).2).toNat) 0),()) [(Value.pointer (some ⟨b0,0,none⟩))=(Value.pointer (some ⟨b0,0,none⟩))] h (by kernel_rfl) ⟨rfl,trivial⟩ (congrArg (a₁:=((belowC x0 ((List.length x1:Nat):Int)).1,(x1.getD (((belowC x0 ((List.length x1:Nat):Int)).2).toNat) 0))) (a₂:=pickC x0 x1) (fun (z:T112×Int)=>z.1) hr1) (congrArg (a₁:=((belowC x0 ((List.length x1:Nat):Int)).1,(x1.getD (((belowC x0 ((List.length x1:Nat):Int)).2).toNat) 0))) (a₂:=pickC x0 x1) (fun (z:T112×Int)=>(z.2,())) hr1)
theorem pickC_ok {x:T112} {l:List Int} (h:0≤x.2.1):0≤(pickC x l).1.2.1:=below_ok h
theorem pickC_mem {x:T112} {l:List Int} (h:0 < List.length l):(pickC x l).2∈l:=by
 have hb:=below_bd x (n:=((List.length l:Nat):Int)) (by omega)
 exact getD_mem (by omega)

def elemC (x0:T112):T112×Int:=((belowC x0 1019).1,(belowC x0 1019).2)
abbrev Q_spec_l4Element:=(fun (x0:T112)=>0≤x0.2.1)
def B_spec_l4Element:BS:={ t:=112,s:=s112,dom:=[],cod:=[(.int 3)],pre:=fun y x=>Q_spec_l4Element y,upd:=fun y x=>(elemC y).1,g:=fun y x=>((elemC y).2,()) }
def S_spec_l4Element:Sum:=bSum 147 B_spec_l4Element
def S_spec_l4Element_tab:List (Nat×Sum):=[(54,S_spec_l1Below)]
theorem S_spec_l4Element_ok:FnOK Tryz.prog 147 S_spec_l4Element:=by
 refine at_enterB (B:=B_spec_l4Element) 5 (fun v y x=>⟨[(0,aP 1 0)],[(1,oX 112 [.ro (.u8 5) y.1,cI y.2.1,cI y.2.2]),(2,oP 1 v)]⟩) Tryz.func147 rfl (by kernel_rfl) (fun v y x=>rfl) ?_
 rintro w0 Z0 b0 x0 ⟨u⟩ a w
 revert x0
 intro (x0:T112) hpre hlens0 hlens h
 replace h:At w0 Z0 [b0] 5 ⟨[(0,aP 1 0)],[(1,oX 112 [.ro (.u8 5) x0.1,cI x0.2.1,cI x0.2.2]),(2,oP 1 (Value.pointer (some ⟨b0,0,none⟩)))]⟩ a w:=h
 replace hpre:Q_spec_l4Element x0:=hpre
 have hl1:List.length x0.1≤9223372036854775807:=hlens0.1.1
 have hu0:u8L x0.1:=hlens0.1.2
 have hT:TabOK Tryz.prog S_spec_l4Element_tab:=(.cons S_spec_l1Below_ok .nil)
 refine wp_seq ?_
 refine at_regq [] { ts:=[0,2],os:=[1,2] } [] gamOK hT h (by kernel_rfl) trivial fun a w h=>then_normal (wp_seq ?_)
 refine at_regq [] { ts:=[2],os:=[1,2] } [B_spec_l1Below.pre x0 (1019,())] gamOK hT h (by kernel_rfl) ⟨(by exact hpre),trivial⟩ fun a w h=>then_normal (wp_ret ?_)
 have hr1:(((belowC x0 1019).1,(belowC x0 1019).2):T112×Int)=elemC x0:=by rfl
 exact at_returnB (B:=B_spec_l4Element) (c0:=x0) (x:=(())) ((belowC x0 1019).1) ((belowC x0 1019).2,()) [(Value.pointer (some ⟨b0,0,none⟩))=(Value.pointer (some ⟨b0,0,none⟩))] h (by kernel_rfl) ⟨rfl,trivial⟩ (congrArg (a₁:=((belowC x0 1019).1,(belowC x0 1019).2)) (a₂:=elemC x0) (fun (z:T112×Int)=>z.1) hr1) (congrArg (a₁:=((belowC x0 1019).1,(belowC x0 1019).2)) (a₂:=elemC x0) (fun (z:T112×Int)=>(z.2,())) hr1)
theorem elem_ok {x:T112} (h:0≤x.2.1):0≤(elemC x).1.2.1:=below_ok h
theorem elem_bd (x:T112):LA.El (elemC x).2:=by have:=below_bd x (n:=1019) (by decide);show 0≤_∧_≤1018;unfold elemC;dsimp only;omega
def vecS (q:T112×List Int):T112×List Int:=if (onceC q.1 3).2=true then ((onceC q.1 3).1,q.2++[0]) else ((elemC (onceC q.1 3).1).1,q.2++[(elemC (onceC q.1 3).1).2])
def vecIt (x:T112):Nat→T112×List Int
 | 0=>(x,[])
 | i+1=>vecS (vecIt x i)
theorem vecIt_y {x:T112} {i:Nat} (h:(onceC (vecIt x i).1 3).2=true):vecIt x (i+1)=((onceC (vecIt x i).1 3).1,(vecIt x i).2++[0]):=if_pos h
theorem vecIt_n {x:T112} {i:Nat} (h:(onceC (vecIt x i).1 3).2=false):vecIt x (i+1)=((elemC (onceC (vecIt x i).1 3).1).1,(vecIt x i).2++[(elemC (onceC (vecIt x i).1 3).1).2]):=if_neg (by rw [h];decide)
theorem vecIt_inv {x:T112} (hx:0≤x.2.1):∀ i,0≤(vecIt x i).1.2.1∧(vecIt x i).2.length=i∧∀ e∈(vecIt x i).2,LA.El e
 | 0=>⟨hx,rfl,fun e he=>by cases he⟩
 | i + 1 => by
  obtain ⟨h1,h2,h3⟩:=vecIt_inv hx i
  have e:vecIt x (i+1)=vecS (vecIt x i):=rfl
  have hb:=elem_bd (onceC (vecIt x i).1 3).1
  rw [e];unfold vecS
  split
  ·refine ⟨once_ok h1, by simp [h2], fun y hy => ?_⟩
   rcases List.mem_append.1 hy with hy | hy
   ·exact h3 y hy
   ·have : y = 0 := by simpa using hy
    rw [this];unfold LA.El;omega
  ·refine ⟨elem_ok (once_ok h1), by simp [h2], fun y hy => ?_⟩
   rcases List.mem_append.1 hy with hy | hy
   ·exact h3 y hy
   ·have : y = (elemC (onceC (vecIt x i).1 3).1).2 := by simpa using hy
    rw [this];exact hb

@[irreducible]
def grpE (x0:T112):T112×Int:=(if (onceC x0 5).2=true then ((pickC (onceC x0 5).1 ([(-1),0,1,2,2038,2039])).1,(pickC (onceC x0 5).1 ([(-1),0,1,2,2038,2039])).2) else ((elemC (onceC x0 5).1).1,(powD 4 (elemC (onceC x0 5).1).2 2039)))
abbrev Q_spec_l4Group:=(fun (x0:T112)=>0≤x0.2.1)
def B_spec_l4Group:BS:={ t:=112,s:=s112,dom:=[],cod:=[(.int 3)],pre:=fun y x=>Q_spec_l4Group y,upd:=fun y x=>(grpE y).1,g:=fun y x=>((grpE y).2,()) }
def S_spec_l4Group:Sum:=bSum 123 B_spec_l4Group
def S_spec_l4Group_tab:List (Nat×Sum):=[(46,S_spec_l1Once),(84,S_spec_l1Int),(147,S_spec_l4Element),(157,S_spec_l4Pow)]
theorem S_spec_l4Group_ok:FnOK Tryz.prog 123 S_spec_l4Group:=by
 refine at_enterB (B:=B_spec_l4Group) 11 (fun v y x=>⟨[(0,aP 1 0)],[(1,oX 112 [.ro (.u8 5) y.1,cI y.2.1,cI y.2.2]),(2,oP 1 v)]⟩) Tryz.func123 rfl (by kernel_rfl) (fun v y x=>rfl) ?_
 rintro w0 Z0 b0 x0 ⟨u⟩ a w
 revert x0
 intro (x0:T112) hpre hlens0 hlens h
 replace h:At w0 Z0 [b0] 11 ⟨[(0,aP 1 0)],[(1,oX 112 [.ro (.u8 5) x0.1,cI x0.2.1,cI x0.2.2]),(2,oP 1 (Value.pointer (some ⟨b0,0,none⟩)))]⟩ a w:=h
 replace hpre:Q_spec_l4Group x0:=hpre
 have hl1:List.length x0.1≤9223372036854775807:=hlens0.1.1
 have hu0:u8L x0.1:=hlens0.1.2
 have hT:TabOK Tryz.prog S_spec_l4Group_tab:=(.cons S_spec_l1Once_ok (.cons S_spec_l1Int_ok (.cons S_spec_l4Element_ok (.cons S_spec_l4Pow_ok .nil))))
 have heb:=elem_bd (onceC x0 5).1
 have he1:=heb.1
 have he2:=heb.2
 refine wp_seq ?_
 refine at_regq [] { ts:=[0,2],os:=[1,2] } [] gamOK hT h (by kernel_rfl) trivial fun a w h=>then_normal (wp_seq (wp_seq ?_))
 refine at_regq [] { ts:=[0,2,4],os:=[1,2] } [B_spec_l1Once.pre x0 (5,())] gamOK hT h (by kernel_rfl) ⟨(by exact hpre),trivial⟩ fun a w h=>then_normal ?_
 refine at_test ((onceC x0 5).2) h (by kernel_rfl) (fun h1=>?_) (fun h1=>?_)
 ·refine wp_seq ?_
  refine at_regq [{},{ ids:=[3],frz:=true }] { ts:=[0,2],os:=[1,2] } [B_spec_l1Int.pre (onceC x0 5).1 ([(-1),0,1,2,2038,2039],())] gamOK hT h (by kernel_rfl) ⟨(by exact ⟨(once_ok hpre),by simp,by simp⟩),trivial⟩ fun a w h=>then_normal (wp_ret (then_ret ?_))
  have hr2:(((pickC (onceC x0 5).1 ([(-1),0,1,2,2038,2039])).1,(pickC (onceC x0 5).1 ([(-1),0,1,2,2038,2039])).2):T112×Int)=grpE x0:=by (unfold grpE;rw [if_pos h1])
  exact at_returnB (B:=B_spec_l4Group) (c0:=x0) (x:=(())) ((pickC (onceC x0 5).1 ([(-1),0,1,2,2038,2039])).1) ((pickC (onceC x0 5).1 ([(-1),0,1,2,2038,2039])).2,()) [(Value.pointer (some ⟨b0,0,none⟩))=(Value.pointer (some ⟨b0,0,none⟩))] h (by kernel_rfl) ⟨rfl,trivial⟩ (congrArg (a₁:=((pickC (onceC x0 5).1 ([(-1),0,1,2,2038,2039])).1,(pickC (onceC x0 5).1 ([(-1),0,1,2,2038,2039])).2)) (a₂:=grpE x0) (fun (z:T112×Int)=>z.1) hr2) (congrArg (a₁:=((pickC (onceC x0 5).1 ([(-1),0,1,2,2038,2039])).1,(pickC (onceC x0 5).1 ([(-1),0,1,2,2038,2039])).2)) (a₂:=grpE x0) (fun (z:T112×Int)=>(z.2,())) hr2)
 ·refine wp_skip (then_normal (wp_seq ?_))
  refine at_regq [] { ts:=[2],os:=[1,2] } [B_spec_l4Element.pre (onceC x0 5).1 (()),powP 4 (elemC (onceC x0 5).1).2 2039] gamOK hT h (by kernel_rfl) ⟨(by exact (once_ok hpre)),(by (show _∧_;refine ⟨⟨?_,?_⟩,⟨?_,?_⟩,?_,?_⟩<;>omega)),trivial⟩ fun a w h=>then_normal (wp_ret ?_)
  have hr3:(((elemC (onceC x0 5).1).1,(powD 4 (elemC (onceC x0 5).1).2 2039)):T112×Int)=grpE x0:=by (unfold grpE;rw [if_neg (neT h1)])
  exact at_returnB (B:=B_spec_l4Group) (c0:=x0) (x:=(())) ((elemC (onceC x0 5).1).1) ((powD 4 (elemC (onceC x0 5).1).2 2039),()) [(Value.pointer (some ⟨b0,0,none⟩))=(Value.pointer (some ⟨b0,0,none⟩))] h (by kernel_rfl) ⟨rfl,trivial⟩ (congrArg (a₁:=((elemC (onceC x0 5).1).1,(powD 4 (elemC (onceC x0 5).1).2 2039))) (a₂:=grpE x0) (fun (z:T112×Int)=>z.1) hr3) (congrArg (a₁:=((elemC (onceC x0 5).1).1,(powD 4 (elemC (onceC x0 5).1).2 2039))) (a₂:=grpE x0) (fun (z:T112×Int)=>(z.2,())) hr3)
theorem grpE_ok {x:T112} (h:0≤x.2.1):0≤(grpE x).1.2.1:=by
 unfold grpE;split
 ·exact pickC_ok (once_ok h)
 ·exact elem_ok (once_ok h)

def vecD (x0:T112) (x1:Int):T112×(List Int):=((vecIt x0 x1.toNat).1,(vecIt x0 x1.toNat).2)
abbrev Q_spec_l5Vector:=(fun (x0:T112) (x1:Int)=>0≤x0.2.1∧x1≤1000)
def B_spec_l5Vector:BS:={ t:=112,s:=s112,dom:=[(.int 3)],cod:=[s39],pre:=fun y x=>Q_spec_l5Vector y x.1,upd:=fun y x=>(vecD y x.1).1,g:=fun y x=>((vecD y x.1).2,()) }
def S_spec_l5Vector:Sum:=bSum 104 B_spec_l5Vector
def S_spec_l5Vector_tab:List (Nat×Sum):=[(46,S_spec_l1Once),(147,S_spec_l4Element)]
theorem S_spec_l5Vector_ok:FnOK Tryz.prog 104 S_spec_l5Vector:=by
 refine at_enterB (B:=B_spec_l5Vector) 24 (fun v y x=>⟨[(0,aP 1 0),(1,aI x.1)],[(1,oX 112 [.ro (.u8 5) y.1,cI y.2.1,cI y.2.2]),(2,oP 1 v)]⟩) Tryz.func104 rfl (by kernel_rfl) (fun v y x=>rfl) ?_
 rintro w0 Z0 b0 x0 ⟨x1,u⟩ a w
 revert x0 x1
 intro (x0:T112) (x1:Int) hpre hlens0 hlens h
 replace h:At w0 Z0 [b0] 24 ⟨[(0,aP 1 0),(1,aI x1)],[(1,oX 112 [.ro (.u8 5) x0.1,cI x0.2.1,cI x0.2.2]),(2,oP 1 (Value.pointer (some ⟨b0,0,none⟩)))]⟩ a w:=h
 replace hpre:Q_spec_l5Vector x0 x1:=hpre
 have hl1:List.length x0.1≤9223372036854775807:=hlens0.1.1
 have hu0:u8L x0.1:=hlens0.1.2
 have hT:TabOK Tryz.prog S_spec_l5Vector_tab:=(.cons S_spec_l1Once_ok (.cons S_spec_l4Element_ok .nil))
 have hp2:=hpre.2
 refine wp_seq ?_
 refine at_regq [] { ts:=[0,1,4],os:=[1,2] } [] gamOK hT h (by kernel_rfl) trivial fun a w h=>then_normal (wp_seq ?_)
 refine at_regq [{ ids:=[3] }] { ts:=[0,1,4,5],os:=[1,2,3] } [] gamOK hT h (by kernel_rfl) trivial fun a w h=>then_normal (wp_seq (wp_seq ?_))
 refine at_regq [] { ts:=[0,1,4,5,6],os:=[1,2,3] } [] gamOK hT h (by kernel_rfl) trivial fun a w h=>then_normal (wp_block ?_)
 replace h:=at_out (σ':=⟨[(0,aP 1 0),(1,aI x1),(4,.p (.c (cN))),(5,aS 3),(6,aI 0)],[(1,oX 112 [.ro (.u8 5) x0.1,cI x0.2.1,cI x0.2.2]),(2,oP 1 (Value.pointer (some ⟨b0,0,none⟩))),(3,oR (.int 3) ([]:List Int))]⟩) { ts:=[0,1,4,5,6],os:=[1,2,3] } h (by kernel_rfl)
 refine at_loop (fun i:Nat=>(⟨[(0,aP 1 0),(1,aI x1),(4,.p (.c (cN))),(5,aS 3),(6,aI ((i:Nat):Int))],[(1,oX 112 [.ro (.u8 5) (vecIt x0 i).1.1,cI (vecIt x0 i).1.2.1,cI (vecIt x0 i).1.2.2]),(2,oP 1 (Value.pointer (some ⟨b0,0,none⟩))),(3,oR (.int 3) (vecIt x0 i).2)]⟩:St)) (fun i=>i≤x1.toNat) (fun i=>x1.toNat - i) (0) h (st_congr5 (fun (d0:List Int) (d1:Int) (d2:Int) (d3:List Int) (d4:Int)=>(⟨[(0,aP 1 0),(1,aI x1),(4,.p (.c (cN))),(5,aS 3),(6,aI d4)],[(1,oX 112 [.ro (.u8 5) d0,cI d1,cI d2]),(2,oP 1 (Value.pointer (some ⟨b0,0,none⟩))),(3,oR (.int 3) d3)]⟩:St)) (show (x0.1:List Int)=(vecIt x0 (0)).1.1 from by first | with_reducible rfl | (rfl) | rfl) (show (x0.2.1:Int)=(vecIt x0 (0)).1.2.1 from by first | with_reducible rfl | (rfl) | rfl) (show (x0.2.2:Int)=(vecIt x0 (0)).1.2.2 from by first | with_reducible rfl | (rfl) | rfl) (show (([]:List Int):List Int)=(vecIt x0 (0)).2 from by first | with_reducible rfl | (rfl) | rfl) (show (0:Int)=(((0):Nat):Int) from by first | with_reducible rfl | (rfl) | rfl)) (by omega) ?_
 intro i a w hok0 h
 have hvi:=vecIt_inv hpre.1 i
 have hvl:=hvi.2.1
 refine wp_seq (wp_seq ?_)
 refine at_regq [] { ts:=[0,1,4,5,6,10],os:=[1,2,3] } [] gamOK hT h (by kernel_rfl) trivial fun a w h=>then_normal ?_
 refine at_test (decide (((i:Nat):Int) < x1)) h (by kernel_rfl) (fun h1=>?_) (fun h1=>?_)
 ·replace h1 : ((i : Nat) : Int) < x1 := of_decide_eq_true h1
  refine wp_skip (then_normal (wp_seq (wp_block (wp_seq ?_))))
  refine at_regq [] { ts:=[0,1,4,5,6,14],os:=[1,2,3] } [B_spec_l1Once.pre (vecIt x0 i).1 (3,())] gamOK hT h (by kernel_rfl) ⟨(by exact hvi.1),trivial⟩ fun a w h=>then_normal ?_
  refine at_test ((onceC (vecIt x0 i).1 3).2) h (by kernel_rfl) (fun h2=>?_) (fun h2=>?_)
  ·refine at_regq [{}, { ids := [4] }, { ids := [5] }] { ts := [0, 1, 4, 5, 6], os := [1, 2, 5] } [(List.length (vecIt x0 i).2 + List.length ([0])) * 8 ≤ 140737488355328] gamOK hT h (by kernel_rfl) ⟨(by first | omega | (simp only [lsA]; omega) | (simp <;> omega)), trivial⟩ fun a w h => in_normal (then_normal ?_)
   refine at_regq [{},{ nw:=true }] { ts:=[0,1,4,5,6],os:=[1,2,5] } [I64 (((i:Nat):Int)+1)] gamOK hT h (by kernel_rfl) ⟨⟨by first | omega | (simp only [lsA];omega) | (simp<;>omega),by first | omega | (simp only [lsA];omega) | (simp<;>omega)⟩,trivial⟩ fun a w h=>?_
   replace h:=at_out (σ':=⟨[(0,aP 1 0),(1,aI x1),(4,.p (.c (cN))),(5,aS 3),(6,aI (((i:Nat):Int)+1))],[(1,oX 112 [.ro (.u8 5) (onceC (vecIt x0 i).1 3).1.1,cI (onceC (vecIt x0 i).1 3).1.2.1,cI (onceC (vecIt x0 i).1 3).1.2.2]),(2,oP 1 (Value.pointer (some ⟨b0,0,none⟩))),(3,oR (.int 3) ((vecIt x0 i).2++([0])))]⟩) { ts:=[0,1,4,5,6],os:=[1,2,5],rn:=[(5,3)] } h (by kernel_rfl)
   exact ⟨i+1,at_eq h (st_congr5 (fun (d0:List Int) (d1:Int) (d2:Int) (d3:List Int) (d4:Int)=>(⟨[(0,aP 1 0),(1,aI x1),(4,.p (.c (cN))),(5,aS 3),(6,aI d4)],[(1,oX 112 [.ro (.u8 5) d0,cI d1,cI d2]),(2,oP 1 (Value.pointer (some ⟨b0,0,none⟩))),(3,oR (.int 3) d3)]⟩:St)) (show ((onceC (vecIt x0 i).1 3).1.1:List Int)=(vecIt x0 (i+1)).1.1 from by first | with_reducible rfl | (first | (rw [vecIt_y (x:=x0) (i:=i) (by assumption)];done) | (rw [vecIt_n (x:=x0) (i:=i) (by assumption)];done)) | rfl) (show ((onceC (vecIt x0 i).1 3).1.2.1:Int)=(vecIt x0 (i+1)).1.2.1 from by first | with_reducible rfl | (first | (rw [vecIt_y (x:=x0) (i:=i) (by assumption)];done) | (rw [vecIt_n (x:=x0) (i:=i) (by assumption)];done)) | rfl) (show ((onceC (vecIt x0 i).1 3).1.2.2:Int)=(vecIt x0 (i+1)).1.2.2 from by first | with_reducible rfl | (first | (rw [vecIt_y (x:=x0) (i:=i) (by assumption)];done) | (rw [vecIt_n (x:=x0) (i:=i) (by assumption)];done)) | rfl) (show (((vecIt x0 i).2++([0])):List Int)=(vecIt x0 (i+1)).2 from by first | with_reducible rfl | (first | (rw [vecIt_y (x:=x0) (i:=i) (by assumption)];done) | (rw [vecIt_n (x:=x0) (i:=i) (by assumption)];done)) | rfl) (show (((i:Nat):Int)+1:Int)=(((i+1):Nat):Int) from by first | with_reducible rfl | (omega) | rfl)),(by omega),(by omega)⟩
  ·refine at_regq [{}, {}, {}, { ids := [6] }, { ids := [7] }] { ts := [0, 1, 4, 5, 6], os := [1, 2, 7] } [B_spec_l4Element.pre (onceC (vecIt x0 i).1 3).1 (()), (List.length (vecIt x0 i).2 + List.length ([(elemC (onceC (vecIt x0 i).1 3).1).2])) * 8 ≤ 140737488355328] gamOK hT h (by kernel_rfl) ⟨(by exact (once_ok hvi.1)), (by first | omega | (simp only [lsA]; omega) | (simp <;> omega)), trivial⟩ fun a w h => in_normal (then_normal ?_)
   refine at_regq [{},{ nw:=true }] { ts:=[0,1,4,5,6],os:=[1,2,7] } [I64 (((i:Nat):Int)+1)] gamOK hT h (by kernel_rfl) ⟨⟨by first | omega | (simp only [lsA];omega) | (simp<;>omega),by first | omega | (simp only [lsA];omega) | (simp<;>omega)⟩,trivial⟩ fun a w h=>?_
   replace h:=at_out (σ':=⟨[(0,aP 1 0),(1,aI x1),(4,.p (.c (cN))),(5,aS 3),(6,aI (((i:Nat):Int)+1))],[(1,oX 112 [.ro (.u8 5) (elemC (onceC (vecIt x0 i).1 3).1).1.1,cI (elemC (onceC (vecIt x0 i).1 3).1).1.2.1,cI (elemC (onceC (vecIt x0 i).1 3).1).1.2.2]),(2,oP 1 (Value.pointer (some ⟨b0,0,none⟩))),(3,oR (.int 3) ((vecIt x0 i).2++([(elemC (onceC (vecIt x0 i).1 3).1).2])))]⟩) { ts:=[0,1,4,5,6],os:=[1,2,7],rn:=[(7,3)] } h (by kernel_rfl)
   exact ⟨i+1,at_eq h (st_congr5 (fun (d0:List Int) (d1:Int) (d2:Int) (d3:List Int) (d4:Int)=>(⟨[(0,aP 1 0),(1,aI x1),(4,.p (.c (cN))),(5,aS 3),(6,aI d4)],[(1,oX 112 [.ro (.u8 5) d0,cI d1,cI d2]),(2,oP 1 (Value.pointer (some ⟨b0,0,none⟩))),(3,oR (.int 3) d3)]⟩:St)) (show ((elemC (onceC (vecIt x0 i).1 3).1).1.1:List Int)=(vecIt x0 (i+1)).1.1 from by first | with_reducible rfl | (first | (rw [vecIt_y (x:=x0) (i:=i) (by assumption)];done) | (rw [vecIt_n (x:=x0) (i:=i) (by assumption)];done)) | rfl) (show ((elemC (onceC (vecIt x0 i).1 3).1).1.2.1:Int)=(vecIt x0 (i+1)).1.2.1 from by first | with_reducible rfl | (first | (rw [vecIt_y (x:=x0) (i:=i) (by assumption)];done) | (rw [vecIt_n (x:=x0) (i:=i) (by assumption)];done)) | rfl) (show ((elemC (onceC (vecIt x0 i).1 3).1).1.2.2:Int)=(vecIt x0 (i+1)).1.2.2 from by first | with_reducible rfl | (first | (rw [vecIt_y (x:=x0) (i:=i) (by assumption)];done) | (rw [vecIt_n (x:=x0) (i:=i) (by assumption)];done)) | rfl) (show (((vecIt x0 i).2++([(elemC (onceC (vecIt x0 i).1 3).1).2])):List Int)=(vecIt x0 (i+1)).2 from by first | with_reducible rfl | (first | (rw [vecIt_y (x:=x0) (i:=i) (by assumption)];done) | (rw [vecIt_n (x:=x0) (i:=i) (by assumption)];done)) | rfl) (show (((i:Nat):Int)+1:Int)=(((i+1):Nat):Int) from by first | with_reducible rfl | (omega) | rfl)),(by omega),(by omega)⟩
 ·replace h1 : ¬ (((i : Nat) : Int) < x1) := of_decide_eq_false h1
  refine wp_exit (then_exit ?_)
  replace h:=at_out (σ':=⟨[(4,.p (.c (cN))),(5,aS 3)],[(1,oX 112 [.ro (.u8 5) (vecIt x0 i).1.1,cI (vecIt x0 i).1.2.1,cI (vecIt x0 i).1.2.2]),(2,oP 1 (Value.pointer (some ⟨b0,0,none⟩))),(3,oR (.int 3) (vecIt x0 i).2)]⟩) { ts:=[4,5],os:=[1,2,3] } h (by kernel_rfl)
  replace h:=at_eq (σ':=⟨[(4,.p (.c (cN))),(5,aS 3)],[(1,oX 112 [.ro (.u8 5) (vecIt x0 x1.toNat).1.1,cI (vecIt x0 x1.toNat).1.2.1,cI (vecIt x0 x1.toNat).1.2.2]),(2,oP 1 (Value.pointer (some ⟨b0,0,none⟩))),(3,oR (.int 3) (vecIt x0 x1.toNat).2)]⟩) h (st_congr4 (fun (d0:List Int) (d1:Int) (d2:Int) (d3:List Int)=>(⟨[(4,.p (.c (cN))),(5,aS 3)],[(1,oX 112 [.ro (.u8 5) d0,cI d1,cI d2]),(2,oP 1 (Value.pointer (some ⟨b0,0,none⟩))),(3,oR (.int 3) d3)]⟩:St)) (show ((vecIt x0 i).1.1:List Int)=(vecIt x0 x1.toNat).1.1 from by first | with_reducible rfl | (rw [show x1.toNat=i by omega]) | rfl) (show ((vecIt x0 i).1.2.1:Int)=(vecIt x0 x1.toNat).1.2.1 from by first | with_reducible rfl | (rw [show x1.toNat=i by omega]) | rfl) (show ((vecIt x0 i).1.2.2:Int)=(vecIt x0 x1.toNat).1.2.2 from by first | with_reducible rfl | (rw [show x1.toNat=i by omega]) | rfl) (show ((vecIt x0 i).2:List Int)=(vecIt x0 x1.toNat).2 from by first | with_reducible rfl | (rw [show x1.toNat=i by omega]) | rfl))
  refine then_exit (in_hit (then_normal (wp_seq ?_)))
  refine at_regq [] { ts:=[4],os:=[1,2,3] } [] gamOK hT h (by kernel_rfl) trivial fun a w h=>then_normal (wp_ret ?_)
  have hr3:(((vecIt x0 x1.toNat).1,(vecIt x0 x1.toNat).2):T112×(List Int))=vecD x0 x1:=by rfl
  exact at_returnB (B:=B_spec_l5Vector) (c0:=x0) (x:=(x1,())) ((vecIt x0 x1.toNat).1) ((vecIt x0 x1.toNat).2,()) [(Value.pointer (some ⟨b0,0,none⟩))=(Value.pointer (some ⟨b0,0,none⟩))] h (by kernel_rfl) ⟨rfl,trivial⟩ (congrArg (a₁:=((vecIt x0 x1.toNat).1,(vecIt x0 x1.toNat).2)) (a₂:=vecD x0 x1) (fun (z:T112×(List Int))=>z.1) hr3) (congrArg (a₁:=((vecIt x0 x1.toNat).1,(vecIt x0 x1.toNat).2)) (a₂:=vecD x0 x1) (fun (z:T112×(List Int))=>(z.2,())) hr3)
theorem vecD_ok {x:T112} {n:Int} (h:0≤x.2.1):0≤(vecD x n).1.2.1∧LA.VokB n.toNat (vecD x n).2:=⟨(vecIt_inv h _).1,(vecIt_inv h _).2.1,(vecIt_inv h _).2.2⟩

@[irreducible]
def anyV (x0:T112) (x1:Int):T112×(List Int):=(if (belowC (vecD x0 x1).1 10).2=0 then ((pickC (belowC (vecD x0 x1).1 10).1 ([(-1),0,1019])).1,((vecD x0 x1).2++([(pickC (belowC (vecD x0 x1).1 10).1 ([(-1),0,1019])).2]))) else (if (belowC (vecD x0 x1).1 10).2=1 then ((belowC (belowC (vecD x0 x1).1 10).1 2).1,(List.replicate ((40+(belowC (belowC (vecD x0 x1).1 10).1 2).2).toNat) (0:Int))) else ((belowC (vecD x0 x1).1 10).1,(vecD x0 x1).2)))
abbrev Q_spec_l5Any:=(fun (x0:T112) (x1:Int)=>0≤x0.2.1∧x1≤1000)
def B_spec_l5Any:BS:={ t:=112,s:=s112,dom:=[(.int 3)],cod:=[s39],pre:=fun y x=>Q_spec_l5Any y x.1,upd:=fun y x=>(anyV y x.1).1,g:=fun y x=>((anyV y x.1).2,()) }
def S_spec_l5Any:Sum:=bSum 158 B_spec_l5Any
def S_spec_l5Any_tab:List (Nat×Sum):=[(104,S_spec_l5Vector),(54,S_spec_l1Below),(84,S_spec_l1Int)]
theorem S_spec_l5Any_ok:FnOK Tryz.prog 158 S_spec_l5Any:=by
 refine at_enterB (B:=B_spec_l5Any) 26 (fun v y x=>⟨[(0,aP 1 0),(1,aI x.1)],[(1,oX 112 [.ro (.u8 5) y.1,cI y.2.1,cI y.2.2]),(2,oP 1 v)]⟩) Tryz.func158 rfl (by kernel_rfl) (fun v y x=>rfl) ?_
 rintro w0 Z0 b0 x0 ⟨x1,u⟩ a w
 revert x0 x1
 intro (x0:T112) (x1:Int) hpre hlens0 hlens h
 replace h:At w0 Z0 [b0] 26 ⟨[(0,aP 1 0),(1,aI x1)],[(1,oX 112 [.ro (.u8 5) x0.1,cI x0.2.1,cI x0.2.2]),(2,oP 1 (Value.pointer (some ⟨b0,0,none⟩)))]⟩ a w:=h
 replace hpre:Q_spec_l5Any x0 x1:=hpre
 have hl1:List.length x0.1≤9223372036854775807:=hlens0.1.1
 have hu0:u8L x0.1:=hlens0.1.2
 have hT:TabOK Tryz.prog S_spec_l5Any_tab:=(.cons S_spec_l5Vector_ok (.cons S_spec_l1Below_ok (.cons S_spec_l1Int_ok .nil)))
 have hvd:=vecD_ok (n:=x1) hpre.1
 have hvl:=hvd.2.1
 have hp2:=hpre.2
 have hb2:=below_bd (belowC (vecD x0 x1).1 10).1 (n:=2) (by decide)
 refine wp_seq ?_
 refine at_regq [] { ts:=[0,1,4],os:=[1,2] } [] gamOK hT h (by kernel_rfl) trivial fun a w h=>then_normal (wp_seq ?_)
 refine at_regq [{},{},{ ids:=[3] }] { ts:=[0,4,5],os:=[1,2,3] } [B_spec_l5Vector.pre x0 (x1,())] gamOK hT h (by kernel_rfl) ⟨(by exact hpre),trivial⟩ fun a w h=>then_normal (wp_seq (wp_seq ?_))
 refine at_regq [] { ts:=[0,4,5,10],os:=[1,2,3] } [B_spec_l1Below.pre (vecD x0 x1).1 (10,())] gamOK hT h (by kernel_rfl) ⟨(by exact (vecD_ok hpre.1).1),trivial⟩ fun a w h=>then_normal (wp_block (wp_seq ?_))
 refine at_regq [] { ts:=[0,4,5,10,11],os:=[1,2,3] } [] gamOK hT h (by kernel_rfl) trivial fun a w h=>then_normal ?_
 refine at_test (decide ((belowC (vecD x0 x1).1 10).2=0)) h (by kernel_rfl) (fun h1=>?_) (fun h1=>?_)
 ·replace h1 : (belowC (vecD x0 x1).1 10).2 = 0 := of_decide_eq_true h1
  refine at_regq [{},{},{ ids:=[4],frz:=true },{},{ ids:=[5] },{ ids:=[6] }] { ts:=[4,5],os:=[1,2,6] } [B_spec_l1Int.pre (belowC (vecD x0 x1).1 10).1 ([(-1),0,1019],()),(List.length (vecD x0 x1).2+List.length ([(pickC (belowC (vecD x0 x1).1 10).1 ([(-1),0,1019])).2]))*8≤140737488355328] gamOK hT h (by kernel_rfl) ⟨(by exact ⟨(below_ok (vecD_ok hpre.1).1),by simp,by simp⟩),(by first | omega | (simp only [lsA];omega) | (simp<;>omega)),trivial⟩ fun a w h=>in_normal (then_normal (wp_seq ?_))
  refine at_regq [] { ts:=[4],os:=[1,2,6] } [] gamOK hT h (by kernel_rfl) trivial fun a w h=>then_normal (wp_ret ?_)
  have hr2:(((pickC (belowC (vecD x0 x1).1 10).1 ([(-1),0,1019])).1,((vecD x0 x1).2++([(pickC (belowC (vecD x0 x1).1 10).1 ([(-1),0,1019])).2]))):T112×(List Int))=anyV x0 x1:=by (unfold anyV;rw [if_pos h1])
  exact at_returnB (B:=B_spec_l5Any) (c0:=x0) (x:=(x1,())) ((pickC (belowC (vecD x0 x1).1 10).1 ([(-1),0,1019])).1) (((vecD x0 x1).2++([(pickC (belowC (vecD x0 x1).1 10).1 ([(-1),0,1019])).2])),()) [(Value.pointer (some ⟨b0,0,none⟩))=(Value.pointer (some ⟨b0,0,none⟩))] h (by kernel_rfl) ⟨rfl,trivial⟩ (congrArg (a₁:=((pickC (belowC (vecD x0 x1).1 10).1 ([(-1),0,1019])).1,((vecD x0 x1).2++([(pickC (belowC (vecD x0 x1).1 10).1 ([(-1),0,1019])).2])))) (a₂:=anyV x0 x1) (fun (z:T112×(List Int))=>z.1) hr2) (congrArg (a₁:=((pickC (belowC (vecD x0 x1).1 10).1 ([(-1),0,1019])).1,((vecD x0 x1).2++([(pickC (belowC (vecD x0 x1).1 10).1 ([(-1),0,1019])).2])))) (a₂:=anyV x0 x1) (fun (z:T112×(List Int))=>(z.2,())) hr2)
 ·replace h1 : ¬ ((belowC (vecD x0 x1).1 10).2 = 0) := of_decide_eq_false h1
  refine wp_seq ?_
  refine at_regq [] { ts:=[0,4,5,19],os:=[1,2,3] } [] gamOK hT h (by kernel_rfl) trivial fun a w h=>then_normal ?_
  refine at_test (decide ((belowC (vecD x0 x1).1 10).2=1)) h (by kernel_rfl) (fun h3=>?_) (fun h3=>?_)
  ·replace h3 : (belowC (vecD x0 x1).1 10).2 = 1 := of_decide_eq_true h3
   refine at_regq [{},{},{ nw:=true },{ ids:=[7] }] { ts:=[4,5],os:=[1,2,7] } [B_spec_l1Below.pre (belowC (vecD x0 x1).1 10).1 (2,()),I64 (40+(belowC (belowC (vecD x0 x1).1 10).1 2).2),(0:Int)≤40+(belowC (belowC (vecD x0 x1).1 10).1 2).2∧40+(belowC (belowC (vecD x0 x1).1 10).1 2).2=40+(belowC (belowC (vecD x0 x1).1 10).1 2).2∧(40+(belowC (belowC (vecD x0 x1).1 10).1 2).2)*(8:Nat)≤(140737488355328:Int)] gamOK hT h (by kernel_rfl) ⟨(by exact (below_ok (vecD_ok hpre.1).1)),⟨by first | omega | (simp only [lsA];omega) | (simp<;>omega),by first | omega | (simp only [lsA];omega) | (simp<;>omega)⟩,(by refine ⟨?_,?_,?_⟩<;>((have hA0:=mul_f (40+(belowC (belowC (vecD x0 x1).1 10).1 2).2) (8:Nat);first | omega | (simp only [lsA];omega) | (simp<;>omega)))),trivial⟩ fun a w h=>in_normal (then_normal (wp_seq ?_))
   refine at_regq [] { ts:=[4],os:=[1,2,7] } [] gamOK hT h (by kernel_rfl) trivial fun a w h=>then_normal (wp_ret ?_)
   have hr4:(((belowC (belowC (vecD x0 x1).1 10).1 2).1,(List.replicate ((40+(belowC (belowC (vecD x0 x1).1 10).1 2).2).toNat) (0:Int))):T112×(List Int))=anyV x0 x1:=by (unfold anyV;rw [if_neg h1,if_pos h3])
   exact at_returnB (B:=B_spec_l5Any) (c0:=x0) (x:=(x1,())) ((belowC (belowC (vecD x0 x1).1 10).1 2).1) ((List.replicate ((40+(belowC (belowC (vecD x0 x1).1 10).1 2).2).toNat) (0:Int)),()) [(Value.pointer (some ⟨b0,0,none⟩))=(Value.pointer (some ⟨b0,0,none⟩))] h (by kernel_rfl) ⟨rfl,trivial⟩ (congrArg (a₁:=((belowC (belowC (vecD x0 x1).1 10).1 2).1,(List.replicate ((40+(belowC (belowC (vecD x0 x1).1 10).1 2).2).toNat) (0:Int)))) (a₂:=anyV x0 x1) (fun (z:T112×(List Int))=>z.1) hr4) (congrArg (a₁:=((belowC (belowC (vecD x0 x1).1 10).1 2).1,(List.replicate ((40+(belowC (belowC (vecD x0 x1).1 10).1 2).2).toNat) (0:Int)))) (a₂:=anyV x0 x1) (fun (z:T112×(List Int))=>(z.2,())) hr4)
  ·replace h3 : ¬ ((belowC (vecD x0 x1).1 10).2 = 1) := of_decide_eq_false h3
   refine wp_skip (in_normal (then_normal (wp_seq ?_)))
   refine at_regq [] { ts:=[4],os:=[1,2,3] } [] gamOK hT h (by kernel_rfl) trivial fun a w h=>then_normal (wp_ret ?_)
   have hr5:(((belowC (vecD x0 x1).1 10).1,(vecD x0 x1).2):T112×(List Int))=anyV x0 x1:=by (unfold anyV;rw [if_neg h1,if_neg h3])
   exact at_returnB (B:=B_spec_l5Any) (c0:=x0) (x:=(x1,())) ((belowC (vecD x0 x1).1 10).1) ((vecD x0 x1).2,()) [(Value.pointer (some ⟨b0,0,none⟩))=(Value.pointer (some ⟨b0,0,none⟩))] h (by kernel_rfl) ⟨rfl,trivial⟩ (congrArg (a₁:=((belowC (vecD x0 x1).1 10).1,(vecD x0 x1).2)) (a₂:=anyV x0 x1) (fun (z:T112×(List Int))=>z.1) hr5) (congrArg (a₁:=((belowC (vecD x0 x1).1 10).1,(vecD x0 x1).2)) (a₂:=anyV x0 x1) (fun (z:T112×(List Int))=>(z.2,())) hr5)
theorem anyV_ok {x:T112} {n:Int} (h:0≤x.2.1) (hn:n≤40):0≤(anyV x n).1.2.1∧List.length (anyV x n).2≤41:=by
 have hvd:=vecD_ok (n:=n) h
 have hvl:=hvd.2.1
 have hb2:=below_bd (belowC (vecD x n).1 10).1 (n:=2) (by decide)
 unfold anyV
 (repeat' split) <;> refine ⟨?_, ?_⟩ <;> first
  | exact pickC_ok (below_ok hvd.1)
  | exact below_ok (below_ok hvd.1)
  | exact below_ok hvd.1
  | (simp;omega)
  | (dsimp only;omega)

def rowIt (x:T112):Nat→T112×List Int
 | 0=>(x,[])
 | i+1=>((belowC (rowIt x i).1 256).1,(rowIt x i).2++[(belowC (rowIt x i).1 256).2])
def genIt (x:T112) (n:Nat):Nat→T112×List (List Int)
 | 0=>(x,[])
 | i+1=>((rowIt (genIt x n i).1 n).1,(genIt x n i).2++[(rowIt (genIt x n i).1 n).2])
theorem rowIt_inv {x:T112} (hx:0≤x.2.1):∀ i,0≤(rowIt x i).1.2.1∧(rowIt x i).2.length=i∧∀ e∈(rowIt x i).2,LA.El e
 | 0=>⟨hx,rfl,fun e he=>by cases he⟩
 | i + 1 => by
  obtain ⟨h1,h2,h3⟩:=rowIt_inv hx i
  have hb:=below_bd (rowIt x i).1 (n:=256) (by decide)
  refine ⟨below_ok h1,by simp [rowIt,h2],fun y hy=>?_⟩
  rcases List.mem_append.1 hy with hy | hy
  ·exact h3 y hy
  ·have : y = (belowC (rowIt x i).1 256).2 := by simpa using hy
   rw [this];unfold LA.El;omega
theorem genIt_inv {x:T112} {n:Nat} (hx:0≤x.2.1):∀ i,0≤(genIt x n i).1.2.1∧(genIt x n i).2.length=i∧∀ r∈(genIt x n i).2,LA.VokB n r
 | 0=>⟨hx,rfl,fun e he=>by cases he⟩
 | i + 1 => by
  obtain ⟨h1,h2,h3⟩:=genIt_inv (n:=n) hx i
  have hr:=rowIt_inv h1 n
  refine ⟨hr.1,by simp [genIt,h2],fun y hy=>?_⟩
  rcases List.mem_append.1 hy with hy | hy
  ·exact h3 y hy
  ·have : y = (rowIt (genIt x n i).1 n).2 := by simpa using hy
   rw [this];exact ⟨hr.2.1,hr.2.2⟩
theorem validG_of {a:Int} {m:List (List Int)} {n:Nat} (ha:0≤a∧a≤1000000000000) (h1:1≤m.length∧m.length≤8) (hn:1≤n∧n≤16) (h2:∀ r∈m,LA.VokB n r):validG (a,m)=true∧colsOf m=(n:Int):=by
 have h0:(m.getD 0 []).length=n:=(h2 _ (getD_mem (z:=[]) (show 0 < m.length by omega))).1
 have hc:colsOf m=(n:Int):=by rw [colsOf_at h1.1,h0]
 have hm:validM m=true:=by
  unfold validM
  have ha:m.all (fun r=>validV r && decide (List.length r=List.length (m.getD 0 [])))=true:=List.all_eq_true.2 fun r hr=>by
   rw [Bool.and_eq_true]
   exact ⟨validV_of (h2 r hr) (by omega),decide_eq_true (by rw [h0];exact (h2 r hr).1)⟩
  rw [if_pos ha]
  exact decide_eq_true (by omega)
 refine ⟨?_,hc⟩
 unfold validG
 rw [if_pos (show inR a 0 1000000000000=true from inR_true ha),if_pos (show inR ((List.length m:Nat):Int) 1 8=true from inR_true (by omega)),if_pos hm,hc]
 exact inR_true (by omega)
def genD (x0:T112):T112×T26:=((genIt (belowC (belowC (belowC x0 5).1 3).1 4).1 (1+(belowC (belowC x0 5).1 3).2).toNat (1+(belowC (belowC (belowC x0 5).1 3).1 4).2).toNat).1,((belowC x0 5).2,(genIt (belowC (belowC (belowC x0 5).1 3).1 4).1 (1+(belowC (belowC x0 5).1 3).2).toNat (1+(belowC (belowC (belowC x0 5).1 3).1 4).2).toNat).2))
abbrev Q_spec_l10Gen:=(fun (x0:T112)=>0≤x0.2.1)
def B_spec_l10Gen:BS:={ t:=112,s:=s112,dom:=[],cod:=[s26],pre:=fun y x=>Q_spec_l10Gen y,upd:=fun y x=>(genD y).1,g:=fun y x=>((genD y).2,()) }
def S_spec_l10Gen:Sum:=bSum 29 B_spec_l10Gen
def S_spec_l10Gen_tab:List (Nat×Sum):=[(54,S_spec_l1Below)]
theorem S_spec_l10Gen_ok:FnOK Tryz.prog 29 S_spec_l10Gen:=by
 refine at_enterB (B:=B_spec_l10Gen) 39 (fun v y x=>⟨[(0,aP 1 0)],[(1,oX 112 [.ro (.u8 5) y.1,cI y.2.1,cI y.2.2]),(2,oP 1 v)]⟩) Tryz.func29 rfl (by kernel_rfl) (fun v y x=>rfl) ?_
 rintro w0 Z0 b0 x0 ⟨u⟩ a w
 revert x0
 intro (x0:T112) hpre hlens0 hlens h
 replace h:At w0 Z0 [b0] 39 ⟨[(0,aP 1 0)],[(1,oX 112 [.ro (.u8 5) x0.1,cI x0.2.1,cI x0.2.2]),(2,oP 1 (Value.pointer (some ⟨b0,0,none⟩)))]⟩ a w:=h
 replace hpre:Q_spec_l10Gen x0:=hpre
 have hl1:List.length x0.1≤9223372036854775807:=hlens0.1.1
 have hu0:u8L x0.1:=hlens0.1.2
 have hT:TabOK Tryz.prog S_spec_l10Gen_tab:=(.cons S_spec_l1Below_ok .nil)
 have hb1:=below_bd x0 (n:=5) (by decide)
 have hb2:=below_bd (belowC x0 5).1 (n:=3) (by decide)
 have hb3:=below_bd (belowC (belowC x0 5).1 3).1 (n:=4) (by decide)
 have hc:=below_ok (n:=4) (below_ok (n:=3) (below_ok (n:=5) hpre))
 refine wp_seq ?_
 refine at_regq [{ ids:=[3] }] { ts:=[0,2],os:=[1,2,3] } [] gamOK hT h (by kernel_rfl) trivial fun a w h=>then_normal (wp_seq ?_)
 refine at_regq [{},{},{},{ ids:=[4] }] { ts:=[0,2,3],os:=[1,2,3,4] } [B_spec_l1Below.pre x0 (5,())] gamOK hT h (by kernel_rfl) ⟨(by exact hpre),trivial⟩ fun a w h=>then_normal (wp_seq ?_)
 refine at_regq [{},{},{ nw:=true }] { ts:=[0,2,3,4],os:=[1,2,3,4] } [B_spec_l1Below.pre (belowC x0 5).1 (3,()),I64 (1+(belowC (belowC x0 5).1 3).2)] gamOK hT h (by kernel_rfl) ⟨(by exact (below_ok hpre)),⟨by first | omega | (simp only [lsA];omega) | (simp<;>omega),by first | omega | (simp only [lsA];omega) | (simp<;>omega)⟩,trivial⟩ fun a w h=>then_normal (wp_seq (wp_seq ?_))
 refine at_regq [{},{},{ nw:=true }] { ts:=[0,2,3,4,5],os:=[1,2,3,4] } [B_spec_l1Below.pre (belowC (belowC x0 5).1 3).1 (4,()),I64 (1+(belowC (belowC (belowC x0 5).1 3).1 4).2)] gamOK hT h (by kernel_rfl) ⟨(by exact (below_ok (below_ok hpre))),⟨by first | omega | (simp only [lsA];omega) | (simp<;>omega),by first | omega | (simp only [lsA];omega) | (simp<;>omega)⟩,trivial⟩ fun a w h=>then_normal (wp_block ?_)
 replace h:=at_out (σ':=⟨[(0,aP 1 0),(2,aP 3 0),(3,aP 4 0),(4,aI (1+(belowC (belowC x0 5).1 3).2)),(5,aI (1+(belowC (belowC (belowC x0 5).1 3).1 4).2))],[(1,oX 112 [.ro (.u8 5) (belowC (belowC (belowC x0 5).1 3).1 4).1.1,cI (belowC (belowC (belowC x0 5).1 3).1 4).1.2.1,cI (belowC (belowC (belowC x0 5).1 3).1 4).1.2.2]),(2,oP 1 (Value.pointer (some ⟨b0,0,none⟩))),(3,oX 26 [cI 0,cN]),(4,oX 26 [cI (belowC x0 5).2,.sl 5]),(5,oR s39 ([]:List (List Int)))]⟩) { mt:=[⟨some 4,1,5,true,s39⟩],ts:=[0,2,3,4,5],os:=[1,2,3,4,5] } h (by kernel_rfl)
 refine at_loop (fun i:Nat=>(⟨[(0,aP 1 0),(2,aP 3 0),(3,aP 4 0),(4,aI (1+(belowC (belowC x0 5).1 3).2)),(5,aI ((1+(belowC (belowC (belowC x0 5).1 3).1 4).2) - ((i:Nat):Int)))],[(1,oX 112 [.ro (.u8 5) (genIt (belowC (belowC (belowC x0 5).1 3).1 4).1 (1+(belowC (belowC x0 5).1 3).2).toNat i).1.1,cI (genIt (belowC (belowC (belowC x0 5).1 3).1 4).1 (1+(belowC (belowC x0 5).1 3).2).toNat i).1.2.1,cI (genIt (belowC (belowC (belowC x0 5).1 3).1 4).1 (1+(belowC (belowC x0 5).1 3).2).toNat i).1.2.2]),(2,oP 1 (Value.pointer (some ⟨b0,0,none⟩))),(3,oX 26 [cI 0,cN]),(4,oX 26 [cI (belowC x0 5).2,.sl 5]),(5,oR s39 (genIt (belowC (belowC (belowC x0 5).1 3).1 4).1 (1+(belowC (belowC x0 5).1 3).2).toNat i).2)]⟩:St)) (fun i=>((i:Nat):Int)≤(1+(belowC (belowC (belowC x0 5).1 3).1 4).2)) (fun i=>((1+(belowC (belowC (belowC x0 5).1 3).1 4).2)).toNat - i) (0) h (st_congr5 (fun (d0:List Int) (d1:Int) (d2:Int) (d3:List (List Int)) (d4:Int)=>(⟨[(0,aP 1 0),(2,aP 3 0),(3,aP 4 0),(4,aI (1+(belowC (belowC x0 5).1 3).2)),(5,aI d4)],[(1,oX 112 [.ro (.u8 5) d0,cI d1,cI d2]),(2,oP 1 (Value.pointer (some ⟨b0,0,none⟩))),(3,oX 26 [cI 0,cN]),(4,oX 26 [cI (belowC x0 5).2,.sl 5]),(5,oR s39 d3)]⟩:St)) (show ((belowC (belowC (belowC x0 5).1 3).1 4).1.1:List Int)=(genIt (belowC (belowC (belowC x0 5).1 3).1 4).1 (1+(belowC (belowC x0 5).1 3).2).toNat (0)).1.1 from by first | with_reducible rfl | (first | rfl | omega) | rfl) (show ((belowC (belowC (belowC x0 5).1 3).1 4).1.2.1:Int)=(genIt (belowC (belowC (belowC x0 5).1 3).1 4).1 (1+(belowC (belowC x0 5).1 3).2).toNat (0)).1.2.1 from by first | with_reducible rfl | (first | rfl | omega) | rfl) (show ((belowC (belowC (belowC x0 5).1 3).1 4).1.2.2:Int)=(genIt (belowC (belowC (belowC x0 5).1 3).1 4).1 (1+(belowC (belowC x0 5).1 3).2).toNat (0)).1.2.2 from by first | with_reducible rfl | (first | rfl | omega) | rfl) (show (([]:List (List Int)):List (List Int))=(genIt (belowC (belowC (belowC x0 5).1 3).1 4).1 (1+(belowC (belowC x0 5).1 3).2).toNat (0)).2 from by first | with_reducible rfl | (first | rfl | omega) | rfl) (show (1+(belowC (belowC (belowC x0 5).1 3).1 4).2:Int)=((1+(belowC (belowC (belowC x0 5).1 3).1 4).2) - (((0):Nat):Int)) from by first | with_reducible rfl | (first | rfl | omega) | rfl)) (by omega) ?_
 intro i a w hok0 h
 have hgi:=genIt_inv (n:=(1+(belowC (belowC x0 5).1 3).2).toNat) hc i
 have hgl:=hgi.2.1
 refine wp_seq (wp_seq ?_)
 refine at_regq [] { ts:=[0,2,3,4,5,18],os:=[1,2,3,4,5] } [] gamOK hT h (by kernel_rfl) trivial fun a w h=>then_normal ?_
 refine at_test (decide (((1+(belowC (belowC (belowC x0 5).1 3).1 4).2) - ((i:Nat):Int)) > 0)) h (by kernel_rfl) (fun h1=>?_) (fun h1=>?_)
 ·replace h1 : ((1 + (belowC (belowC (belowC x0 5).1 3).1 4).2) - ((i : Nat) : Int)) > 0 := of_decide_eq_true h1
  refine wp_skip (then_normal (wp_seq (wp_block (wp_seq ?_))))
  refine at_regq [{ ids:=[6] }] { ts:=[0,2,3,4,5,6],os:=[1,2,3,4,5,6] } [] gamOK hT h (by kernel_rfl) trivial fun a w h=>then_normal (wp_seq (wp_seq ?_))
  refine at_regq [] { ts:=[0,2,3,4,5,6,7],os:=[1,2,3,4,5,6] } [] gamOK hT h (by kernel_rfl) trivial fun a w h=>then_normal (wp_block ?_)
  replace h:=at_out (σ':=⟨[(0,aP 1 0),(2,aP 3 0),(3,aP 4 0),(4,aI (1+(belowC (belowC x0 5).1 3).2)),(5,aI ((1+(belowC (belowC (belowC x0 5).1 3).1 4).2) - ((i:Nat):Int))),(6,aS 6),(7,aI 0)],[(1,oX 112 [.ro (.u8 5) (genIt (belowC (belowC (belowC x0 5).1 3).1 4).1 (1+(belowC (belowC x0 5).1 3).2).toNat i).1.1,cI (genIt (belowC (belowC (belowC x0 5).1 3).1 4).1 (1+(belowC (belowC x0 5).1 3).2).toNat i).1.2.1,cI (genIt (belowC (belowC (belowC x0 5).1 3).1 4).1 (1+(belowC (belowC x0 5).1 3).2).toNat i).1.2.2]),(2,oP 1 (Value.pointer (some ⟨b0,0,none⟩))),(3,oX 26 [cI 0,cN]),(4,oX 26 [cI (belowC x0 5).2,.sl 5]),(5,oR s39 (genIt (belowC (belowC (belowC x0 5).1 3).1 4).1 (1+(belowC (belowC x0 5).1 3).2).toNat i).2),(6,oR (.int 3) ([]:List Int))]⟩) { ts:=[0,2,3,4,5,6,7],os:=[1,2,3,4,5,6] } h (by kernel_rfl)
  refine at_loop (fun k:Nat=>(⟨[(0,aP 1 0),(2,aP 3 0),(3,aP 4 0),(4,aI (1+(belowC (belowC x0 5).1 3).2)),(5,aI ((1+(belowC (belowC (belowC x0 5).1 3).1 4).2) - ((i:Nat):Int))),(6,aS 6),(7,aI ((k:Nat):Int))],[(1,oX 112 [.ro (.u8 5) (rowIt (genIt (belowC (belowC (belowC x0 5).1 3).1 4).1 (1+(belowC (belowC x0 5).1 3).2).toNat i).1 k).1.1,cI (rowIt (genIt (belowC (belowC (belowC x0 5).1 3).1 4).1 (1+(belowC (belowC x0 5).1 3).2).toNat i).1 k).1.2.1,cI (rowIt (genIt (belowC (belowC (belowC x0 5).1 3).1 4).1 (1+(belowC (belowC x0 5).1 3).2).toNat i).1 k).1.2.2]),(2,oP 1 (Value.pointer (some ⟨b0,0,none⟩))),(3,oX 26 [cI 0,cN]),(4,oX 26 [cI (belowC x0 5).2,.sl 5]),(5,oR s39 (genIt (belowC (belowC (belowC x0 5).1 3).1 4).1 (1+(belowC (belowC x0 5).1 3).2).toNat i).2),(6,oR (.int 3) (rowIt (genIt (belowC (belowC (belowC x0 5).1 3).1 4).1 (1+(belowC (belowC x0 5).1 3).2).toNat i).1 k).2)]⟩:St)) (fun k=>k≤(1+(belowC (belowC x0 5).1 3).2).toNat) (fun k=>(1+(belowC (belowC x0 5).1 3).2).toNat - k) (0) h (st_congr5 (fun (d0:List Int) (d1:Int) (d2:Int) (d3:List Int) (d4:Int)=>(⟨[(0,aP 1 0),(2,aP 3 0),(3,aP 4 0),(4,aI (1+(belowC (belowC x0 5).1 3).2)),(5,aI ((1+(belowC (belowC (belowC x0 5).1 3).1 4).2) - ((i:Nat):Int))),(6,aS 6),(7,aI d4)],[(1,oX 112 [.ro (.u8 5) d0,cI d1,cI d2]),(2,oP 1 (Value.pointer (some ⟨b0,0,none⟩))),(3,oX 26 [cI 0,cN]),(4,oX 26 [cI (belowC x0 5).2,.sl 5]),(5,oR s39 (genIt (belowC (belowC (belowC x0 5).1 3).1 4).1 (1+(belowC (belowC x0 5).1 3).2).toNat i).2),(6,oR (.int 3) d3)]⟩:St)) (show ((genIt (belowC (belowC (belowC x0 5).1 3).1 4).1 (1+(belowC (belowC x0 5).1 3).2).toNat i).1.1:List Int)=(rowIt (genIt (belowC (belowC (belowC x0 5).1 3).1 4).1 (1+(belowC (belowC x0 5).1 3).2).toNat i).1 (0)).1.1 from by first | with_reducible rfl | (rfl) | rfl) (show ((genIt (belowC (belowC (belowC x0 5).1 3).1 4).1 (1+(belowC (belowC x0 5).1 3).2).toNat i).1.2.1:Int)=(rowIt (genIt (belowC (belowC (belowC x0 5).1 3).1 4).1 (1+(belowC (belowC x0 5).1 3).2).toNat i).1 (0)).1.2.1 from by first | with_reducible rfl | (rfl) | rfl) (show ((genIt (belowC (belowC (belowC x0 5).1 3).1 4).1 (1+(belowC (belowC x0 5).1 3).2).toNat i).1.2.2:Int)=(rowIt (genIt (belowC (belowC (belowC x0 5).1 3).1 4).1 (1+(belowC (belowC x0 5).1 3).2).toNat i).1 (0)).1.2.2 from by first | with_reducible rfl | (rfl) | rfl) (show (([]:List Int):List Int)=(rowIt (genIt (belowC (belowC (belowC x0 5).1 3).1 4).1 (1+(belowC (belowC x0 5).1 3).2).toNat i).1 (0)).2 from by first | with_reducible rfl | (rfl) | rfl) (show (0:Int)=(((0):Nat):Int) from by first | with_reducible rfl | (rfl) | rfl)) (by omega) ?_
  intro k a w hok1 h
  have hri:=rowIt_inv hgi.1 k
  have hrl:=hri.2.1
  refine wp_seq (wp_seq ?_)
  refine at_regq [] { ts:=[0,2,3,4,5,6,7,24],os:=[1,2,3,4,5,6] } [] gamOK hT h (by kernel_rfl) trivial fun a w h=>then_normal ?_
  refine at_test (decide (((k:Nat):Int) < 1+(belowC (belowC x0 5).1 3).2)) h (by kernel_rfl) (fun h2=>?_) (fun h2=>?_)
  ·replace h2 : ((k : Nat) : Int) < 1 + (belowC (belowC x0 5).1 3).2 := of_decide_eq_true h2
   refine wp_skip (then_normal (wp_seq (wp_block ?_)))
   refine at_regq [{},{},{},{ ids:=[7] },{ ids:=[8] }] { ts:=[0,2,3,4,5,6,7],os:=[1,2,3,4,5,8] } [B_spec_l1Below.pre (rowIt (genIt (belowC (belowC (belowC x0 5).1 3).1 4).1 (1+(belowC (belowC x0 5).1 3).2).toNat i).1 k).1 (256,()),(List.length (rowIt (genIt (belowC (belowC (belowC x0 5).1 3).1 4).1 (1+(belowC (belowC x0 5).1 3).2).toNat i).1 k).2+List.length ([(belowC (rowIt (genIt (belowC (belowC (belowC x0 5).1 3).1 4).1 (1+(belowC (belowC x0 5).1 3).2).toNat i).1 k).1 256).2]))*8≤140737488355328] gamOK hT h (by kernel_rfl) ⟨(by exact hri.1),(by first | omega | (simp only [lsA];omega) | (simp<;>omega)),trivial⟩ fun a w h=>in_normal (then_normal ?_)
   refine at_regq [{},{ nw:=true }] { ts:=[0,2,3,4,5,6,7],os:=[1,2,3,4,5,8] } [I64 (((k:Nat):Int)+1)] gamOK hT h (by kernel_rfl) ⟨⟨by first | omega | (simp only [lsA];omega) | (simp<;>omega),by first | omega | (simp only [lsA];omega) | (simp<;>omega)⟩,trivial⟩ fun a w h=>?_
   replace h:=at_out (σ':=⟨[(0,aP 1 0),(2,aP 3 0),(3,aP 4 0),(4,aI (1+(belowC (belowC x0 5).1 3).2)),(5,aI ((1+(belowC (belowC (belowC x0 5).1 3).1 4).2) - ((i:Nat):Int))),(6,aS 6),(7,aI (((k:Nat):Int)+1))],[(1,oX 112 [.ro (.u8 5) (belowC (rowIt (genIt (belowC (belowC (belowC x0 5).1 3).1 4).1 (1+(belowC (belowC x0 5).1 3).2).toNat i).1 k).1 256).1.1,cI (belowC (rowIt (genIt (belowC (belowC (belowC x0 5).1 3).1 4).1 (1+(belowC (belowC x0 5).1 3).2).toNat i).1 k).1 256).1.2.1,cI (belowC (rowIt (genIt (belowC (belowC (belowC x0 5).1 3).1 4).1 (1+(belowC (belowC x0 5).1 3).2).toNat i).1 k).1 256).1.2.2]),(2,oP 1 (Value.pointer (some ⟨b0,0,none⟩))),(3,oX 26 [cI 0,cN]),(4,oX 26 [cI (belowC x0 5).2,.sl 5]),(5,oR s39 (genIt (belowC (belowC (belowC x0 5).1 3).1 4).1 (1+(belowC (belowC x0 5).1 3).2).toNat i).2),(6,oR (.int 3) ((rowIt (genIt (belowC (belowC (belowC x0 5).1 3).1 4).1 (1+(belowC (belowC x0 5).1 3).2).toNat i).1 k).2++([(belowC (rowIt (genIt (belowC (belowC (belowC x0 5).1 3).1 4).1 (1+(belowC (belowC x0 5).1 3).2).toNat i).1 k).1 256).2])))]⟩) { ts:=[0,2,3,4,5,6,7],os:=[1,2,3,4,5,8],rn:=[(8,6)] } h (by kernel_rfl)
   exact ⟨k+1,at_eq h (st_congr5 (fun (d0:List Int) (d1:Int) (d2:Int) (d3:List Int) (d4:Int)=>(⟨[(0,aP 1 0),(2,aP 3 0),(3,aP 4 0),(4,aI (1+(belowC (belowC x0 5).1 3).2)),(5,aI ((1+(belowC (belowC (belowC x0 5).1 3).1 4).2) - ((i:Nat):Int))),(6,aS 6),(7,aI d4)],[(1,oX 112 [.ro (.u8 5) d0,cI d1,cI d2]),(2,oP 1 (Value.pointer (some ⟨b0,0,none⟩))),(3,oX 26 [cI 0,cN]),(4,oX 26 [cI (belowC x0 5).2,.sl 5]),(5,oR s39 (genIt (belowC (belowC (belowC x0 5).1 3).1 4).1 (1+(belowC (belowC x0 5).1 3).2).toNat i).2),(6,oR (.int 3) d3)]⟩:St)) (show ((belowC (rowIt (genIt (belowC (belowC (belowC x0 5).1 3).1 4).1 (1+(belowC (belowC x0 5).1 3).2).toNat i).1 k).1 256).1.1:List Int)=(rowIt (genIt (belowC (belowC (belowC x0 5).1 3).1 4).1 (1+(belowC (belowC x0 5).1 3).2).toNat i).1 (k+1)).1.1 from by first | with_reducible rfl | (rfl) | rfl) (show ((belowC (rowIt (genIt (belowC (belowC (belowC x0 5).1 3).1 4).1 (1+(belowC (belowC x0 5).1 3).2).toNat i).1 k).1 256).1.2.1:Int)=(rowIt (genIt (belowC (belowC (belowC x0 5).1 3).1 4).1 (1+(belowC (belowC x0 5).1 3).2).toNat i).1 (k+1)).1.2.1 from by first | with_reducible rfl | (rfl) | rfl) (show ((belowC (rowIt (genIt (belowC (belowC (belowC x0 5).1 3).1 4).1 (1+(belowC (belowC x0 5).1 3).2).toNat i).1 k).1 256).1.2.2:Int)=(rowIt (genIt (belowC (belowC (belowC x0 5).1 3).1 4).1 (1+(belowC (belowC x0 5).1 3).2).toNat i).1 (k+1)).1.2.2 from by first | with_reducible rfl | (rfl) | rfl) (show (((rowIt (genIt (belowC (belowC (belowC x0 5).1 3).1 4).1 (1+(belowC (belowC x0 5).1 3).2).toNat i).1 k).2++([(belowC (rowIt (genIt (belowC (belowC (belowC x0 5).1 3).1 4).1 (1+(belowC (belowC x0 5).1 3).2).toNat i).1 k).1 256).2])):List Int)=(rowIt (genIt (belowC (belowC (belowC x0 5).1 3).1 4).1 (1+(belowC (belowC x0 5).1 3).2).toNat i).1 (k+1)).2 from by first | with_reducible rfl | (rfl) | rfl) (show (((k:Nat):Int)+1:Int)=(((k+1):Nat):Int) from by first | with_reducible rfl | (omega) | rfl)),(by omega),(by omega)⟩
  ·replace h2 : ¬ (((k : Nat) : Int) < 1 + (belowC (belowC x0 5).1 3).2) := of_decide_eq_false h2
   refine wp_exit (then_exit ?_)
   replace h:=at_out (σ':=⟨[(0,aP 1 0),(2,aP 3 0),(3,aP 4 0),(4,aI (1+(belowC (belowC x0 5).1 3).2)),(5,aI ((1+(belowC (belowC (belowC x0 5).1 3).1 4).2) - ((i:Nat):Int))),(6,aS 6)],[(1,oX 112 [.ro (.u8 5) (rowIt (genIt (belowC (belowC (belowC x0 5).1 3).1 4).1 (1+(belowC (belowC x0 5).1 3).2).toNat i).1 k).1.1,cI (rowIt (genIt (belowC (belowC (belowC x0 5).1 3).1 4).1 (1+(belowC (belowC x0 5).1 3).2).toNat i).1 k).1.2.1,cI (rowIt (genIt (belowC (belowC (belowC x0 5).1 3).1 4).1 (1+(belowC (belowC x0 5).1 3).2).toNat i).1 k).1.2.2]),(2,oP 1 (Value.pointer (some ⟨b0,0,none⟩))),(3,oX 26 [cI 0,cN]),(4,oX 26 [cI (belowC x0 5).2,.sl 5]),(5,oR s39 (genIt (belowC (belowC (belowC x0 5).1 3).1 4).1 (1+(belowC (belowC x0 5).1 3).2).toNat i).2),(6,oR (.int 3) (rowIt (genIt (belowC (belowC (belowC x0 5).1 3).1 4).1 (1+(belowC (belowC x0 5).1 3).2).toNat i).1 k).2)]⟩) { ts:=[0,2,3,4,5,6],os:=[1,2,3,4,5,6] } h (by kernel_rfl)
   replace h:=at_eq (σ':=⟨[(0,aP 1 0),(2,aP 3 0),(3,aP 4 0),(4,aI (1+(belowC (belowC x0 5).1 3).2)),(5,aI ((1+(belowC (belowC (belowC x0 5).1 3).1 4).2) - ((i:Nat):Int))),(6,aS 6)],[(1,oX 112 [.ro (.u8 5) (rowIt (genIt (belowC (belowC (belowC x0 5).1 3).1 4).1 (1+(belowC (belowC x0 5).1 3).2).toNat i).1 (1+(belowC (belowC x0 5).1 3).2).toNat).1.1,cI (rowIt (genIt (belowC (belowC (belowC x0 5).1 3).1 4).1 (1+(belowC (belowC x0 5).1 3).2).toNat i).1 (1+(belowC (belowC x0 5).1 3).2).toNat).1.2.1,cI (rowIt (genIt (belowC (belowC (belowC x0 5).1 3).1 4).1 (1+(belowC (belowC x0 5).1 3).2).toNat i).1 (1+(belowC (belowC x0 5).1 3).2).toNat).1.2.2]),(2,oP 1 (Value.pointer (some ⟨b0,0,none⟩))),(3,oX 26 [cI 0,cN]),(4,oX 26 [cI (belowC x0 5).2,.sl 5]),(5,oR s39 (genIt (belowC (belowC (belowC x0 5).1 3).1 4).1 (1+(belowC (belowC x0 5).1 3).2).toNat i).2),(6,oR (.int 3) (rowIt (genIt (belowC (belowC (belowC x0 5).1 3).1 4).1 (1+(belowC (belowC x0 5).1 3).2).toNat i).1 (1+(belowC (belowC x0 5).1 3).2).toNat).2)]⟩) h (st_congr4 (fun (d0:List Int) (d1:Int) (d2:Int) (d3:List Int)=>(⟨[(0,aP 1 0),(2,aP 3 0),(3,aP 4 0),(4,aI (1+(belowC (belowC x0 5).1 3).2)),(5,aI ((1+(belowC (belowC (belowC x0 5).1 3).1 4).2) - ((i:Nat):Int))),(6,aS 6)],[(1,oX 112 [.ro (.u8 5) d0,cI d1,cI d2]),(2,oP 1 (Value.pointer (some ⟨b0,0,none⟩))),(3,oX 26 [cI 0,cN]),(4,oX 26 [cI (belowC x0 5).2,.sl 5]),(5,oR s39 (genIt (belowC (belowC (belowC x0 5).1 3).1 4).1 (1+(belowC (belowC x0 5).1 3).2).toNat i).2),(6,oR (.int 3) d3)]⟩:St)) (show ((rowIt (genIt (belowC (belowC (belowC x0 5).1 3).1 4).1 (1+(belowC (belowC x0 5).1 3).2).toNat i).1 k).1.1:List Int)=(rowIt (genIt (belowC (belowC (belowC x0 5).1 3).1 4).1 (1+(belowC (belowC x0 5).1 3).2).toNat i).1 (1+(belowC (belowC x0 5).1 3).2).toNat).1.1 from by first | with_reducible rfl | (rw [show (1+(belowC (belowC x0 5).1 3).2).toNat=k by omega]) | rfl) (show ((rowIt (genIt (belowC (belowC (belowC x0 5).1 3).1 4).1 (1+(belowC (belowC x0 5).1 3).2).toNat i).1 k).1.2.1:Int)=(rowIt (genIt (belowC (belowC (belowC x0 5).1 3).1 4).1 (1+(belowC (belowC x0 5).1 3).2).toNat i).1 (1+(belowC (belowC x0 5).1 3).2).toNat).1.2.1 from by first | with_reducible rfl | (rw [show (1+(belowC (belowC x0 5).1 3).2).toNat=k by omega]) | rfl) (show ((rowIt (genIt (belowC (belowC (belowC x0 5).1 3).1 4).1 (1+(belowC (belowC x0 5).1 3).2).toNat i).1 k).1.2.2:Int)=(rowIt (genIt (belowC (belowC (belowC x0 5).1 3).1 4).1 (1+(belowC (belowC x0 5).1 3).2).toNat i).1 (1+(belowC (belowC x0 5).1 3).2).toNat).1.2.2 from by first | with_reducible rfl | (rw [show (1+(belowC (belowC x0 5).1 3).2).toNat=k by omega]) | rfl) (show ((rowIt (genIt (belowC (belowC (belowC x0 5).1 3).1 4).1 (1+(belowC (belowC x0 5).1 3).2).toNat i).1 k).2:List Int)=(rowIt (genIt (belowC (belowC (belowC x0 5).1 3).1 4).1 (1+(belowC (belowC x0 5).1 3).2).toNat i).1 (1+(belowC (belowC x0 5).1 3).2).toNat).2 from by first | with_reducible rfl | (rw [show (1+(belowC (belowC x0 5).1 3).2).toNat=k by omega]) | rfl))
   refine then_exit (in_hit (then_normal ?_))
   refine at_regq [{},{},{},{ ids:=[9] },{ ids:=[10] }] { ts:=[0,2,3,4,5],os:=[1,2,3,4,10] } [(List.length (genIt (belowC (belowC (belowC x0 5).1 3).1 4).1 (1+(belowC (belowC x0 5).1 3).2).toNat i).2+List.length ([(rowIt (genIt (belowC (belowC (belowC x0 5).1 3).1 4).1 (1+(belowC (belowC x0 5).1 3).2).toNat i).1 (1+(belowC (belowC x0 5).1 3).2).toNat).2]))*24≤140737488355328] gamOK hT h (by kernel_rfl) ⟨(by first | omega | (simp only [lsA];omega) | (simp<;>omega)),trivial⟩ fun a w h=>in_normal (then_normal ?_)
   refine at_regq [{},{ nw:=true }] { ts:=[0,2,3,4,5],os:=[1,2,3,4,10] } [I64 (((1+(belowC (belowC (belowC x0 5).1 3).1 4).2) - ((i:Nat):Int)) - 1)] gamOK hT h (by kernel_rfl) ⟨⟨by first | omega | (simp only [lsA];omega) | (simp<;>omega),by first | omega | (simp only [lsA];omega) | (simp<;>omega)⟩,trivial⟩ fun a w h=>?_
   replace h:=at_out (σ':=⟨[(0,aP 1 0),(2,aP 3 0),(3,aP 4 0),(4,aI (1+(belowC (belowC x0 5).1 3).2)),(5,aI (((1+(belowC (belowC (belowC x0 5).1 3).1 4).2) - ((i:Nat):Int)) - 1))],[(1,oX 112 [.ro (.u8 5) (rowIt (genIt (belowC (belowC (belowC x0 5).1 3).1 4).1 (1+(belowC (belowC x0 5).1 3).2).toNat i).1 (1+(belowC (belowC x0 5).1 3).2).toNat).1.1,cI (rowIt (genIt (belowC (belowC (belowC x0 5).1 3).1 4).1 (1+(belowC (belowC x0 5).1 3).2).toNat i).1 (1+(belowC (belowC x0 5).1 3).2).toNat).1.2.1,cI (rowIt (genIt (belowC (belowC (belowC x0 5).1 3).1 4).1 (1+(belowC (belowC x0 5).1 3).2).toNat i).1 (1+(belowC (belowC x0 5).1 3).2).toNat).1.2.2]),(2,oP 1 (Value.pointer (some ⟨b0,0,none⟩))),(3,oX 26 [cI 0,cN]),(4,oX 26 [cI (belowC x0 5).2,.sl 5]),(5,oR s39 ((genIt (belowC (belowC (belowC x0 5).1 3).1 4).1 (1+(belowC (belowC x0 5).1 3).2).toNat i).2++([(rowIt (genIt (belowC (belowC (belowC x0 5).1 3).1 4).1 (1+(belowC (belowC x0 5).1 3).2).toNat i).1 (1+(belowC (belowC x0 5).1 3).2).toNat).2])))]⟩) { ts:=[0,2,3,4,5],os:=[1,2,3,4,10],rn:=[(10,5)] } h (by kernel_rfl)
   exact ⟨i+1,at_eq h (st_congr5 (fun (d0:List Int) (d1:Int) (d2:Int) (d3:List (List Int)) (d4:Int)=>(⟨[(0,aP 1 0),(2,aP 3 0),(3,aP 4 0),(4,aI (1+(belowC (belowC x0 5).1 3).2)),(5,aI d4)],[(1,oX 112 [.ro (.u8 5) d0,cI d1,cI d2]),(2,oP 1 (Value.pointer (some ⟨b0,0,none⟩))),(3,oX 26 [cI 0,cN]),(4,oX 26 [cI (belowC x0 5).2,.sl 5]),(5,oR s39 d3)]⟩:St)) (show ((rowIt (genIt (belowC (belowC (belowC x0 5).1 3).1 4).1 (1+(belowC (belowC x0 5).1 3).2).toNat i).1 (1+(belowC (belowC x0 5).1 3).2).toNat).1.1:List Int)=(genIt (belowC (belowC (belowC x0 5).1 3).1 4).1 (1+(belowC (belowC x0 5).1 3).2).toNat (i+1)).1.1 from by first | with_reducible rfl | (rfl) | rfl) (show ((rowIt (genIt (belowC (belowC (belowC x0 5).1 3).1 4).1 (1+(belowC (belowC x0 5).1 3).2).toNat i).1 (1+(belowC (belowC x0 5).1 3).2).toNat).1.2.1:Int)=(genIt (belowC (belowC (belowC x0 5).1 3).1 4).1 (1+(belowC (belowC x0 5).1 3).2).toNat (i+1)).1.2.1 from by first | with_reducible rfl | (rfl) | rfl) (show ((rowIt (genIt (belowC (belowC (belowC x0 5).1 3).1 4).1 (1+(belowC (belowC x0 5).1 3).2).toNat i).1 (1+(belowC (belowC x0 5).1 3).2).toNat).1.2.2:Int)=(genIt (belowC (belowC (belowC x0 5).1 3).1 4).1 (1+(belowC (belowC x0 5).1 3).2).toNat (i+1)).1.2.2 from by first | with_reducible rfl | (rfl) | rfl) (show (((genIt (belowC (belowC (belowC x0 5).1 3).1 4).1 (1+(belowC (belowC x0 5).1 3).2).toNat i).2++([(rowIt (genIt (belowC (belowC (belowC x0 5).1 3).1 4).1 (1+(belowC (belowC x0 5).1 3).2).toNat i).1 (1+(belowC (belowC x0 5).1 3).2).toNat).2])):List (List Int))=(genIt (belowC (belowC (belowC x0 5).1 3).1 4).1 (1+(belowC (belowC x0 5).1 3).2).toNat (i+1)).2 from by first | with_reducible rfl | (rfl) | rfl) (show (((1+(belowC (belowC (belowC x0 5).1 3).1 4).2) - ((i:Nat):Int)) - 1:Int)=((1+(belowC (belowC (belowC x0 5).1 3).1 4).2) - (((i+1):Nat):Int)) from by first | with_reducible rfl | (omega) | rfl)),(by omega),(by omega)⟩
 ·replace h1 : ¬ (((1 + (belowC (belowC (belowC x0 5).1 3).1 4).2) - ((i : Nat) : Int)) > 0) := of_decide_eq_false h1
  refine wp_exit (then_exit ?_)
  replace h:=at_out (σ':=⟨[(2,aP 3 0),(3,aP 4 0)],[(1,oX 112 [.ro (.u8 5) (genIt (belowC (belowC (belowC x0 5).1 3).1 4).1 (1+(belowC (belowC x0 5).1 3).2).toNat i).1.1,cI (genIt (belowC (belowC (belowC x0 5).1 3).1 4).1 (1+(belowC (belowC x0 5).1 3).2).toNat i).1.2.1,cI (genIt (belowC (belowC (belowC x0 5).1 3).1 4).1 (1+(belowC (belowC x0 5).1 3).2).toNat i).1.2.2]),(2,oP 1 (Value.pointer (some ⟨b0,0,none⟩))),(3,oX 26 [cI 0,cN]),(4,oX 26 [cI (belowC x0 5).2,.sl 5]),(5,oR s39 (genIt (belowC (belowC (belowC x0 5).1 3).1 4).1 (1+(belowC (belowC x0 5).1 3).2).toNat i).2)]⟩) { ts:=[2,3],os:=[1,2,3,4,5] } h (by kernel_rfl)
  replace h:=at_eq (σ':=⟨[(2,aP 3 0),(3,aP 4 0)],[(1,oX 112 [.ro (.u8 5) (genIt (belowC (belowC (belowC x0 5).1 3).1 4).1 (1+(belowC (belowC x0 5).1 3).2).toNat (1+(belowC (belowC (belowC x0 5).1 3).1 4).2).toNat).1.1,cI (genIt (belowC (belowC (belowC x0 5).1 3).1 4).1 (1+(belowC (belowC x0 5).1 3).2).toNat (1+(belowC (belowC (belowC x0 5).1 3).1 4).2).toNat).1.2.1,cI (genIt (belowC (belowC (belowC x0 5).1 3).1 4).1 (1+(belowC (belowC x0 5).1 3).2).toNat (1+(belowC (belowC (belowC x0 5).1 3).1 4).2).toNat).1.2.2]),(2,oP 1 (Value.pointer (some ⟨b0,0,none⟩))),(3,oX 26 [cI 0,cN]),(4,oX 26 [cI (belowC x0 5).2,.sl 5]),(5,oR s39 (genIt (belowC (belowC (belowC x0 5).1 3).1 4).1 (1+(belowC (belowC x0 5).1 3).2).toNat (1+(belowC (belowC (belowC x0 5).1 3).1 4).2).toNat).2)]⟩) h (st_congr4 (fun (d0:List Int) (d1:Int) (d2:Int) (d3:List (List Int))=>(⟨[(2,aP 3 0),(3,aP 4 0)],[(1,oX 112 [.ro (.u8 5) d0,cI d1,cI d2]),(2,oP 1 (Value.pointer (some ⟨b0,0,none⟩))),(3,oX 26 [cI 0,cN]),(4,oX 26 [cI (belowC x0 5).2,.sl 5]),(5,oR s39 d3)]⟩:St)) (show ((genIt (belowC (belowC (belowC x0 5).1 3).1 4).1 (1+(belowC (belowC x0 5).1 3).2).toNat i).1.1:List Int)=(genIt (belowC (belowC (belowC x0 5).1 3).1 4).1 (1+(belowC (belowC x0 5).1 3).2).toNat (1+(belowC (belowC (belowC x0 5).1 3).1 4).2).toNat).1.1 from by first | with_reducible rfl | (rw [show (1+(belowC (belowC (belowC x0 5).1 3).1 4).2).toNat=i by omega]) | rfl) (show ((genIt (belowC (belowC (belowC x0 5).1 3).1 4).1 (1+(belowC (belowC x0 5).1 3).2).toNat i).1.2.1:Int)=(genIt (belowC (belowC (belowC x0 5).1 3).1 4).1 (1+(belowC (belowC x0 5).1 3).2).toNat (1+(belowC (belowC (belowC x0 5).1 3).1 4).2).toNat).1.2.1 from by first | with_reducible rfl | (rw [show (1+(belowC (belowC (belowC x0 5).1 3).1 4).2).toNat=i by omega]) | rfl) (show ((genIt (belowC (belowC (belowC x0 5).1 3).1 4).1 (1+(belowC (belowC x0 5).1 3).2).toNat i).1.2.2:Int)=(genIt (belowC (belowC (belowC x0 5).1 3).1 4).1 (1+(belowC (belowC x0 5).1 3).2).toNat (1+(belowC (belowC (belowC x0 5).1 3).1 4).2).toNat).1.2.2 from by first | with_reducible rfl | (rw [show (1+(belowC (belowC (belowC x0 5).1 3).1 4).2).toNat=i by omega]) | rfl) (show ((genIt (belowC (belowC (belowC x0 5).1 3).1 4).1 (1+(belowC (belowC x0 5).1 3).2).toNat i).2:List (List Int))=(genIt (belowC (belowC (belowC x0 5).1 3).1 4).1 (1+(belowC (belowC x0 5).1 3).2).toNat (1+(belowC (belowC (belowC x0 5).1 3).1 4).2).toNat).2 from by first | with_reducible rfl | (rw [show (1+(belowC (belowC (belowC x0 5).1 3).1 4).2).toNat=i by omega]) | rfl))
  refine then_exit (in_hit (then_normal (wp_seq ?_)))
  refine at_regq [] { ts:=[2],os:=[1,2,3,5] } [] gamOK hT h (by kernel_rfl) trivial fun a w h=>then_normal (wp_ret ?_)
  have hr3:(((genIt (belowC (belowC (belowC x0 5).1 3).1 4).1 (1+(belowC (belowC x0 5).1 3).2).toNat (1+(belowC (belowC (belowC x0 5).1 3).1 4).2).toNat).1,((belowC x0 5).2,(genIt (belowC (belowC (belowC x0 5).1 3).1 4).1 (1+(belowC (belowC x0 5).1 3).2).toNat (1+(belowC (belowC (belowC x0 5).1 3).1 4).2).toNat).2)):T112×T26)=genD x0:=by rfl
  exact at_returnB (B:=B_spec_l10Gen) (c0:=x0) (x:=(())) ((genIt (belowC (belowC (belowC x0 5).1 3).1 4).1 (1+(belowC (belowC x0 5).1 3).2).toNat (1+(belowC (belowC (belowC x0 5).1 3).1 4).2).toNat).1) (((belowC x0 5).2,(genIt (belowC (belowC (belowC x0 5).1 3).1 4).1 (1+(belowC (belowC x0 5).1 3).2).toNat (1+(belowC (belowC (belowC x0 5).1 3).1 4).2).toNat).2),()) [(Value.pointer (some ⟨b0,0,none⟩))=(Value.pointer (some ⟨b0,0,none⟩))] h (by kernel_rfl) ⟨rfl,trivial⟩ (congrArg (a₁:=((genIt (belowC (belowC (belowC x0 5).1 3).1 4).1 (1+(belowC (belowC x0 5).1 3).2).toNat (1+(belowC (belowC (belowC x0 5).1 3).1 4).2).toNat).1,((belowC x0 5).2,(genIt (belowC (belowC (belowC x0 5).1 3).1 4).1 (1+(belowC (belowC x0 5).1 3).2).toNat (1+(belowC (belowC (belowC x0 5).1 3).1 4).2).toNat).2))) (a₂:=genD x0) (fun (z:T112×T26)=>z.1) hr3) (congrArg (a₁:=((genIt (belowC (belowC (belowC x0 5).1 3).1 4).1 (1+(belowC (belowC x0 5).1 3).2).toNat (1+(belowC (belowC (belowC x0 5).1 3).1 4).2).toNat).1,((belowC x0 5).2,(genIt (belowC (belowC (belowC x0 5).1 3).1 4).1 (1+(belowC (belowC x0 5).1 3).2).toNat (1+(belowC (belowC (belowC x0 5).1 3).1 4).2).toNat).2))) (a₂:=genD x0) (fun (z:T112×T26)=>(z.2,())) hr3)
theorem genD_ok {x:T112} (h:0≤x.2.1):0≤(genD x).1.2.1∧validG (genD x).2=true∧((genD x).2.1≤4∧List.length (genD x).2.2≤4∧colsOf (genD x).2.2≤3):=by
 have b1:=below_bd x (n:=5) (by decide)
 have b2:=below_bd (belowC x 5).1 (n:=3) (by decide)
 have b3:=below_bd (belowC (belowC x 5).1 3).1 (n:=4) (by decide)
 have hx:=below_ok (n:=4) (below_ok (n:=3) (below_ok (n:=5) h))
 have hi:=genIt_inv (n:=(1+(belowC (belowC x 5).1 3).2).toNat) hx (1+(belowC (belowC (belowC x 5).1 3).1 4).2).toNat
 have hv:=validG_of (a:=(belowC x 5).2) (n:=(1+(belowC (belowC x 5).1 3).2).toNat) (by omega) (by rw [hi.2.1];omega) (by omega) hi.2.2
 refine ⟨hi.1,hv.1,by show (belowC x 5).2≤4;omega,?_,?_⟩
 ·show List.length (genIt _ _ _).2 ≤ 4
  rw [hi.2.1];omega
 ·show colsOf (genIt _ _ _).2 ≤ 3
  rw [hv.2];omega
theorem validG_fit {g:T26} (h:validG g=true):Sh.fit s26 g:=by
 have h1:=validG_t h
 have hm:=validM_t h1.2.2.1
 refine ⟨trivial,by omega,fun r hr=>⟨by have:=(hm.2 r hr).2;have:=colsOf_at (m:=g.2) (by omega);omega,fun _ _=>trivial⟩⟩

def hkTo (s:Int) (n:Nat):List Int:=(List.range n).map fun (j:Nat)=>powG 4 (1+rndN s (300+(j:Int)) 1018)
theorem hkTo_succ (s:Int) (n:Nat):hkTo s (n+1)=hkTo s n++[powG 4 (1+rndN s (300+(n:Int)) 1018)]:=by unfold hkTo;rw [List.range_succ,List.map_append];rfl
theorem hkTo_len (s:Int) (n:Nat):(hkTo s n).length=n:=by simp [hkTo]
def hkD (s w:Int):List Int:=if inR w 1 16=true then hkTo s w.toNat else []
theorem hkD_end {s w:Int} {i:Nat} (h:i=0∨((i:Int)≤w∧inR w 1 16=true)) (he:¬ (i:Int) < w∨inR w 1 16=false):hkTo s i=hkD s w:=by
 unfold hkD
 cases hi:inR w 1 16 with
 | true =>
  rw [if_pos rfl]
  have hw:=inR_t hi
  rcases he with he | he
  ·congr 1;omega
  ·rw [hi] at he;cases he
 | false =>
  rw [if_neg (by decide)]
  rcases h with h | h
  ·subst h;rfl
  ·rw [hi] at h;cases h.2
theorem hkD_len (s w:Int):(hkD s w).length≤16:=by
 unfold hkD;split
 ·rename_i h;rw [hkTo_len];have:=inR_t h;omega
 ·exact Nat.zero_le _
theorem rnd1018 (s i:Int):0≤rndN s i 1018∧rndN s i 1018≤1017:=by
 have hkb:=keyed_bd s ([i,71])
 have hm:=mul_f (keyed s ([i,71])) (keyed s ([i,71]))
 have h1:=tmod_f (keyed s ([i,71])*keyed s ([i,71])) 2147483647 (by decide)
 have h2:=tmod_f ((keyed s ([i,71])*keyed s ([i,71])).tmod 2147483647) 1018 (by decide)
 unfold rndN
 rw [if_pos (show inR 1018 1 1000000000000=true from rfl)]
 omega
theorem isGrp_four:isGrp 4=true:=by decide +kernel
theorem pow4_all:∀ n:Fin 1018,powD 4 (1+(n.val:Int)) 2039≠1:=by decide +kernel
theorem gen_ok (s i:Int):isGrp (powG 4 (1+rndN s i 1018))=true∧powG 4 (1+rndN s i 1018)≠1:=by
 have h:=rnd1018 s i
 rw [powG_at isGrp_four (by omega)]
 refine ⟨isGrp_pow isGrp_four (by omega),?_⟩
 have:=pow4_all ⟨(rndN s i 1018).toNat,by omega⟩
 rw [show (((rndN s i 1018).toNat:Nat):Int)=rndN s i 1018 by omega] at this
 exact this
theorem hkD_ok {s w:Int} (h:1≤w∧w≤16):validK (hkD s w)=true∧((List.length (hkD s w):Nat):Int)=w:=by
 have e:hkD s w=hkTo s w.toNat:=if_pos (inR_true h)
 rw [e]
 refine ⟨?_,by rw [hkTo_len];omega⟩
 unfold validK
 have ha:(hkTo s w.toNat).all (fun g=>!decide (g=1) && isGrp g)=true:=List.all_eq_true.2 fun g hg=>by
  obtain ⟨j,_,rfl⟩:=List.mem_map.1 hg
  have:=gen_ok s (300+(j:Int))
  rw [this.1,decide_eq_false this.2];rfl
 rw [if_pos ha,hkTo_len]
 exact inR_true (by omega)
def S_spec_NewHashKey:Sum:={ fid:=155,dom:=[(.int 3),(.int 3)],cod:=[s54],dp:=true,fz:=false,pre:=fun x=>True,g:=fun x=>((hkD x.1 x.2.1),()) }
def S_spec_NewHashKey_tab:List (Nat×Sum):=[(92,S_spec_l1In),(175,S_spec_RandomNumber),(174,S_spec_PowGroup)]
theorem S_spec_NewHashKey_ok:FnOK Tryz.prog 155 S_spec_NewHashKey:=by
 refine at_enter 29 (fun x=>⟨[(0,aI x.1),(1,aI x.2.1)],[]⟩) Tryz.func155 rfl (by kernel_rfl) (fun x=>rfl) ?_
 rintro w0 Z0 ⟨x0,x1,u⟩ a w
 revert x0 x1
 intro (x0:Int) (x1:Int) hpre hlens h
 have hT:TabOK Tryz.prog S_spec_NewHashKey_tab:=(.cons S_spec_l1In_ok (.cons S_spec_RandomNumber_ok (.cons S_spec_PowGroup_ok .nil)))
 refine wp_seq ?_
 refine at_regq [{ ids:=[1] }] { ts:=[0,1,4],os:=[1] } [] gamOK hT h (by kernel_rfl) trivial fun a w h=>then_normal (wp_seq ?_)
 refine at_regq [{},{ ids:=[2] }] { ts:=[0,1,4,5],os:=[1,2] } [] gamOK hT h (by kernel_rfl) trivial fun a w h=>then_normal (wp_seq (wp_seq ?_))
 refine at_regq [] { ts:=[0,1,4,5,6],os:=[1,2] } [] gamOK hT h (by kernel_rfl) trivial fun a w h=>then_normal (wp_block ?_)
 replace h:=at_out (σ':=⟨[(0,aI x0),(1,aI x1),(4,aP 1 0),(5,aP 2 0),(6,aI 0)],[(1,oX 54 [cN]),(2,oX 54 [.sl 3]),(3,oR (.int 3) ([]:List Int))]⟩) { mt:=[⟨some 2,0,3,true,(.int 3)⟩],ts:=[0,1,4,5,6],os:=[1,2,3] } h (by kernel_rfl)
 refine at_loop (fun i:Nat=>(⟨[(0,aI x0),(1,aI x1),(4,aP 1 0),(5,aP 2 0),(6,aI ((i:Nat):Int))],[(1,oX 54 [cN]),(2,oX 54 [.sl 3]),(3,oR (.int 3) (hkTo x0 i))]⟩:St)) (fun i=>(i=0∨((i:Int)≤x1∧inR x1 1 16=true))) (fun i=>x1.toNat - i) (0) h (st_congr2 (fun (d0:List Int) (d1:Int)=>(⟨[(0,aI x0),(1,aI x1),(4,aP 1 0),(5,aP 2 0),(6,aI d1)],[(1,oX 54 [cN]),(2,oX 54 [.sl 3]),(3,oR (.int 3) d0)]⟩:St)) (show (([]:List Int):List Int)=(hkTo x0 (0)) from by first | with_reducible rfl | (rfl) | rfl) (show (0:Int)=(((0):Nat):Int) from by first | with_reducible rfl | (rfl) | rfl)) (by exact Or.inl rfl) ?_
 intro i a w hok0 h
 have hul:=hkTo_len x0 i
 have hi16:i≤16:=by rcases hok0 with h | h;omega;have:=inR_t h.2;omega
 refine wp_seq (wp_seq ?_)
 by_cases h1:((i:Nat):Int) < x1
 ·refine at_regq [{}, {}, { hint := some (aB true) }] { ts := [0, 1, 4, 5, 6, 12, 13, 14], os := [1, 2, 3] } [(AV.p (.c (.v (.bool (decide (((i : Nat) : Int) < x1))))) = AV.p (.c (.v (.bool true)))), True] gamOK hT h (by kernel_rfl) ⟨hint_bool (decide_eq_true h1), trivial, trivial⟩ fun a w h => then_normal ?_
  refine at_test ((inR x1 1 16)) h (by kernel_rfl) (fun h2=>?_) (fun h2=>?_)
  ·have hvh2 := inR_t h2
   have hrn:=rnd1018 x0 (300+((i:Nat):Int))
   have hiw:=inR_t (show inR x1 1 16=true from by assumption)
   refine wp_skip (then_normal (wp_seq (wp_block ?_)))
   refine at_anyq [{},{},{},{},{ nw:=true },{},{ nw:=true },{},{ ids:=[4] },{ ids:=[5] },{},{}] { ts:=[0,1,4,5,6,12,13],os:=[1,2,5] } [I64 (300+((i:Nat):Int)),True,I64 (1+(rndN x0 (300+((i:Nat):Int)) 1018)),True,(List.length (hkTo x0 i)+List.length ([(powG 4 (1+(rndN x0 (300+((i:Nat):Int)) 1018)))]))*8≤140737488355328] gamOK hT mixed h (by kernel_rfl) ⟨⟨by first | omega | (simp only [lsA];omega) | (simp<;>omega),by first | omega | (simp only [lsA];omega) | (simp<;>omega)⟩,trivial,⟨by first | omega | (simp only [lsA];omega) | (simp<;>omega),by first | omega | (simp only [lsA];omega) | (simp<;>omega)⟩,trivial,(by first | omega | (simp only [lsA];omega) | (simp<;>omega)),trivial⟩ fun a w h=>in_normal (then_normal ?_)
   refine at_regq [{},{ nw:=true }] { ts:=[0,1,4,5,6,12,13],os:=[1,2,5] } [I64 (((i:Nat):Int)+1)] gamOK hT h (by kernel_rfl) ⟨⟨by first | omega | (simp only [lsA];omega) | (simp<;>omega),by first | omega | (simp only [lsA];omega) | (simp<;>omega)⟩,trivial⟩ fun a w h=>?_
   replace h:=at_out (σ':=⟨[(0,aI x0),(1,aI x1),(4,aP 1 0),(5,aP 2 0),(6,aI (((i:Nat):Int)+1))],[(1,oX 54 [cN]),(2,oX 54 [.sl 3]),(3,oR (.int 3) ((hkTo x0 i)++([(powG 4 (1+(rndN x0 (300+((i:Nat):Int)) 1018)))])))]⟩) { ts:=[0,1,4,5,6],os:=[1,2,5],rn:=[(5,3)] } h (by kernel_rfl)
   exact ⟨i+1,at_eq h (st_congr2 (fun (d0:List Int) (d1:Int)=>(⟨[(0,aI x0),(1,aI x1),(4,aP 1 0),(5,aP 2 0),(6,aI d1)],[(1,oX 54 [cN]),(2,oX 54 [.sl 3]),(3,oR (.int 3) d0)]⟩:St)) (show (((hkTo x0 i)++([(powG 4 (1+(rndN x0 (300+((i:Nat):Int)) 1018)))])):List Int)=(hkTo x0 (i+1)) from by first | with_reducible rfl | ((rw [hkTo_succ])) | rfl) (show (((i:Nat):Int)+1:Int)=(((i+1):Nat):Int) from by first | with_reducible rfl | (omega) | rfl)),(by exact Or.inr ⟨by omega,by assumption⟩),(by omega)⟩
  ·have hvh2 := inR_f h2
   refine wp_exit (then_exit ?_)
   replace h:=at_out (σ':=⟨[(4,aP 1 0),(5,aP 2 0)],[(1,oX 54 [cN]),(2,oX 54 [.sl 3]),(3,oR (.int 3) (hkTo x0 i))]⟩) { ts:=[4,5],os:=[1,2,3] } h (by kernel_rfl)
   replace h:=at_eq (σ':=⟨[(4,aP 1 0),(5,aP 2 0)],[(1,oX 54 [cN]),(2,oX 54 [.sl 3]),(3,oR (.int 3) (hkD x0 x1))]⟩) h (st_congr1 (fun (d0:List Int)=>(⟨[(4,aP 1 0),(5,aP 2 0)],[(1,oX 54 [cN]),(2,oX 54 [.sl 3]),(3,oR (.int 3) d0)]⟩:St)) (show ((hkTo x0 i):List Int)=(hkD x0 x1) from by first | with_reducible rfl | (exact hkD_end hok0 (by first | (left;omega) | (right;assumption))) | rfl))
   refine then_exit (in_hit (then_normal (wp_seq ?_)))
   refine at_regq [] { ts:=[4],os:=[1,3] } [] gamOK hT h (by kernel_rfl) trivial fun a w h=>then_normal (wp_ret ?_)
   exact at_return ((hkD x0 x1),()) [] h (by kernel_rfl) trivial (congrArg (fun z=>(z,())) (show ((hkD x0 x1))=hkD x0 x1 from by rfl))
 ·refine at_regq [{}, {}, { hint := some (aB false) }] { ts := [0, 1, 4, 5, 6, 12, 13, 14], os := [1, 2, 3] } [(AV.p (.c (.v (.bool (decide (((i : Nat) : Int) < x1))))) = AV.p (.c (.v (.bool false))))] gamOK hT h (by kernel_rfl) ⟨hint_bool (decide_eq_false h1), trivial⟩ fun a w h => then_normal ?_
  refine at_test false h (by kernel_rfl) (fun hh=>nomatch hh) (fun hh=>?_)
  refine wp_exit (then_exit ?_)
  replace h:=at_out (σ':=⟨[(4,aP 1 0),(5,aP 2 0)],[(1,oX 54 [cN]),(2,oX 54 [.sl 3]),(3,oR (.int 3) (hkTo x0 i))]⟩) { ts:=[4,5],os:=[1,2,3] } h (by kernel_rfl)
  replace h:=at_eq (σ':=⟨[(4,aP 1 0),(5,aP 2 0)],[(1,oX 54 [cN]),(2,oX 54 [.sl 3]),(3,oR (.int 3) (hkD x0 x1))]⟩) h (st_congr1 (fun (d0:List Int)=>(⟨[(4,aP 1 0),(5,aP 2 0)],[(1,oX 54 [cN]),(2,oX 54 [.sl 3]),(3,oR (.int 3) d0)]⟩:St)) (show ((hkTo x0 i):List Int)=(hkD x0 x1) from by first | with_reducible rfl | (exact hkD_end hok0 (by first | (left;omega) | (right;assumption))) | rfl))
  refine then_exit (in_hit (then_normal (wp_seq ?_)))
  refine at_regq [] { ts:=[4],os:=[1,3] } [] gamOK hT h (by kernel_rfl) trivial fun a w h=>then_normal (wp_ret ?_)
  exact at_return ((hkD x0 x1),()) [] h (by kernel_rfl) trivial (congrArg (fun z=>(z,())) (show ((hkD x0 x1))=hkD x0 x1 from by rfl))

@[irreducible]
def keyE (x0:T112) (x1:Int):T112×(List Int):=(if (belowC (belowC x0 99).1 10).2=0 then (if ((List.length (hkD (belowC x0 99).2 x1):Nat):Int) > 0 then ((pickC (belowC (belowC x0 99).1 10).1 ([(-1),0,1,2,2038,2039])).1,(List.set (hkD (belowC x0 99).2 x1) 0 (pickC (belowC (belowC x0 99).1 10).1 ([(-1),0,1,2,2038,2039])).2)) else ((belowC (belowC x0 99).1 10).1,(hkD (belowC x0 99).2 x1))) else (if (belowC (belowC x0 99).1 10).2=1 then ((grpE (belowC (belowC x0 99).1 10).1).1,((hkD (belowC x0 99).2 x1)++([(grpE (belowC (belowC x0 99).1 10).1).2]))) else ((belowC (belowC x0 99).1 10).1,(hkD (belowC x0 99).2 x1))))
abbrev Q_spec_l18Key:=(fun (x0:T112) (x1:Int)=>0≤x0.2.1)
def B_spec_l18Key:BS:={ t:=112,s:=s112,dom:=[(.int 3)],cod:=[s54],pre:=fun y x=>Q_spec_l18Key y x.1,upd:=fun y x=>(keyE y x.1).1,g:=fun y x=>((keyE y x.1).2,()) }
def S_spec_l18Key:Sum:=bSum 124 B_spec_l18Key
def S_spec_l18Key_tab:List (Nat×Sum):=[(54,S_spec_l1Below),(155,S_spec_NewHashKey),(84,S_spec_l1Int),(123,S_spec_l4Group)]
theorem S_spec_l18Key_ok:FnOK Tryz.prog 124 S_spec_l18Key:=by
 refine at_enterB (B:=B_spec_l18Key) 34 (fun v y x=>⟨[(0,aP 1 0),(1,aI x.1)],[(1,oX 112 [.ro (.u8 5) y.1,cI y.2.1,cI y.2.2]),(2,oP 1 v)]⟩) Tryz.func124 rfl (by kernel_rfl) (fun v y x=>rfl) ?_
 rintro w0 Z0 b0 x0 ⟨x1,u⟩ a w
 revert x0 x1
 intro (x0:T112) (x1:Int) hpre hlens0 hlens h
 replace h:At w0 Z0 [b0] 34 ⟨[(0,aP 1 0),(1,aI x1)],[(1,oX 112 [.ro (.u8 5) x0.1,cI x0.2.1,cI x0.2.2]),(2,oP 1 (Value.pointer (some ⟨b0,0,none⟩)))]⟩ a w:=h
 replace hpre:Q_spec_l18Key x0 x1:=hpre
 have hl1:List.length x0.1≤9223372036854775807:=hlens0.1.1
 have hu0:u8L x0.1:=hlens0.1.2
 have hT:TabOK Tryz.prog S_spec_l18Key_tab:=(.cons S_spec_l1Below_ok (.cons S_spec_NewHashKey_ok (.cons S_spec_l1Int_ok (.cons S_spec_l4Group_ok .nil))))
 have hkl:=hkD_len (belowC x0 99).2 x1
 refine wp_seq ?_
 refine at_regq [{ ids:=[3] }] { ts:=[0,1,4],os:=[1,2,3] } [] gamOK hT h (by kernel_rfl) trivial fun a w h=>then_normal (wp_seq ?_)
 refine at_regq [{},{},{},{ ids:=[4] },{ ids:=[5] }] { ts:=[0,4,5],os:=[1,2,3,4,5] } [B_spec_l1Below.pre x0 (99,()),True] gamOK hT h (by kernel_rfl) ⟨(by exact hpre),trivial,trivial⟩ fun a w h=>then_normal (wp_seq (wp_seq ?_))
 refine at_regq [] { ts:=[0,4,5,11],os:=[1,2,3,4,5] } [B_spec_l1Below.pre (belowC x0 99).1 (10,())] gamOK hT h (by kernel_rfl) ⟨(by exact (below_ok hpre)),trivial⟩ fun a w h=>then_normal (wp_block (wp_seq ?_))
 refine at_regq [] { ts:=[0,4,5,11,12],os:=[1,2,3,4,5] } [] gamOK hT h (by kernel_rfl) trivial fun a w h=>then_normal ?_
 refine at_test (decide ((belowC (belowC x0 99).1 10).2=0)) h (by kernel_rfl) (fun h1=>?_) (fun h1=>?_)
 ·replace h1 : (belowC (belowC x0 99).1 10).2 = 0 := of_decide_eq_true h1
  refine wp_seq ?_
  refine at_regq [] { ts:=[0,4,5,17],os:=[1,2,3,4,5] } [] gamOK hT h (by kernel_rfl) trivial fun a w h=>then_normal ?_
  refine at_test (decide (((List.length (hkD (belowC x0 99).2 x1):Nat):Int) > 0)) h (by kernel_rfl) (fun h2=>?_) (fun h2=>?_)
  ·replace h2 : ((List.length (hkD (belowC x0 99).2 x1) : Nat) : Int) > 0 := of_decide_eq_true h2
   refine at_anyq [{},{},{},{ ids:=[6],frz:=true },{},{},{}] { ts:=[4,5],os:=[1,2,3,4,5] } [B_spec_l1Int.pre (belowC (belowC x0 99).1 10).1 ([(-1),0,1,2,2038,2039],()),(0:Int)≤0∧0 < ((List.length (hkD (belowC x0 99).2 x1):Nat):Int),0 < List.length (hkD (belowC x0 99).2 x1)] gamOK hT mixed h (by kernel_rfl) ⟨(by exact ⟨(below_ok (below_ok hpre)),by simp,by simp⟩),(by refine ⟨?_,?_⟩<;>(first | omega | (simp only [lsA];omega) | (simp<;>omega))),(by first | omega | (simp only [lsA];omega) | (simp<;>omega)),trivial⟩ fun a w h=>in_normal (then_normal (wp_seq ?_))
   refine at_regq [] { ts:=[4],os:=[1,2,3,4] } [] gamOK hT h (by kernel_rfl) trivial fun a w h=>then_normal (wp_ret ?_)
   have hr3:(((pickC (belowC (belowC x0 99).1 10).1 ([(-1),0,1,2,2038,2039])).1,(List.set (hkD (belowC x0 99).2 x1) 0 (pickC (belowC (belowC x0 99).1 10).1 ([(-1),0,1,2,2038,2039])).2)):T112×(List Int))=keyE x0 x1:=by (unfold keyE;rw [if_pos h1,if_pos h2])
   exact at_returnB (B:=B_spec_l18Key) (c0:=x0) (x:=(x1,())) ((pickC (belowC (belowC x0 99).1 10).1 ([(-1),0,1,2,2038,2039])).1) ((List.set (hkD (belowC x0 99).2 x1) 0 (pickC (belowC (belowC x0 99).1 10).1 ([(-1),0,1,2,2038,2039])).2),()) [(Value.pointer (some ⟨b0,0,none⟩))=(Value.pointer (some ⟨b0,0,none⟩))] h (by kernel_rfl) ⟨rfl,trivial⟩ (congrArg (a₁:=((pickC (belowC (belowC x0 99).1 10).1 ([(-1),0,1,2,2038,2039])).1,(List.set (hkD (belowC x0 99).2 x1) 0 (pickC (belowC (belowC x0 99).1 10).1 ([(-1),0,1,2,2038,2039])).2))) (a₂:=keyE x0 x1) (fun (z:T112×(List Int))=>z.1) hr3) (congrArg (a₁:=((pickC (belowC (belowC x0 99).1 10).1 ([(-1),0,1,2,2038,2039])).1,(List.set (hkD (belowC x0 99).2 x1) 0 (pickC (belowC (belowC x0 99).1 10).1 ([(-1),0,1,2,2038,2039])).2))) (a₂:=keyE x0 x1) (fun (z:T112×(List Int))=>(z.2,())) hr3)
  ·replace h2 : ¬ (((List.length (hkD (belowC x0 99).2 x1) : Nat) : Int) > 0) := of_decide_eq_false h2
   refine wp_skip (in_normal (then_normal (wp_seq ?_)))
   refine at_regq [] { ts:=[4],os:=[1,2,3,4] } [] gamOK hT h (by kernel_rfl) trivial fun a w h=>then_normal (wp_ret ?_)
   have hr4:(((belowC (belowC x0 99).1 10).1,(hkD (belowC x0 99).2 x1)):T112×(List Int))=keyE x0 x1:=by (unfold keyE;rw [if_pos h1,if_neg h2])
   exact at_returnB (B:=B_spec_l18Key) (c0:=x0) (x:=(x1,())) ((belowC (belowC x0 99).1 10).1) ((hkD (belowC x0 99).2 x1),()) [(Value.pointer (some ⟨b0,0,none⟩))=(Value.pointer (some ⟨b0,0,none⟩))] h (by kernel_rfl) ⟨rfl,trivial⟩ (congrArg (a₁:=((belowC (belowC x0 99).1 10).1,(hkD (belowC x0 99).2 x1))) (a₂:=keyE x0 x1) (fun (z:T112×(List Int))=>z.1) hr4) (congrArg (a₁:=((belowC (belowC x0 99).1 10).1,(hkD (belowC x0 99).2 x1))) (a₂:=keyE x0 x1) (fun (z:T112×(List Int))=>(z.2,())) hr4)
 ·replace h1 : ¬ ((belowC (belowC x0 99).1 10).2 = 0) := of_decide_eq_false h1
  refine wp_seq ?_
  refine at_regq [] { ts:=[0,4,5,24],os:=[1,2,3,4,5] } [] gamOK hT h (by kernel_rfl) trivial fun a w h=>then_normal ?_
  refine at_test (decide ((belowC (belowC x0 99).1 10).2=1)) h (by kernel_rfl) (fun h5=>?_) (fun h5=>?_)
  ·replace h5 : (belowC (belowC x0 99).1 10).2 = 1 := of_decide_eq_true h5
   refine at_anyq [{},{},{},{},{ ids:=[7] },{ ids:=[8] },{},{}] { ts:=[4,5],os:=[1,2,3,5,8] } [B_spec_l4Group.pre (belowC (belowC x0 99).1 10).1 (()),(List.length (hkD (belowC x0 99).2 x1)+List.length ([(grpE (belowC (belowC x0 99).1 10).1).2]))*8≤140737488355328] gamOK hT mixed h (by kernel_rfl) ⟨(by exact (below_ok (below_ok hpre))),(by first | omega | (simp only [lsA];omega) | (simp<;>omega)),trivial⟩ fun a w h=>in_normal (then_normal (wp_seq ?_))
   refine at_regq [] { ts:=[4],os:=[1,2,3,8] } [] gamOK hT h (by kernel_rfl) trivial fun a w h=>then_normal (wp_ret ?_)
   have hr6:(((grpE (belowC (belowC x0 99).1 10).1).1,((hkD (belowC x0 99).2 x1)++([(grpE (belowC (belowC x0 99).1 10).1).2]))):T112×(List Int))=keyE x0 x1:=by (unfold keyE;rw [if_neg h1,if_pos h5])
   exact at_returnB (B:=B_spec_l18Key) (c0:=x0) (x:=(x1,())) ((grpE (belowC (belowC x0 99).1 10).1).1) (((hkD (belowC x0 99).2 x1)++([(grpE (belowC (belowC x0 99).1 10).1).2])),()) [(Value.pointer (some ⟨b0,0,none⟩))=(Value.pointer (some ⟨b0,0,none⟩))] h (by kernel_rfl) ⟨rfl,trivial⟩ (congrArg (a₁:=((grpE (belowC (belowC x0 99).1 10).1).1,((hkD (belowC x0 99).2 x1)++([(grpE (belowC (belowC x0 99).1 10).1).2])))) (a₂:=keyE x0 x1) (fun (z:T112×(List Int))=>z.1) hr6) (congrArg (a₁:=((grpE (belowC (belowC x0 99).1 10).1).1,((hkD (belowC x0 99).2 x1)++([(grpE (belowC (belowC x0 99).1 10).1).2])))) (a₂:=keyE x0 x1) (fun (z:T112×(List Int))=>(z.2,())) hr6)
  ·replace h5 : ¬ ((belowC (belowC x0 99).1 10).2 = 1) := of_decide_eq_false h5
   refine wp_skip (in_normal (then_normal (wp_seq ?_)))
   refine at_regq [] { ts:=[4],os:=[1,2,3,4] } [] gamOK hT h (by kernel_rfl) trivial fun a w h=>then_normal (wp_ret ?_)
   have hr7:(((belowC (belowC x0 99).1 10).1,(hkD (belowC x0 99).2 x1)):T112×(List Int))=keyE x0 x1:=by (unfold keyE;rw [if_neg h1,if_neg h5])
   exact at_returnB (B:=B_spec_l18Key) (c0:=x0) (x:=(x1,())) ((belowC (belowC x0 99).1 10).1) ((hkD (belowC x0 99).2 x1),()) [(Value.pointer (some ⟨b0,0,none⟩))=(Value.pointer (some ⟨b0,0,none⟩))] h (by kernel_rfl) ⟨rfl,trivial⟩ (congrArg (a₁:=((belowC (belowC x0 99).1 10).1,(hkD (belowC x0 99).2 x1))) (a₂:=keyE x0 x1) (fun (z:T112×(List Int))=>z.1) hr7) (congrArg (a₁:=((belowC (belowC x0 99).1 10).1,(hkD (belowC x0 99).2 x1))) (a₂:=keyE x0 x1) (fun (z:T112×(List Int))=>(z.2,())) hr7)
theorem keyE_ok {x:T112} {n:Int} (h:0≤x.2.1):0≤(keyE x n).1.2.1∧List.length (keyE x n).2≤17:=by
 have hkl:=hkD_len (belowC x 99).2 n
 unfold keyE
 (repeat' split) <;> refine ⟨?_, ?_⟩ <;> first
  | exact pickC_ok (below_ok (below_ok h))
  | exact grpE_ok (below_ok (below_ok h))
  | exact below_ok (below_ok h)
  | (simp;omega)
  | (dsimp only;omega)

theorem mkMan_ok {s src:Int} {k:List Int} {g:T26} (hk:hsOK k g) (hs:0≤src∧src≤7):validMan (mkMan s src k g)=true:=by
 have hg:=validG_t hk.2.1
 have hl:List.length (hashSyms k g)=List.length g.2:=by unfold hashSyms;rw [if_pos hk,List.length_map]
 have ha:(hashSyms k g).all isGrp=true:=List.all_eq_true.2 fun y hy=>by
  unfold hashSyms at hy;rw [if_pos hk] at hy
  obtain ⟨r,hr,rfl⟩:=List.mem_map.1 hy
  have hv:=(validM_t hg.2.2.1).2 r hr
  exact hpw_grp (validK_t hk.1).2 (validV_t hv.1).2.2 _ (Nat.le_refl _)
 have hm:=manMAC_bd s (src,g.1,((List.length g.2:Nat):Int),colsOf g.2,hashSyms k g,0)
 have hf:isFmt g.1 ((List.length g.2:Nat):Int) (colsOf g.2)=true:=by
  unfold isFmt
  rw [if_pos (show inR g.1 0 1000000000000=true from inR_true hg.1),if_pos (show inR ((List.length g.2:Nat):Int) 1 8=true from inR_true (by omega))]
  exact inR_true hg.2.2.2
 unfold mkMan signMan validMan
 simp only [ha,hf,hl,show inR src 0 7=true from inR_true hs,if_true]
 first
  | exact inR_true (by omega)
  | (simp only [show inR (manMAC s (src,g.1,((List.length g.2:Nat):Int),colsOf g.2,hashSyms k g,0)) 0 2147483646=true from inR_true (by omega)];simp)
def madeD (x0:T112):T112×T26×(List Int)×T56:=((belowC (belowC (belowC (genD x0).1 99).1 5).1 3).1,(genD x0).2,(hkD (belowC (genD x0).1 99).2 (colsOf (genD x0).2.2)),(makeMan (1+(belowC (belowC (genD x0).1 99).1 5).2) (belowC (belowC (belowC (genD x0).1 99).1 5).1 3).2 (hkD (belowC (genD x0).1 99).2 (colsOf (genD x0).2.2)) (genD x0).2).1)
abbrev Q_spec_l19Made:=(fun (x0:T112)=>0≤x0.2.1)
def B_spec_l19Made:BS:={ t:=112,s:=s112,dom:=[],cod:=[s26,s54,s56],pre:=fun y x=>Q_spec_l19Made y,upd:=fun y x=>(madeD y).1,g:=fun y x=>((madeD y).2.1,((madeD y).2.2.1,((madeD y).2.2.2,()))) }
def S_spec_l19Made:Sum:=bSum 122 B_spec_l19Made
def S_spec_l19Made_tab:List (Nat×Sum):=[(29,S_spec_l10Gen),(54,S_spec_l1Below),(8,S_spec_ColumnsOf),(155,S_spec_NewHashKey),(156,S_spec_MakeManifest)]
theorem S_spec_l19Made_ok:FnOK Tryz.prog 122 S_spec_l19Made:=by
 refine at_enterB (B:=B_spec_l19Made) 31 (fun v y x=>⟨[(0,aP 1 0)],[(1,oX 112 [.ro (.u8 5) y.1,cI y.2.1,cI y.2.2]),(2,oP 1 v)]⟩) Tryz.func122 rfl (by kernel_rfl) (fun v y x=>rfl) ?_
 rintro w0 Z0 b0 x0 ⟨u⟩ a w
 revert x0
 intro (x0:T112) hpre hlens0 hlens h
 replace h:At w0 Z0 [b0] 31 ⟨[(0,aP 1 0)],[(1,oX 112 [.ro (.u8 5) x0.1,cI x0.2.1,cI x0.2.2]),(2,oP 1 (Value.pointer (some ⟨b0,0,none⟩)))]⟩ a w:=h
 replace hpre:Q_spec_l19Made x0:=hpre
 have hl1:List.length x0.1≤9223372036854775807:=hlens0.1.1
 have hu0:u8L x0.1:=hlens0.1.2
 have hT:TabOK Tryz.prog S_spec_l19Made_tab:=(.cons S_spec_l10Gen_ok (.cons S_spec_l1Below_ok (.cons S_spec_ColumnsOf_ok (.cons S_spec_NewHashKey_ok (.cons S_spec_MakeManifest_ok .nil)))))
 have hgo:=genD_ok hpre
 have hg1:=hgo.1
 have hgf:=validG_fit hgo.2.1
 have hb2:=below_bd (belowC (genD x0).1 99).1 (n:=5) (by decide)
 have hb3:=below_bd (belowC (belowC (genD x0).1 99).1 5).1 (n:=3) (by decide)
 refine wp_seq ?_
 refine at_regq [{ ids:=[3] },{ ids:=[4] },{ ids:=[5] }] { ts:=[0,2,3,4],os:=[1,2,3,4,5] } [] gamOK hT h (by kernel_rfl) trivial fun a w h=>then_normal (wp_seq ?_)
 refine at_regq [{},{ ids:=[6] },{ ids:=[7] }] { ts:=[0,2,3,4,5],os:=[1,2,3,4,5,6,7] } [B_spec_l10Gen.pre x0 (())] gamOK hT h (by kernel_rfl) ⟨(by exact hpre),trivial⟩ fun a w h=>then_normal (wp_seq ?_)
 refine at_anyq [{},{},{},{},{},{ ids:=[8] },{ ids:=[9] },{}] { ts:=[0,2,3,4,5,6],os:=[1,2,3,4,5,6,7,8,9] } [B_spec_l1Below.pre (genD x0).1 (99,()),Q_spec_ColumnsOf (genD x0).2.2,True] gamOK hT mixed h (by kernel_rfl) ⟨(by exact (genD_ok hpre).1),(by exact hgf.2),trivial,trivial⟩ fun a w h=>then_normal (wp_seq ?_)
 refine at_anyq [{},{},{ nw:=true },{},{},{},{},{ ids:=[10] },{},{},{},{ ids:=[11] },{},{}] { ts:=[2,3,4,5,6,7],os:=[1,2,3,4,5,6,7,8,9,10,11] } [B_spec_l1Below.pre (belowC (genD x0).1 99).1 (5,()),I64 (1+(belowC (belowC (genD x0).1 99).1 5).2),B_spec_l1Below.pre (belowC (belowC (genD x0).1 99).1 5).1 (3,()),Q_spec_MakeManifest (1+(belowC (belowC (genD x0).1 99).1 5).2) (belowC (belowC (belowC (genD x0).1 99).1 5).1 3).2 (hkD (belowC (genD x0).1 99).2 (colsOf (genD x0).2.2)) (genD x0).2] gamOK hT mixed h (by kernel_rfl) ⟨(by exact (below_ok (genD_ok hpre).1)),⟨by first | omega | (simp only [lsA];omega) | (simp<;>omega),by first | omega | (simp only [lsA];omega) | (simp<;>omega)⟩,(by exact (below_ok (below_ok (genD_ok hpre).1))),(by exact ⟨(Sh.fit_len (t:=39) (s:=.int 3) rfl (Nat.le_trans (hkD_len _ _) (by decide))),hgf⟩),trivial⟩ fun a w h=>then_normal (wp_seq ?_)
 refine at_anyq [{},{},{},{},{},{}] { ts:=[2,3,4],os:=[1,2,3,4,5,6,8,10] } [] gamOK hT mixed h (by kernel_rfl) trivial fun a w h=>then_normal (wp_ret ?_)
 have hr1:(((belowC (belowC (belowC (genD x0).1 99).1 5).1 3).1,(genD x0).2,(hkD (belowC (genD x0).1 99).2 (colsOf (genD x0).2.2)),(makeMan (1+(belowC (belowC (genD x0).1 99).1 5).2) (belowC (belowC (belowC (genD x0).1 99).1 5).1 3).2 (hkD (belowC (genD x0).1 99).2 (colsOf (genD x0).2.2)) (genD x0).2).1):T112×T26×(List Int)×T56)=madeD x0:=by rfl
 exact at_returnB (B:=B_spec_l19Made) (c0:=x0) (x:=(())) ((belowC (belowC (belowC (genD x0).1 99).1 5).1 3).1) ((genD x0).2,((hkD (belowC (genD x0).1 99).2 (colsOf (genD x0).2.2)),((makeMan (1+(belowC (belowC (genD x0).1 99).1 5).2) (belowC (belowC (belowC (genD x0).1 99).1 5).1 3).2 (hkD (belowC (genD x0).1 99).2 (colsOf (genD x0).2.2)) (genD x0).2).1,()))) [(Value.pointer (some ⟨b0,0,none⟩))=(Value.pointer (some ⟨b0,0,none⟩))] h (by kernel_rfl) ⟨rfl,trivial⟩ (congrArg (a₁:=((belowC (belowC (belowC (genD x0).1 99).1 5).1 3).1,(genD x0).2,(hkD (belowC (genD x0).1 99).2 (colsOf (genD x0).2.2)),(makeMan (1+(belowC (belowC (genD x0).1 99).1 5).2) (belowC (belowC (belowC (genD x0).1 99).1 5).1 3).2 (hkD (belowC (genD x0).1 99).2 (colsOf (genD x0).2.2)) (genD x0).2).1)) (a₂:=madeD x0) (fun (z:T112×T26×(List Int)×T56)=>z.1) hr1) (congrArg (a₁:=((belowC (belowC (belowC (genD x0).1 99).1 5).1 3).1,(genD x0).2,(hkD (belowC (genD x0).1 99).2 (colsOf (genD x0).2.2)),(makeMan (1+(belowC (belowC (genD x0).1 99).1 5).2) (belowC (belowC (belowC (genD x0).1 99).1 5).1 3).2 (hkD (belowC (genD x0).1 99).2 (colsOf (genD x0).2.2)) (genD x0).2).1)) (a₂:=madeD x0) (fun (z:T112×T26×(List Int)×T56)=>(z.2.1,z.2.2.1,z.2.2.2,())) hr1)
theorem madeD_ok {x:T112} (h:0≤x.2.1):0≤(madeD x).1.2.1∧(validG (madeD x).2.1=true∧(madeD x).2.1.1≤4∧List.length (madeD x).2.1.2≤4∧colsOf (madeD x).2.1.2≤3)∧hsOK (madeD x).2.2.1 (madeD x).2.1∧∃ s src,(isKey s=true∧0≤src∧src≤2)∧(madeD x).2.2.2=mkMan s src (madeD x).2.2.1 (madeD x).2.1:=by
 obtain ⟨g1,g2,g3⟩:=genD_ok h
 have b2:=below_bd (belowC (genD x).1 99).1 (n:=5) (by decide)
 have b3:=below_bd (belowC (belowC (genD x).1 99).1 5).1 (n:=3) (by decide)
 have hv:=validG_t g2
 have hk:=hkD_ok (s:=(belowC (genD x).1 99).2) hv.2.2.2
 have hs:hsOK (hkD (belowC (genD x).1 99).2 (colsOf (genD x).2.2)) (genD x).2:=⟨hk.1,g2,hk.2.symm⟩
 have hky:isKey (1+(belowC (belowC (genD x).1 99).1 5).2)=true:=inR_true (by omega)
 refine ⟨below_ok (below_ok (below_ok g1)),⟨g2,g3⟩,hs,_,_,⟨hky,b3.1,by omega⟩,?_⟩
 show (makeMan _ _ _ _).1=_
 rw [← makeMan_yes hky (mkMan_ok hs (by omega))];rfl

theorem codePk_ok {g:T26} {cs:List Int} (h:validG g=true) (hc:LA.VokB g.2.length cs):codePk g cs=((g.1,cs,combS g.2 cs),true):=by
 have hg:=validG_t h
 rw [← codePk_y h (validV_of hc (by omega)) hc.1,genC h hc]
theorem combS_ok {g:T26} {cs:List Int} (h:validG g=true) (hc:LA.VokB g.2.length cs):LA.VokB (g.2.getD 0 []).length (combS g.2 cs):=by
 have hm:=validM_ok (validG_t h).2.2.1
 exact combTo_ok rfl (fun j=>hc.rng j) g.2.length fun j hj=>hm _ (LA.getD_in hj)
def pktD (x0:T112) (x1:T26):T112×T41:=((vecD x0 ((List.length x1.2:Nat):Int)).1,(codePk x1 (vecD x0 ((List.length x1.2:Nat):Int)).2).1)
abbrev Q_spec_l11Packet:=(fun (x0:T112) (x1:T26)=>0≤x0.2.1∧validG x1=true)
def B_spec_l11Packet:BS:={ t:=112,s:=s112,dom:=[s26],cod:=[s41],pre:=fun y x=>Q_spec_l11Packet y x.1,upd:=fun y x=>(pktD y x.1).1,g:=fun y x=>((pktD y x.1).2,()) }
def S_spec_l11Packet:Sum:=bSum 62 B_spec_l11Packet
def S_spec_l11Packet_tab:List (Nat×Sum):=[(104,S_spec_l5Vector),(38,S_spec_CodePacket)]
theorem S_spec_l11Packet_ok:FnOK Tryz.prog 62 S_spec_l11Packet:=by
 refine at_enterB (B:=B_spec_l11Packet) 18 (fun v y x=>⟨[(0,aP 1 0),(1,aG [cI x.1.1,.ro s39 x.1.2])],[(1,oX 112 [.ro (.u8 5) y.1,cI y.2.1,cI y.2.2]),(2,oP 1 v)]⟩) Tryz.func62 rfl (by kernel_rfl) (fun v y x=>rfl) ?_
 rintro w0 Z0 b0 x0 ⟨x1,u⟩ a w
 revert x0 x1
 intro (x0:T112) (x1:T26) hpre hlens0 hlens h
 replace h:At w0 Z0 [b0] 18 ⟨[(0,aP 1 0),(1,aG [cI x1.1,.ro s39 x1.2])],[(1,oX 112 [.ro (.u8 5) x0.1,cI x0.2.1,cI x0.2.2]),(2,oP 1 (Value.pointer (some ⟨b0,0,none⟩)))]⟩ a w:=h
 replace hpre:Q_spec_l11Packet x0 x1:=hpre
 have hl1:List.length x0.1≤9223372036854775807:=hlens0.1.1
 have hu0:u8L x0.1:=hlens0.1.2
 have hl2:List.length x1.2≤9223372036854775807:=hlens.1.2.1
 have hT:TabOK Tryz.prog S_spec_l11Packet_tab:=(.cons S_spec_l5Vector_ok (.cons S_spec_CodePacket_ok .nil))
 have hvg:=validG_t hpre.2
 have hvd:=vecD_ok (n:=((List.length x1.2:Nat):Int)) hpre.1
 have hvl:=hvd.2.1
 have hgf:=validG_fit hpre.2
 refine wp_seq ?_
 refine at_regq [{ ids:=[3] },{ ids:=[4] }] { ts:=[0,3,4],os:=[1,2,3,4] } [] gamOK hT h (by kernel_rfl) trivial fun a w h=>then_normal (wp_seq ?_)
 refine at_anyq [{},{},{},{},{},{ ids:=[5] },{ ids:=[6,7] },{},{},{},{ ids:=[8] },{},{}] { ts:=[4,5],os:=[1,2,4,6,7,8] } [B_spec_l5Vector.pre x0 (((List.length x1.2:Nat):Int),()),Q_spec_CodePacket x1 (vecD x0 ((List.length x1.2:Nat):Int)).2] gamOK hT mixed h (by kernel_rfl) ⟨(by exact ⟨hpre.1,by omega⟩),(by exact ⟨hgf,Sh.fit_len rfl (by omega)⟩),trivial⟩ fun a w h=>then_normal (wp_seq ?_)
 refine at_regq [] { ts:=[4],os:=[1,2,4,6,7] } [] gamOK hT h (by kernel_rfl) trivial fun a w h=>then_normal (wp_ret ?_)
 have hr1:(((vecD x0 ((List.length x1.2:Nat):Int)).1,(codePk x1 (vecD x0 ((List.length x1.2:Nat):Int)).2).1):T112×T41)=pktD x0 x1:=by rfl
 exact at_returnB (B:=B_spec_l11Packet) (c0:=x0) (x:=(x1,())) ((vecD x0 ((List.length x1.2:Nat):Int)).1) ((codePk x1 (vecD x0 ((List.length x1.2:Nat):Int)).2).1,()) [(Value.pointer (some ⟨b0,0,none⟩))=(Value.pointer (some ⟨b0,0,none⟩))] h (by kernel_rfl) ⟨rfl,trivial⟩ (congrArg (a₁:=((vecD x0 ((List.length x1.2:Nat):Int)).1,(codePk x1 (vecD x0 ((List.length x1.2:Nat):Int)).2).1)) (a₂:=pktD x0 x1) (fun (z:T112×T41)=>z.1) hr1) (congrArg (a₁:=((vecD x0 ((List.length x1.2:Nat):Int)).1,(codePk x1 (vecD x0 ((List.length x1.2:Nat):Int)).2).1)) (a₂:=pktD x0 x1) (fun (z:T112×T41)=>(z.2,())) hr1)
theorem pktD_ok {x:T112} {g:T26} (h:0≤x.2.1) (hg:validG g=true):0≤(pktD x g).1.2.1∧(pktD x g).2.1=g.1∧LA.VokB g.2.length (pktD x g).2.2.1∧(pktD x g).2.2.2=combS g.2 (pktD x g).2.2.1:=by
 have hvd:=vecD_ok (n:=((List.length g.2:Nat):Int)) h
 have hv2:=hvd.2
 rw [Int.toNat_natCast] at hv2
 unfold pktD
 rw [codePk_ok hg hv2]
 exact ⟨hvd.1,rfl,hv2,rfl⟩
theorem pktD_fit {x:T112} {g:T26} (h:0≤x.2.1) (hg:validG g=true):Sh.fit s41 (pktD x g).2:=by
 obtain ⟨h1,h2,h3,h4⟩:=pktD_ok h hg
 have hv:=validG_t hg
 have hc:=combS_ok hg h3
 have hco:=colsOf_at (m:=g.2) (by omega)
 refine ⟨trivial,⟨by have:=h3.1;omega,fun _ _=>trivial⟩,⟨?_,fun _ _=>trivial⟩⟩
 rw [h4];have:=hc.1;omega
theorem pktD_len {x:T112} {g:T26} (h:0≤x.2.1) (hg:validG g=true):List.length (pktD x g).2.2.1≤8∧(1≤List.length (pktD x g).2.2.2∧List.length (pktD x g).2.2.2≤16)∧∀ j,0≤(pktD x g).2.2.2.getD j 0∧(pktD x g).2.2.2.getD j 0≤1018:=by
 obtain ⟨_,_,h3,h4⟩:=pktD_ok h hg
 have hv:=validG_t hg
 have hc:=combS_ok hg h3
 have hco:=colsOf_at (m:=g.2) (by omega)
 rw [h4]
 exact ⟨by have:=h3.1;omega,by have:=hc.1;omega,fun j=>hc.rng j⟩

@[irreducible]
def anyP (x0:T112) (x1:T26):T112×T41:=(if (belowC (pktD x0 x1).1 12).2=0 then ((pickC (belowC (pktD x0 x1).1 12).1 ([(-1),7,1000000000000,1000000000001])).1,((pickC (belowC (pktD x0 x1).1 12).1 ([(-1),7,1000000000000,1000000000001])).2,(pktD x0 x1).2.2)) else (if (belowC (pktD x0 x1).1 12).2=1 then ((anyV (belowC (belowC (pktD x0 x1).1 12).1 5).1 (belowC (belowC (pktD x0 x1).1 12).1 5).2).1,((pktD x0 x1).2.1,((anyV (belowC (belowC (pktD x0 x1).1 12).1 5).1 (belowC (belowC (pktD x0 x1).1 12).1 5).2).2,(pktD x0 x1).2.2.2))) else (if (belowC (pktD x0 x1).1 12).2=2 then ((anyV (belowC (belowC (pktD x0 x1).1 12).1 5).1 (belowC (belowC (pktD x0 x1).1 12).1 5).2).1,((pktD x0 x1).2.1,((pktD x0 x1).2.2.1,(anyV (belowC (belowC (pktD x0 x1).1 12).1 5).1 (belowC (belowC (pktD x0 x1).1 12).1 5).2).2))) else (if (belowC (pktD x0 x1).1 12).2=3 then (if ((List.length (pktD x0 x1).2.2.2:Nat):Int) > 0 then ((belowC (pktD x0 x1).1 12).1,((pktD x0 x1).2.1,((pktD x0 x1).2.2.1,(List.set (pktD x0 x1).2.2.2 0 (Int.tmod (((pktD x0 x1).2.2.2.getD 0 0)+1) 1019))))) else ((belowC (pktD x0 x1).1 12).1,(pktD x0 x1).2)) else ((belowC (pktD x0 x1).1 12).1,(pktD x0 x1).2)))))
abbrev Q_spec_l11Any:=(fun (x0:T112) (x1:T26)=>0≤x0.2.1∧validG x1=true)
def B_spec_l11Any:BS:={ t:=112,s:=s112,dom:=[s26],cod:=[s41],pre:=fun y x=>Q_spec_l11Any y x.1,upd:=fun y x=>(anyP y x.1).1,g:=fun y x=>((anyP y x.1).2,()) }
def S_spec_l11Any:Sum:=bSum 125 B_spec_l11Any
def S_spec_l11Any_tab:List (Nat×Sum):=[(62,S_spec_l11Packet),(54,S_spec_l1Below),(84,S_spec_l1Int),(158,S_spec_l5Any)]
theorem S_spec_l11Any_ok:FnOK Tryz.prog 125 S_spec_l11Any:=by
 refine at_enterB (B:=B_spec_l11Any) 47 (fun v y x=>⟨[(0,aP 1 0),(1,aG [cI x.1.1,.ro s39 x.1.2])],[(1,oX 112 [.ro (.u8 5) y.1,cI y.2.1,cI y.2.2]),(2,oP 1 v)]⟩) Tryz.func125 rfl (by kernel_rfl) (fun v y x=>rfl) ?_
 rintro w0 Z0 b0 x0 ⟨x1,u⟩ a w
 revert x0 x1
 intro (x0:T112) (x1:T26) hpre hlens0 hlens h
 replace h:At w0 Z0 [b0] 47 ⟨[(0,aP 1 0),(1,aG [cI x1.1,.ro s39 x1.2])],[(1,oX 112 [.ro (.u8 5) x0.1,cI x0.2.1,cI x0.2.2]),(2,oP 1 (Value.pointer (some ⟨b0,0,none⟩)))]⟩ a w:=h
 replace hpre:Q_spec_l11Any x0 x1:=hpre
 have hl1:List.length x0.1≤9223372036854775807:=hlens0.1.1
 have hu0:u8L x0.1:=hlens0.1.2
 have hl2:List.length x1.2≤9223372036854775807:=hlens.1.2.1
 have hT:TabOK Tryz.prog S_spec_l11Any_tab:=(.cons S_spec_l11Packet_ok (.cons S_spec_l1Below_ok (.cons S_spec_l1Int_ok (.cons S_spec_l5Any_ok .nil))))
 have hpk:=pktD_ok hpre.1 hpre.2
 have hpl:=pktD_len hpre.1 hpre.2
 have hpp:=hpl.2.1
 have hp0:=hpl.2.2 0
 have hcp:=hpk.1
 have hcb:=below_ok (n:=12) hcp
 have hb5:=below_bd (belowC (pktD x0 x1).1 12).1 (n:=5) (by decide)
 refine wp_seq ?_
 refine at_regq [{ ids:=[3] },{ ids:=[4] }] { ts:=[0,3,4],os:=[1,2,3,4] } [] gamOK hT h (by kernel_rfl) trivial fun a w h=>then_normal (wp_seq ?_)
 refine at_regq [{},{},{ ids:=[5,6] },{ ids:=[7] }] { ts:=[0,4,5],os:=[1,2,4,5,6,7] } [B_spec_l11Packet.pre x0 (x1,())] gamOK hT h (by kernel_rfl) ⟨(by exact hpre),trivial⟩ fun a w h=>then_normal (wp_seq (wp_seq ?_))
 refine at_regq [] { ts:=[0,4,5,10],os:=[1,2,4,5,6,7] } [B_spec_l1Below.pre (pktD x0 x1).1 (12,())] gamOK hT h (by kernel_rfl) ⟨(by exact (pktD_ok hpre.1 hpre.2).1),trivial⟩ fun a w h=>then_normal (wp_block (wp_seq ?_))
 refine at_regq [] { ts:=[0,4,5,10,11],os:=[1,2,4,5,6,7] } [] gamOK hT h (by kernel_rfl) trivial fun a w h=>then_normal ?_
 refine at_test (decide ((belowC (pktD x0 x1).1 12).2=0)) h (by kernel_rfl) (fun h1=>?_) (fun h1=>?_)
 ·replace h1 : (belowC (pktD x0 x1).1 12).2 = 0 := of_decide_eq_true h1
  refine at_regq [{},{ ids:=[8],frz:=true }] { ts:=[4,5],os:=[1,2,4,5,6,7] } [B_spec_l1Int.pre (belowC (pktD x0 x1).1 12).1 ([(-1),7,1000000000000,1000000000001],())] gamOK hT h (by kernel_rfl) ⟨(by exact ⟨(below_ok (pktD_ok hpre.1 hpre.2).1),by simp,by simp⟩),trivial⟩ fun a w h=>in_normal (then_normal (wp_seq ?_))
  refine at_regq [] { ts:=[4],os:=[1,2,4,5,6] } [] gamOK hT h (by kernel_rfl) trivial fun a w h=>then_normal (wp_ret ?_)
  have hr2:(((pickC (belowC (pktD x0 x1).1 12).1 ([(-1),7,1000000000000,1000000000001])).1,((pickC (belowC (pktD x0 x1).1 12).1 ([(-1),7,1000000000000,1000000000001])).2,(pktD x0 x1).2.2)):T112×T41)=anyP x0 x1:=by (unfold anyP;rw [if_pos h1])
  exact at_returnB (B:=B_spec_l11Any) (c0:=x0) (x:=(x1,())) ((pickC (belowC (pktD x0 x1).1 12).1 ([(-1),7,1000000000000,1000000000001])).1) (((pickC (belowC (pktD x0 x1).1 12).1 ([(-1),7,1000000000000,1000000000001])).2,(pktD x0 x1).2.2),()) [(Value.pointer (some ⟨b0,0,none⟩))=(Value.pointer (some ⟨b0,0,none⟩))] h (by kernel_rfl) ⟨rfl,trivial⟩ (congrArg (a₁:=((pickC (belowC (pktD x0 x1).1 12).1 ([(-1),7,1000000000000,1000000000001])).1,((pickC (belowC (pktD x0 x1).1 12).1 ([(-1),7,1000000000000,1000000000001])).2,(pktD x0 x1).2.2))) (a₂:=anyP x0 x1) (fun (z:T112×T41)=>z.1) hr2) (congrArg (a₁:=((pickC (belowC (pktD x0 x1).1 12).1 ([(-1),7,1000000000000,1000000000001])).1,((pickC (belowC (pktD x0 x1).1 12).1 ([(-1),7,1000000000000,1000000000001])).2,(pktD x0 x1).2.2))) (a₂:=anyP x0 x1) (fun (z:T112×T41)=>(z.2,())) hr2)
 ·replace h1 : ¬ ((belowC (pktD x0 x1).1 12).2 = 0) := of_decide_eq_false h1
  refine wp_seq ?_
  refine at_regq [] { ts:=[0,4,5,10,17],os:=[1,2,4,5,6,7] } [] gamOK hT h (by kernel_rfl) trivial fun a w h=>then_normal ?_
  refine at_test (decide ((belowC (pktD x0 x1).1 12).2=1)) h (by kernel_rfl) (fun h3=>?_) (fun h3=>?_)
  ·replace h3 : (belowC (pktD x0 x1).1 12).2 = 1 := of_decide_eq_true h3
   refine at_regq [{},{},{},{ ids:=[9] }] { ts:=[4,5],os:=[1,2,4,6,7,9] } [B_spec_l1Below.pre (belowC (pktD x0 x1).1 12).1 (5,()),B_spec_l5Any.pre (belowC (belowC (pktD x0 x1).1 12).1 5).1 ((belowC (belowC (pktD x0 x1).1 12).1 5).2,())] gamOK hT h (by kernel_rfl) ⟨(by exact (below_ok (pktD_ok hpre.1 hpre.2).1)),(by exact ⟨(below_ok (below_ok (pktD_ok hpre.1 hpre.2).1)),by omega⟩),trivial⟩ fun a w h=>in_normal (then_normal (wp_seq ?_))
   refine at_regq [] { ts:=[4],os:=[1,2,4,6,9] } [] gamOK hT h (by kernel_rfl) trivial fun a w h=>then_normal (wp_ret ?_)
   have hr4:(((anyV (belowC (belowC (pktD x0 x1).1 12).1 5).1 (belowC (belowC (pktD x0 x1).1 12).1 5).2).1,((pktD x0 x1).2.1,((anyV (belowC (belowC (pktD x0 x1).1 12).1 5).1 (belowC (belowC (pktD x0 x1).1 12).1 5).2).2,(pktD x0 x1).2.2.2))):T112×T41)=anyP x0 x1:=by (unfold anyP;rw [if_neg h1,if_pos h3])
   exact at_returnB (B:=B_spec_l11Any) (c0:=x0) (x:=(x1,())) ((anyV (belowC (belowC (pktD x0 x1).1 12).1 5).1 (belowC (belowC (pktD x0 x1).1 12).1 5).2).1) (((pktD x0 x1).2.1,((anyV (belowC (belowC (pktD x0 x1).1 12).1 5).1 (belowC (belowC (pktD x0 x1).1 12).1 5).2).2,(pktD x0 x1).2.2.2)),()) [(Value.pointer (some ⟨b0,0,none⟩))=(Value.pointer (some ⟨b0,0,none⟩))] h (by kernel_rfl) ⟨rfl,trivial⟩ (congrArg (a₁:=((anyV (belowC (belowC (pktD x0 x1).1 12).1 5).1 (belowC (belowC (pktD x0 x1).1 12).1 5).2).1,((pktD x0 x1).2.1,((anyV (belowC (belowC (pktD x0 x1).1 12).1 5).1 (belowC (belowC (pktD x0 x1).1 12).1 5).2).2,(pktD x0 x1).2.2.2)))) (a₂:=anyP x0 x1) (fun (z:T112×T41)=>z.1) hr4) (congrArg (a₁:=((anyV (belowC (belowC (pktD x0 x1).1 12).1 5).1 (belowC (belowC (pktD x0 x1).1 12).1 5).2).1,((pktD x0 x1).2.1,((anyV (belowC (belowC (pktD x0 x1).1 12).1 5).1 (belowC (belowC (pktD x0 x1).1 12).1 5).2).2,(pktD x0 x1).2.2.2)))) (a₂:=anyP x0 x1) (fun (z:T112×T41)=>(z.2,())) hr4)
  ·replace h3 : ¬ ((belowC (pktD x0 x1).1 12).2 = 1) := of_decide_eq_false h3
   refine wp_seq ?_
   refine at_regq [] { ts:=[0,4,5,10,24],os:=[1,2,4,5,6,7] } [] gamOK hT h (by kernel_rfl) trivial fun a w h=>then_normal ?_
   refine at_test (decide ((belowC (pktD x0 x1).1 12).2=2)) h (by kernel_rfl) (fun h5=>?_) (fun h5=>?_)
   ·replace h5 : (belowC (pktD x0 x1).1 12).2 = 2 := of_decide_eq_true h5
    refine at_regq [{},{},{},{ ids:=[10] }] { ts:=[4,5],os:=[1,2,4,5,7,10] } [B_spec_l1Below.pre (belowC (pktD x0 x1).1 12).1 (5,()),B_spec_l5Any.pre (belowC (belowC (pktD x0 x1).1 12).1 5).1 ((belowC (belowC (pktD x0 x1).1 12).1 5).2,())] gamOK hT h (by kernel_rfl) ⟨(by exact (below_ok (pktD_ok hpre.1 hpre.2).1)),(by exact ⟨(below_ok (below_ok (pktD_ok hpre.1 hpre.2).1)),by omega⟩),trivial⟩ fun a w h=>in_normal (then_normal (wp_seq ?_))
    refine at_regq [] { ts:=[4],os:=[1,2,4,5,10] } [] gamOK hT h (by kernel_rfl) trivial fun a w h=>then_normal (wp_ret ?_)
    have hr6:(((anyV (belowC (belowC (pktD x0 x1).1 12).1 5).1 (belowC (belowC (pktD x0 x1).1 12).1 5).2).1,((pktD x0 x1).2.1,((pktD x0 x1).2.2.1,(anyV (belowC (belowC (pktD x0 x1).1 12).1 5).1 (belowC (belowC (pktD x0 x1).1 12).1 5).2).2))):T112×T41)=anyP x0 x1:=by (unfold anyP;rw [if_neg h1,if_neg h3,if_pos h5])
    exact at_returnB (B:=B_spec_l11Any) (c0:=x0) (x:=(x1,())) ((anyV (belowC (belowC (pktD x0 x1).1 12).1 5).1 (belowC (belowC (pktD x0 x1).1 12).1 5).2).1) (((pktD x0 x1).2.1,((pktD x0 x1).2.2.1,(anyV (belowC (belowC (pktD x0 x1).1 12).1 5).1 (belowC (belowC (pktD x0 x1).1 12).1 5).2).2)),()) [(Value.pointer (some ⟨b0,0,none⟩))=(Value.pointer (some ⟨b0,0,none⟩))] h (by kernel_rfl) ⟨rfl,trivial⟩ (congrArg (a₁:=((anyV (belowC (belowC (pktD x0 x1).1 12).1 5).1 (belowC (belowC (pktD x0 x1).1 12).1 5).2).1,((pktD x0 x1).2.1,((pktD x0 x1).2.2.1,(anyV (belowC (belowC (pktD x0 x1).1 12).1 5).1 (belowC (belowC (pktD x0 x1).1 12).1 5).2).2)))) (a₂:=anyP x0 x1) (fun (z:T112×T41)=>z.1) hr6) (congrArg (a₁:=((anyV (belowC (belowC (pktD x0 x1).1 12).1 5).1 (belowC (belowC (pktD x0 x1).1 12).1 5).2).1,((pktD x0 x1).2.1,((pktD x0 x1).2.2.1,(anyV (belowC (belowC (pktD x0 x1).1 12).1 5).1 (belowC (belowC (pktD x0 x1).1 12).1 5).2).2)))) (a₂:=anyP x0 x1) (fun (z:T112×T41)=>(z.2,())) hr6)
   ·replace h5 : ¬ ((belowC (pktD x0 x1).1 12).2 = 2) := of_decide_eq_false h5
    refine wp_seq ?_
    refine at_regq [] { ts:=[4,5,31],os:=[1,2,4,5,6,7] } [] gamOK hT h (by kernel_rfl) trivial fun a w h=>then_normal ?_
    refine at_test (decide ((belowC (pktD x0 x1).1 12).2=3)) h (by kernel_rfl) (fun h7=>?_) (fun h7=>?_)
    ·replace h7 : (belowC (pktD x0 x1).1 12).2 = 3 := of_decide_eq_true h7
     refine wp_seq ?_
     refine at_regq [] { ts:=[4,5,36],os:=[1,2,4,5,6,7] } [] gamOK hT h (by kernel_rfl) trivial fun a w h=>then_normal ?_
     refine at_test (decide (((List.length (pktD x0 x1).2.2.2:Nat):Int) > 0)) h (by kernel_rfl) (fun h8=>?_) (fun h8=>?_)
     ·replace h8 : ((List.length (pktD x0 x1).2.2.2 : Nat) : Int) > 0 := of_decide_eq_true h8
      refine at_anyq [{},{},{},{},{},{},{ nw:=true },{},{},{}] { ts:=[4,5],os:=[1,2,4,5,6,7] } [(0:Int)≤0∧0 < ((List.length (pktD x0 x1).2.2.2:Nat):Int),0 < List.length (pktD x0 x1).2.2.2,I64 (((pktD x0 x1).2.2.2.getD 0 0)+1),(1019:Int)≠0,(0:Int)≤0∧0 < ((List.length (pktD x0 x1).2.2.2:Nat):Int),0 < List.length (pktD x0 x1).2.2.2] gamOK hT mixed h (by kernel_rfl) ⟨(by refine ⟨?_,?_⟩<;>(first | omega | (simp only [lsA];omega) | (simp<;>omega))),(by first | omega | (simp only [lsA];omega) | (simp<;>omega)),⟨by first | omega | (simp only [lsA];omega) | (simp<;>omega),by first | omega | (simp only [lsA];omega) | (simp<;>omega)⟩,(by first | omega | (simp only [lsA];omega) | (simp<;>omega)),(by refine ⟨?_,?_⟩<;>(first | omega | (simp only [lsA];omega) | (simp<;>omega))),(by first | omega | (simp only [lsA];omega) | (simp<;>omega)),trivial⟩ fun a w h=>in_normal (then_normal (wp_seq ?_))
      refine at_regq [] { ts:=[4],os:=[1,2,4,5,6] } [] gamOK hT h (by kernel_rfl) trivial fun a w h=>then_normal (wp_ret ?_)
      have hr9:(((belowC (pktD x0 x1).1 12).1,((pktD x0 x1).2.1,((pktD x0 x1).2.2.1,(List.set (pktD x0 x1).2.2.2 0 (Int.tmod (((pktD x0 x1).2.2.2.getD 0 0)+1) 1019))))):T112×T41)=anyP x0 x1:=by (unfold anyP;rw [if_neg h1,if_neg h3,if_neg h5,if_pos h7,if_pos h8])
      exact at_returnB (B:=B_spec_l11Any) (c0:=x0) (x:=(x1,())) ((belowC (pktD x0 x1).1 12).1) (((pktD x0 x1).2.1,((pktD x0 x1).2.2.1,(List.set (pktD x0 x1).2.2.2 0 (Int.tmod (((pktD x0 x1).2.2.2.getD 0 0)+1) 1019)))),()) [(Value.pointer (some ⟨b0,0,none⟩))=(Value.pointer (some ⟨b0,0,none⟩))] h (by kernel_rfl) ⟨rfl,trivial⟩ (congrArg (a₁:=((belowC (pktD x0 x1).1 12).1,((pktD x0 x1).2.1,((pktD x0 x1).2.2.1,(List.set (pktD x0 x1).2.2.2 0 (Int.tmod (((pktD x0 x1).2.2.2.getD 0 0)+1) 1019)))))) (a₂:=anyP x0 x1) (fun (z:T112×T41)=>z.1) hr9) (congrArg (a₁:=((belowC (pktD x0 x1).1 12).1,((pktD x0 x1).2.1,((pktD x0 x1).2.2.1,(List.set (pktD x0 x1).2.2.2 0 (Int.tmod (((pktD x0 x1).2.2.2.getD 0 0)+1) 1019)))))) (a₂:=anyP x0 x1) (fun (z:T112×T41)=>(z.2,())) hr9)
     ·replace h8 : ¬ (((List.length (pktD x0 x1).2.2.2 : Nat) : Int) > 0) := of_decide_eq_false h8
      refine wp_skip (in_normal (then_normal (wp_seq ?_)))
      refine at_regq [] { ts:=[4],os:=[1,2,4,5,6] } [] gamOK hT h (by kernel_rfl) trivial fun a w h=>then_normal (wp_ret ?_)
      have hr10:(((belowC (pktD x0 x1).1 12).1,(pktD x0 x1).2):T112×T41)=anyP x0 x1:=by (unfold anyP;rw [if_neg h1,if_neg h3,if_neg h5,if_pos h7,if_neg h8])
      exact at_returnB (B:=B_spec_l11Any) (c0:=x0) (x:=(x1,())) ((belowC (pktD x0 x1).1 12).1) ((pktD x0 x1).2,()) [(Value.pointer (some ⟨b0,0,none⟩))=(Value.pointer (some ⟨b0,0,none⟩))] h (by kernel_rfl) ⟨rfl,trivial⟩ (congrArg (a₁:=((belowC (pktD x0 x1).1 12).1,(pktD x0 x1).2)) (a₂:=anyP x0 x1) (fun (z:T112×T41)=>z.1) hr10) (congrArg (a₁:=((belowC (pktD x0 x1).1 12).1,(pktD x0 x1).2)) (a₂:=anyP x0 x1) (fun (z:T112×T41)=>(z.2,())) hr10)
    ·replace h7 : ¬ ((belowC (pktD x0 x1).1 12).2 = 3) := of_decide_eq_false h7
     refine wp_skip (in_normal (then_normal (wp_seq ?_)))
     refine at_regq [] { ts:=[4],os:=[1,2,4,5,6] } [] gamOK hT h (by kernel_rfl) trivial fun a w h=>then_normal (wp_ret ?_)
     have hr11:(((belowC (pktD x0 x1).1 12).1,(pktD x0 x1).2):T112×T41)=anyP x0 x1:=by (unfold anyP;rw [if_neg h1,if_neg h3,if_neg h5,if_neg h7])
     exact at_returnB (B:=B_spec_l11Any) (c0:=x0) (x:=(x1,())) ((belowC (pktD x0 x1).1 12).1) ((pktD x0 x1).2,()) [(Value.pointer (some ⟨b0,0,none⟩))=(Value.pointer (some ⟨b0,0,none⟩))] h (by kernel_rfl) ⟨rfl,trivial⟩ (congrArg (a₁:=((belowC (pktD x0 x1).1 12).1,(pktD x0 x1).2)) (a₂:=anyP x0 x1) (fun (z:T112×T41)=>z.1) hr11) (congrArg (a₁:=((belowC (pktD x0 x1).1 12).1,(pktD x0 x1).2)) (a₂:=anyP x0 x1) (fun (z:T112×T41)=>(z.2,())) hr11)
theorem anyP_ok {x:T112} {g:T26} (h:0≤x.2.1) (hg:validG g=true):0≤(anyP x g).1.2.1∧List.length (anyP x g).2.2.1≤41∧List.length (anyP x g).2.2.2≤41:=by
 have hpk:=pktD_ok h hg
 have hpl:=pktD_len h hg
 have h1:=hpk.1
 have h2:=below_ok (n:=12) h1
 have hb5:=below_bd (belowC (pktD x g).1 12).1 (n:=5) (by decide)
 have ha:=anyV_ok (n:=(belowC (belowC (pktD x g).1 12).1 5).2) (below_ok (n:=5) h2) (by omega)
 unfold anyP
 (repeat' split) <;> refine ⟨?_, ?_, ?_⟩ <;> first
  | exact ha.1
  | exact h2
  | exact pickC_ok h2
  | (dsimp only;omega)
  | (simp;omega)
theorem anyP_fit {x:T112} {g:T26} (h:0≤x.2.1) (hg:validG g=true):Sh.fit s41 (anyP x g).2:=⟨trivial,⟨by have:=(anyP_ok h hg).2.1;omega,fun _ _=>trivial⟩,⟨by have:=(anyP_ok h hg).2.2;omega,fun _ _=>trivial⟩⟩

@[irreducible]
def anyM (x0:T112):T112×T26×(List Int)×T56:=(if (belowC (madeD x0).1 12).2=0 then ((pickC (belowC (madeD x0).1 12).1 ([(-1),7,8])).1,(madeD x0).2.1,(madeD x0).2.2.1,((pickC (belowC (madeD x0).1 12).1 ([(-1),7,8])).2,(madeD x0).2.2.2.2)) else (if (belowC (madeD x0).1 12).2=1 then ((pickC (belowC (madeD x0).1 12).1 ([0,(madeD x0).2.2.2.2.2.1+1,9])).1,(madeD x0).2.1,(madeD x0).2.2.1,((madeD x0).2.2.2.1,((madeD x0).2.2.2.2.1,((pickC (belowC (madeD x0).1 12).1 ([0,(madeD x0).2.2.2.2.2.1+1,9])).2,(madeD x0).2.2.2.2.2.2)))) else (if (belowC (madeD x0).1 12).2=2 then ((grpE (belowC (madeD x0).1 12).1).1,(madeD x0).2.1,(madeD x0).2.2.1,((madeD x0).2.2.2.1,((madeD x0).2.2.2.2.1,((madeD x0).2.2.2.2.2.1,((madeD x0).2.2.2.2.2.2.1,((List.set (madeD x0).2.2.2.2.2.2.2.1 0 (grpE (belowC (madeD x0).1 12).1).2),(madeD x0).2.2.2.2.2.2.2.2)))))) else (if (belowC (madeD x0).1 12).2=3 then ((pickC (belowC (madeD x0).1 12).1 ([(-1),5,2147483646,2147483647])).1,(madeD x0).2.1,(madeD x0).2.2.1,((madeD x0).2.2.2.1,((madeD x0).2.2.2.2.1,((madeD x0).2.2.2.2.2.1,((madeD x0).2.2.2.2.2.2.1,((madeD x0).2.2.2.2.2.2.2.1,(pickC (belowC (madeD x0).1 12).1 ([(-1),5,2147483646,2147483647])).2)))))) else (if (belowC (madeD x0).1 12).2=4 then ((keyE (belowC (madeD x0).1 12).1 (madeD x0).2.2.2.2.2.2.1).1,(madeD x0).2.1,(keyE (belowC (madeD x0).1 12).1 (madeD x0).2.2.2.2.2.2.1).2,(madeD x0).2.2.2) else ((belowC (madeD x0).1 12).1,(madeD x0).2.1,(madeD x0).2.2.1,(madeD x0).2.2.2))))))
abbrev Q_spec_l19Any:=(fun (x0:T112)=>0≤x0.2.1)
def B_spec_l19Any:BS:={ t:=112,s:=s112,dom:=[],cod:=[s26,s54,s56],pre:=fun y x=>Q_spec_l19Any y,upd:=fun y x=>(anyM y).1,g:=fun y x=>((anyM y).2.1,((anyM y).2.2.1,((anyM y).2.2.2,()))) }
def S_spec_l19Any:Sum:=bSum 81 B_spec_l19Any
def S_spec_l19Any_tab:List (Nat×Sum):=[(122,S_spec_l19Made),(54,S_spec_l1Below),(84,S_spec_l1Int),(123,S_spec_l4Group),(124,S_spec_l18Key)]
theorem S_spec_l19Any_ok:FnOK Tryz.prog 81 S_spec_l19Any:=by
 refine at_enterB (B:=B_spec_l19Any) 53 (fun v y x=>⟨[(0,aP 1 0)],[(1,oX 112 [.ro (.u8 5) y.1,cI y.2.1,cI y.2.2]),(2,oP 1 v)]⟩) Tryz.func81 rfl (by kernel_rfl) (fun v y x=>rfl) ?_
 rintro w0 Z0 b0 x0 ⟨u⟩ a w
 revert x0
 intro (x0:T112) hpre hlens0 hlens h
 replace h:At w0 Z0 [b0] 53 ⟨[(0,aP 1 0)],[(1,oX 112 [.ro (.u8 5) x0.1,cI x0.2.1,cI x0.2.2]),(2,oP 1 (Value.pointer (some ⟨b0,0,none⟩)))]⟩ a w:=h
 replace hpre:Q_spec_l19Any x0:=hpre
 have hl1:List.length x0.1≤9223372036854775807:=hlens0.1.1
 have hu0:u8L x0.1:=hlens0.1.2
 have hT:TabOK Tryz.prog S_spec_l19Any_tab:=(.cons S_spec_l19Made_ok (.cons S_spec_l1Below_ok (.cons S_spec_l1Int_ok (.cons S_spec_l4Group_ok (.cons S_spec_l18Key_ok .nil)))))
 obtain ⟨hm1,hm2,hm3,ms,msrc,hm4,hm5⟩:=madeD_ok hpre
 have hmb:=below_ok (n:=12) hm1
 have hmv:=validG_t hm2.1
 have hmz:(madeD x0).2.2.2.2.2.1=((List.length (madeD x0).2.1.2:Nat):Int):=by rw [hm5];rfl
 have hmw:(madeD x0).2.2.2.2.2.2.1=colsOf (madeD x0).2.1.2:=by rw [hm5];rfl
 have hml:List.length (madeD x0).2.2.2.2.2.2.2.1=List.length (madeD x0).2.1.2:=by rw [hm5];show List.length (hashSyms _ _)=_;unfold hashSyms;rw [if_pos hm3,List.length_map]
 refine wp_seq ?_
 refine at_regq [{ ids:=[3] },{ ids:=[4] },{ ids:=[5] }] { ts:=[0,2,3,4],os:=[1,2,3,4,5] } [] gamOK hT h (by kernel_rfl) trivial fun a w h=>then_normal (wp_seq ?_)
 refine at_regq [{},{ ids:=[6,7,8] },{},{},{},{},{ ids:=[9] },{ ids:=[10] },{ ids:=[11] }] { ts:=[0,2,3,4,5,6,7],os:=[1,2,3,4,5,6,7,8,9,10,11] } [B_spec_l19Made.pre x0 (())] gamOK hT h (by kernel_rfl) ⟨(by exact hpre),trivial⟩ fun a w h=>then_normal (wp_seq (wp_seq ?_))
 refine at_regq [] { ts:=[0,2,3,4,5,6,7,15],os:=[1,2,3,4,5,6,7,8,9,10,11] } [B_spec_l1Below.pre (madeD x0).1 (12,())] gamOK hT h (by kernel_rfl) ⟨(by exact (madeD_ok hpre).1),trivial⟩ fun a w h=>then_normal (wp_block (wp_seq ?_))
 refine at_regq [] { ts:=[0,2,3,4,5,6,7,15,16],os:=[1,2,3,4,5,6,7,8,9,10,11] } [] gamOK hT h (by kernel_rfl) trivial fun a w h=>then_normal ?_
 refine at_test (decide ((belowC (madeD x0).1 12).2=0)) h (by kernel_rfl) (fun h1=>?_) (fun h1=>?_)
 ·replace h1 : (belowC (madeD x0).1 12).2 = 0 := of_decide_eq_true h1
  refine at_regq [{},{ ids:=[12],frz:=true }] { ts:=[2,3,4,5,6,7],os:=[1,2,3,4,5,6,7,8,9,10,11] } [B_spec_l1Int.pre (belowC (madeD x0).1 12).1 ([(-1),7,8],())] gamOK hT h (by kernel_rfl) ⟨(by exact ⟨(below_ok (madeD_ok hpre).1),by simp,by simp⟩),trivial⟩ fun a w h=>in_normal (then_normal (wp_seq ?_))
  refine at_anyq [{},{},{},{},{},{}] { ts:=[2,3,4],os:=[1,2,3,4,5,6,7,8] } [] gamOK hT mixed h (by kernel_rfl) trivial fun a w h=>then_normal (wp_ret ?_)
  have hr2:(((pickC (belowC (madeD x0).1 12).1 ([(-1),7,8])).1,(madeD x0).2.1,(madeD x0).2.2.1,((pickC (belowC (madeD x0).1 12).1 ([(-1),7,8])).2,(madeD x0).2.2.2.2)):T112×T26×(List Int)×T56)=anyM x0:=by (unfold anyM;rw [if_pos h1])
  exact at_returnB (B:=B_spec_l19Any) (c0:=x0) (x:=(())) ((pickC (belowC (madeD x0).1 12).1 ([(-1),7,8])).1) ((madeD x0).2.1,((madeD x0).2.2.1,(((pickC (belowC (madeD x0).1 12).1 ([(-1),7,8])).2,(madeD x0).2.2.2.2),()))) [(Value.pointer (some ⟨b0,0,none⟩))=(Value.pointer (some ⟨b0,0,none⟩))] h (by kernel_rfl) ⟨rfl,trivial⟩ (congrArg (a₁:=((pickC (belowC (madeD x0).1 12).1 ([(-1),7,8])).1,(madeD x0).2.1,(madeD x0).2.2.1,((pickC (belowC (madeD x0).1 12).1 ([(-1),7,8])).2,(madeD x0).2.2.2.2))) (a₂:=anyM x0) (fun (z:T112×T26×(List Int)×T56)=>z.1) hr2) (congrArg (a₁:=((pickC (belowC (madeD x0).1 12).1 ([(-1),7,8])).1,(madeD x0).2.1,(madeD x0).2.2.1,((pickC (belowC (madeD x0).1 12).1 ([(-1),7,8])).2,(madeD x0).2.2.2.2))) (a₂:=anyM x0) (fun (z:T112×T26×(List Int)×T56)=>(z.2.1,z.2.2.1,z.2.2.2,())) hr2)
 ·replace h1 : ¬ ((belowC (madeD x0).1 12).2 = 0) := of_decide_eq_false h1
  refine wp_seq ?_
  refine at_regq [] { ts:=[0,2,3,4,5,6,7,15,22],os:=[1,2,3,4,5,6,7,8,9,10,11] } [] gamOK hT h (by kernel_rfl) trivial fun a w h=>then_normal ?_
  refine at_test (decide ((belowC (madeD x0).1 12).2=1)) h (by kernel_rfl) (fun h3=>?_) (fun h3=>?_)
  ·replace h3 : (belowC (madeD x0).1 12).2 = 1 := of_decide_eq_true h3
   refine at_regq [{},{},{},{ nw:=true },{ ids:=[13],frz:=true }] { ts:=[2,3,4,5,6,7],os:=[1,2,3,4,5,6,7,8,9,10,11] } [I64 ((madeD x0).2.2.2.2.2.1+1),B_spec_l1Int.pre (belowC (madeD x0).1 12).1 ([0,(madeD x0).2.2.2.2.2.1+1,9],())] gamOK hT h (by kernel_rfl) ⟨⟨by first | omega | (simp only [lsA];omega) | (simp<;>omega),by first | omega | (simp only [lsA];omega) | (simp<;>omega)⟩,(by exact ⟨(below_ok (madeD_ok hpre).1),by simp,by simp⟩),trivial⟩ fun a w h=>in_normal (then_normal (wp_seq ?_))
   refine at_anyq [{},{},{},{},{},{}] { ts:=[2,3,4],os:=[1,2,3,4,5,6,7,8] } [] gamOK hT mixed h (by kernel_rfl) trivial fun a w h=>then_normal (wp_ret ?_)
   have hr4:(((pickC (belowC (madeD x0).1 12).1 ([0,(madeD x0).2.2.2.2.2.1+1,9])).1,(madeD x0).2.1,(madeD x0).2.2.1,((madeD x0).2.2.2.1,((madeD x0).2.2.2.2.1,((pickC (belowC (madeD x0).1 12).1 ([0,(madeD x0).2.2.2.2.2.1+1,9])).2,(madeD x0).2.2.2.2.2.2)))):T112×T26×(List Int)×T56)=anyM x0:=by (unfold anyM;rw [if_neg h1,if_pos h3])
   exact at_returnB (B:=B_spec_l19Any) (c0:=x0) (x:=(())) ((pickC (belowC (madeD x0).1 12).1 ([0,(madeD x0).2.2.2.2.2.1+1,9])).1) ((madeD x0).2.1,((madeD x0).2.2.1,(((madeD x0).2.2.2.1,((madeD x0).2.2.2.2.1,((pickC (belowC (madeD x0).1 12).1 ([0,(madeD x0).2.2.2.2.2.1+1,9])).2,(madeD x0).2.2.2.2.2.2))),()))) [(Value.pointer (some ⟨b0,0,none⟩))=(Value.pointer (some ⟨b0,0,none⟩))] h (by kernel_rfl) ⟨rfl,trivial⟩ (congrArg (a₁:=((pickC (belowC (madeD x0).1 12).1 ([0,(madeD x0).2.2.2.2.2.1+1,9])).1,(madeD x0).2.1,(madeD x0).2.2.1,((madeD x0).2.2.2.1,((madeD x0).2.2.2.2.1,((pickC (belowC (madeD x0).1 12).1 ([0,(madeD x0).2.2.2.2.2.1+1,9])).2,(madeD x0).2.2.2.2.2.2))))) (a₂:=anyM x0) (fun (z:T112×T26×(List Int)×T56)=>z.1) hr4) (congrArg (a₁:=((pickC (belowC (madeD x0).1 12).1 ([0,(madeD x0).2.2.2.2.2.1+1,9])).1,(madeD x0).2.1,(madeD x0).2.2.1,((madeD x0).2.2.2.1,((madeD x0).2.2.2.2.1,((pickC (belowC (madeD x0).1 12).1 ([0,(madeD x0).2.2.2.2.2.1+1,9])).2,(madeD x0).2.2.2.2.2.2))))) (a₂:=anyM x0) (fun (z:T112×T26×(List Int)×T56)=>(z.2.1,z.2.2.1,z.2.2.2,())) hr4)
  ·replace h3 : ¬ ((belowC (madeD x0).1 12).2 = 1) := of_decide_eq_false h3
   refine wp_seq ?_
   refine at_regq [] { ts:=[0,2,3,4,5,6,7,15,31],os:=[1,2,3,4,5,6,7,8,9,10,11] } [] gamOK hT h (by kernel_rfl) trivial fun a w h=>then_normal ?_
   refine at_test (decide ((belowC (madeD x0).1 12).2=2)) h (by kernel_rfl) (fun h5=>?_) (fun h5=>?_)
   ·replace h5 : (belowC (madeD x0).1 12).2 = 2 := of_decide_eq_true h5
    refine at_anyq [{},{},{},{},{},{}] { ts:=[2,3,4,5,6,7],os:=[1,2,3,4,5,6,7,8,9,10,11] } [B_spec_l4Group.pre (belowC (madeD x0).1 12).1 (()),(0:Int)≤0∧0 < ((List.length (madeD x0).2.2.2.2.2.2.2.1:Nat):Int),0 < List.length (madeD x0).2.2.2.2.2.2.2.1] gamOK hT mixed h (by kernel_rfl) ⟨(by exact (below_ok (madeD_ok hpre).1)),(by refine ⟨?_,?_⟩<;>(first | omega | (simp only [lsA];omega) | (simp<;>omega))),(by first | omega | (simp only [lsA];omega) | (simp<;>omega)),trivial⟩ fun a w h=>in_normal (then_normal (wp_seq ?_))
    refine at_anyq [{},{},{},{},{},{}] { ts:=[2,3,4],os:=[1,2,3,4,5,6,7,8] } [] gamOK hT mixed h (by kernel_rfl) trivial fun a w h=>then_normal (wp_ret ?_)
    have hr6:(((grpE (belowC (madeD x0).1 12).1).1,(madeD x0).2.1,(madeD x0).2.2.1,((madeD x0).2.2.2.1,((madeD x0).2.2.2.2.1,((madeD x0).2.2.2.2.2.1,((madeD x0).2.2.2.2.2.2.1,((List.set (madeD x0).2.2.2.2.2.2.2.1 0 (grpE (belowC (madeD x0).1 12).1).2),(madeD x0).2.2.2.2.2.2.2.2)))))):T112×T26×(List Int)×T56)=anyM x0:=by (unfold anyM;rw [if_neg h1,if_neg h3,if_pos h5])
    exact at_returnB (B:=B_spec_l19Any) (c0:=x0) (x:=(())) ((grpE (belowC (madeD x0).1 12).1).1) ((madeD x0).2.1,((madeD x0).2.2.1,(((madeD x0).2.2.2.1,((madeD x0).2.2.2.2.1,((madeD x0).2.2.2.2.2.1,((madeD x0).2.2.2.2.2.2.1,((List.set (madeD x0).2.2.2.2.2.2.2.1 0 (grpE (belowC (madeD x0).1 12).1).2),(madeD x0).2.2.2.2.2.2.2.2))))),()))) [(Value.pointer (some ⟨b0,0,none⟩))=(Value.pointer (some ⟨b0,0,none⟩))] h (by kernel_rfl) ⟨rfl,trivial⟩ (congrArg (a₁:=((grpE (belowC (madeD x0).1 12).1).1,(madeD x0).2.1,(madeD x0).2.2.1,((madeD x0).2.2.2.1,((madeD x0).2.2.2.2.1,((madeD x0).2.2.2.2.2.1,((madeD x0).2.2.2.2.2.2.1,((List.set (madeD x0).2.2.2.2.2.2.2.1 0 (grpE (belowC (madeD x0).1 12).1).2),(madeD x0).2.2.2.2.2.2.2.2))))))) (a₂:=anyM x0) (fun (z:T112×T26×(List Int)×T56)=>z.1) hr6) (congrArg (a₁:=((grpE (belowC (madeD x0).1 12).1).1,(madeD x0).2.1,(madeD x0).2.2.1,((madeD x0).2.2.2.1,((madeD x0).2.2.2.2.1,((madeD x0).2.2.2.2.2.1,((madeD x0).2.2.2.2.2.2.1,((List.set (madeD x0).2.2.2.2.2.2.2.1 0 (grpE (belowC (madeD x0).1 12).1).2),(madeD x0).2.2.2.2.2.2.2.2))))))) (a₂:=anyM x0) (fun (z:T112×T26×(List Int)×T56)=>(z.2.1,z.2.2.1,z.2.2.2,())) hr6)
   ·replace h5 : ¬ ((belowC (madeD x0).1 12).2 = 2) := of_decide_eq_false h5
    refine wp_seq ?_
    refine at_regq [] { ts:=[0,2,3,4,5,6,7,15,38],os:=[1,2,3,4,5,6,7,8,9,10,11] } [] gamOK hT h (by kernel_rfl) trivial fun a w h=>then_normal ?_
    refine at_test (decide ((belowC (madeD x0).1 12).2=3)) h (by kernel_rfl) (fun h7=>?_) (fun h7=>?_)
    ·replace h7 : (belowC (madeD x0).1 12).2 = 3 := of_decide_eq_true h7
     refine at_regq [{},{ ids:=[14],frz:=true }] { ts:=[2,3,4,5,6,7],os:=[1,2,3,4,5,6,7,8,9,10,11] } [B_spec_l1Int.pre (belowC (madeD x0).1 12).1 ([(-1),5,2147483646,2147483647],())] gamOK hT h (by kernel_rfl) ⟨(by exact ⟨(below_ok (madeD_ok hpre).1),by simp,by simp⟩),trivial⟩ fun a w h=>in_normal (then_normal (wp_seq ?_))
     refine at_anyq [{},{},{},{},{},{}] { ts:=[2,3,4],os:=[1,2,3,4,5,6,7,8] } [] gamOK hT mixed h (by kernel_rfl) trivial fun a w h=>then_normal (wp_ret ?_)
     have hr8:(((pickC (belowC (madeD x0).1 12).1 ([(-1),5,2147483646,2147483647])).1,(madeD x0).2.1,(madeD x0).2.2.1,((madeD x0).2.2.2.1,((madeD x0).2.2.2.2.1,((madeD x0).2.2.2.2.2.1,((madeD x0).2.2.2.2.2.2.1,((madeD x0).2.2.2.2.2.2.2.1,(pickC (belowC (madeD x0).1 12).1 ([(-1),5,2147483646,2147483647])).2)))))):T112×T26×(List Int)×T56)=anyM x0:=by (unfold anyM;rw [if_neg h1,if_neg h3,if_neg h5,if_pos h7])
     exact at_returnB (B:=B_spec_l19Any) (c0:=x0) (x:=(())) ((pickC (belowC (madeD x0).1 12).1 ([(-1),5,2147483646,2147483647])).1) ((madeD x0).2.1,((madeD x0).2.2.1,(((madeD x0).2.2.2.1,((madeD x0).2.2.2.2.1,((madeD x0).2.2.2.2.2.1,((madeD x0).2.2.2.2.2.2.1,((madeD x0).2.2.2.2.2.2.2.1,(pickC (belowC (madeD x0).1 12).1 ([(-1),5,2147483646,2147483647])).2))))),()))) [(Value.pointer (some ⟨b0,0,none⟩))=(Value.pointer (some ⟨b0,0,none⟩))] h (by kernel_rfl) ⟨rfl,trivial⟩ (congrArg (a₁:=((pickC (belowC (madeD x0).1 12).1 ([(-1),5,2147483646,2147483647])).1,(madeD x0).2.1,(madeD x0).2.2.1,((madeD x0).2.2.2.1,((madeD x0).2.2.2.2.1,((madeD x0).2.2.2.2.2.1,((madeD x0).2.2.2.2.2.2.1,((madeD x0).2.2.2.2.2.2.2.1,(pickC (belowC (madeD x0).1 12).1 ([(-1),5,2147483646,2147483647])).2))))))) (a₂:=anyM x0) (fun (z:T112×T26×(List Int)×T56)=>z.1) hr8) (congrArg (a₁:=((pickC (belowC (madeD x0).1 12).1 ([(-1),5,2147483646,2147483647])).1,(madeD x0).2.1,(madeD x0).2.2.1,((madeD x0).2.2.2.1,((madeD x0).2.2.2.2.1,((madeD x0).2.2.2.2.2.1,((madeD x0).2.2.2.2.2.2.1,((madeD x0).2.2.2.2.2.2.2.1,(pickC (belowC (madeD x0).1 12).1 ([(-1),5,2147483646,2147483647])).2))))))) (a₂:=anyM x0) (fun (z:T112×T26×(List Int)×T56)=>(z.2.1,z.2.2.1,z.2.2.2,())) hr8)
    ·replace h7 : ¬ ((belowC (madeD x0).1 12).2 = 3) := of_decide_eq_false h7
     refine wp_seq ?_
     refine at_regq [] { ts:=[0,2,3,4,5,6,7,44],os:=[1,2,3,4,5,6,7,8,9,10,11] } [] gamOK hT h (by kernel_rfl) trivial fun a w h=>then_normal ?_
     refine at_test (decide ((belowC (madeD x0).1 12).2=4)) h (by kernel_rfl) (fun h9=>?_) (fun h9=>?_)
     ·replace h9 : (belowC (madeD x0).1 12).2 = 4 := of_decide_eq_true h9
      refine at_regq [{},{},{},{ ids:=[15] }] { ts:=[2,3,4,5,6,7],os:=[1,2,3,4,5,6,8,9,10,11,15] } [B_spec_l18Key.pre (belowC (madeD x0).1 12).1 ((madeD x0).2.2.2.2.2.2.1,())] gamOK hT h (by kernel_rfl) ⟨(by exact (below_ok (madeD_ok hpre).1)),trivial⟩ fun a w h=>in_normal (then_normal (wp_seq ?_))
      refine at_anyq [{},{},{},{},{},{}] { ts:=[2,3,4],os:=[1,2,3,4,5,6,8,15] } [] gamOK hT mixed h (by kernel_rfl) trivial fun a w h=>then_normal (wp_ret ?_)
      have hr10:(((keyE (belowC (madeD x0).1 12).1 (madeD x0).2.2.2.2.2.2.1).1,(madeD x0).2.1,(keyE (belowC (madeD x0).1 12).1 (madeD x0).2.2.2.2.2.2.1).2,(madeD x0).2.2.2):T112×T26×(List Int)×T56)=anyM x0:=by (unfold anyM;rw [if_neg h1,if_neg h3,if_neg h5,if_neg h7,if_pos h9])
      exact at_returnB (B:=B_spec_l19Any) (c0:=x0) (x:=(())) ((keyE (belowC (madeD x0).1 12).1 (madeD x0).2.2.2.2.2.2.1).1) ((madeD x0).2.1,((keyE (belowC (madeD x0).1 12).1 (madeD x0).2.2.2.2.2.2.1).2,((madeD x0).2.2.2,()))) [(Value.pointer (some ⟨b0,0,none⟩))=(Value.pointer (some ⟨b0,0,none⟩))] h (by kernel_rfl) ⟨rfl,trivial⟩ (congrArg (a₁:=((keyE (belowC (madeD x0).1 12).1 (madeD x0).2.2.2.2.2.2.1).1,(madeD x0).2.1,(keyE (belowC (madeD x0).1 12).1 (madeD x0).2.2.2.2.2.2.1).2,(madeD x0).2.2.2)) (a₂:=anyM x0) (fun (z:T112×T26×(List Int)×T56)=>z.1) hr10) (congrArg (a₁:=((keyE (belowC (madeD x0).1 12).1 (madeD x0).2.2.2.2.2.2.1).1,(madeD x0).2.1,(keyE (belowC (madeD x0).1 12).1 (madeD x0).2.2.2.2.2.2.1).2,(madeD x0).2.2.2)) (a₂:=anyM x0) (fun (z:T112×T26×(List Int)×T56)=>(z.2.1,z.2.2.1,z.2.2.2,())) hr10)
     ·replace h9 : ¬ ((belowC (madeD x0).1 12).2 = 4) := of_decide_eq_false h9
      refine wp_skip (in_normal (then_normal (wp_seq ?_)))
      refine at_anyq [{},{},{},{},{},{}] { ts:=[2,3,4],os:=[1,2,3,4,5,6,7,8] } [] gamOK hT mixed h (by kernel_rfl) trivial fun a w h=>then_normal (wp_ret ?_)
      have hr11:(((belowC (madeD x0).1 12).1,(madeD x0).2.1,(madeD x0).2.2.1,(madeD x0).2.2.2):T112×T26×(List Int)×T56)=anyM x0:=by (unfold anyM;rw [if_neg h1,if_neg h3,if_neg h5,if_neg h7,if_neg h9])
      exact at_returnB (B:=B_spec_l19Any) (c0:=x0) (x:=(())) ((belowC (madeD x0).1 12).1) ((madeD x0).2.1,((madeD x0).2.2.1,((madeD x0).2.2.2,()))) [(Value.pointer (some ⟨b0,0,none⟩))=(Value.pointer (some ⟨b0,0,none⟩))] h (by kernel_rfl) ⟨rfl,trivial⟩ (congrArg (a₁:=((belowC (madeD x0).1 12).1,(madeD x0).2.1,(madeD x0).2.2.1,(madeD x0).2.2.2)) (a₂:=anyM x0) (fun (z:T112×T26×(List Int)×T56)=>z.1) hr11) (congrArg (a₁:=((belowC (madeD x0).1 12).1,(madeD x0).2.1,(madeD x0).2.2.1,(madeD x0).2.2.2)) (a₂:=anyM x0) (fun (z:T112×T26×(List Int)×T56)=>(z.2.1,z.2.2.1,z.2.2.2,())) hr11)
theorem anyM_ok {x:T112} (h:0≤x.2.1):0≤(anyM x).1.2.1∧validG (anyM x).2.1=true∧List.length (anyM x).2.2.1≤17∧List.length (anyM x).2.2.2.2.2.2.2.1≤8:=by
 obtain ⟨hm1,hm2,hm3,ms,msrc,hm4,hm5⟩:=madeD_ok h
 have hmb:=below_ok (n:=12) hm1
 have hmv:=validG_t hm2.1
 have hml:List.length (madeD x).2.2.2.2.2.2.2.1=List.length (madeD x).2.1.2:=by rw [hm5];show List.length (hashSyms _ _)=_;unfold hashSyms;rw [if_pos hm3,List.length_map]
 have hkl:=(validK_t hm3.1).1
 unfold anyM
 (repeat' split) <;> refine ⟨?_, hm2.1, ?_, ?_⟩ <;> first
  | exact pickC_ok hmb
  | exact grpE_ok hmb
  | exact (keyE_ok hmb).1
  | exact hmb
  | (have:=(keyE_ok (n:=(madeD x).2.2.2.2.2.2.1) hmb).2;dsimp only;omega)
  | (dsimp only;omega)
  | (simp;omega)

end Go.Proofs.YtgeonngfipikeaaGreat
