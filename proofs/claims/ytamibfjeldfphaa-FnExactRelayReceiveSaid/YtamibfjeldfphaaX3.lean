/- The walks of the functions that the law reaches: each summary holds. No condition. -/
import Derived.Test.YtamibfjeldfphaaX2
import Derived.Test.YtamibfjeldfphaaLA
import Derived.Test.YtamibfjeldfphaaProg
namespace Go.Proofs.Ytamibfjeldfphaa
open Go.RowKit
set_option linter.unusedVariables false
set_option linter.unusedSimpArgs false
def validP (x0:T50) (x1:Int) (x2:Int):Bool:=(if (isFmt x0.1 x1 x2)=true then (if ((List.length x0.2.1:Nat):Int)=x1 then (if ((List.length x0.2.2:Nat):Int)=x2 then (if (validV x0.2.1)=true then (validV x0.2.2) else false) else false) else false) else false)
abbrev Q_impl_IsValidPacket:=(fun (x0:T50) (x1:Int) (x2:Int)=>Sh.fit s50 x0)
def S_impl_IsValidPacket:Sum:={ fid:=131,dom:=[s50,(.int 3),(.int 3)],cod:=[(.bool 4)],dp:=true,fz:=false,pre:=fun x=>Q_impl_IsValidPacket x.1 x.2.1 x.2.2.1,g:=fun x=>((validP x.1 x.2.1 x.2.2.1),()) }
def S_impl_IsValidPacket_tab:List (Nat×Sum):=[(114,S_impl_isFormat),(117,S_impl_IsValidVector)]
theorem S_impl_IsValidPacket_ok:FnOK Try.prog 131 S_impl_IsValidPacket:=by
 refine at_enter 36 (fun x=>⟨[(0,aG [cI x.1.1,.ro (.int 3) x.1.2.1,.ro (.int 3) x.1.2.2]),(1,aI x.2.1),(2,aI x.2.2.1)],[]⟩) Try.func131 rfl (by kernel_rfl) (fun x=>rfl) ?_
 rintro w0 Z0 ⟨x0,x1,x2,u⟩ a w
 revert x0 x1 x2
 intro (x0:T50) (x1:Int) (x2:Int) hpre hlens h
 replace hpre:Q_impl_IsValidPacket x0 x1 x2:=hpre
 have hT:TabOK Try.prog S_impl_IsValidPacket_tab:=(.cons S_impl_isFormat_ok (.cons S_impl_IsValidVector_ok .nil))
 have hf0:Sh.fit s50 x0:=hpre
 have hn0_1:List.length x0.2.1≤1073741824:=hf0.2.1.1
 have hn0_2:List.length x0.2.2≤1073741824:=hf0.2.2.1
 refine wp_seq ?_
 refine at_regq [{ ids:=[1] }] { ts:=[1,2,3,6],os:=[1] } [] gamOK hT h (by kernel_rfl) trivial fun a w h=>then_normal (wp_seq ?_)
 rcases Bool.eq_false_or_eq_true ((isFmt x0.1 x1 x2)) with h1 | h1
 ·have hvh1 := isFmt_t h1
  by_cases h2:((List.length x0.2.1:Nat):Int)=x1
  ·by_cases h3 : ((List.length x0.2.2 : Nat) : Int) = x2
   ·rcases Bool.eq_false_or_eq_true ((validV x0.2.1)) with h4 | h4
    ·have hvh4 := validV_t h4
     refine at_regq [{},{},{},{},{ hint:=some (aB true) },{},{},{},{},{},{ hint:=some (aB true) },{},{},{},{},{},{},{ hint:=some (aB true) },{},{},{},{},{ hint:=some (aB true) }] { ts:=[6],os:=[] } [True,(AV.p (.c (.v (.bool ((isFmt x0.1 x1 x2)))))=AV.p (.c (.v (.bool true)))),(AV.p (.c (.v (.bool (decide (((List.length x0.2.1:Nat):Int)=x1)))))=AV.p (.c (.v (.bool true)))),(AV.p (.c (.v (.bool (decide (((List.length x0.2.2:Nat):Int)=x2)))))=AV.p (.c (.v (.bool true)))),Q_impl_IsValidVector x0.2.1,(AV.p (.c (.v (.bool ((validV x0.2.1)))))=AV.p (.c (.v (.bool true)))),Q_impl_IsValidVector x0.2.2] gamOK hT h (by kernel_rfl) ⟨trivial,hint_bool (h1),hint_bool (decide_eq_true h2),hint_bool (decide_eq_true h3),(by exact hf0.2.1),hint_bool (h4),(by exact hf0.2.2),trivial⟩ fun a w h=>then_normal (wp_ret ?_)
     exact at_return ((validV x0.2.2),()) [] h (by kernel_rfl) trivial (congrArg (fun z=>(z,())) (show ((validV x0.2.2))=validP x0 x1 x2 from by first | rfl | (unfold validP;rw [if_pos h1,if_pos h2,if_pos h3,if_pos h4])))
    ·refine at_regq [{}, {}, {}, {}, { hint := some (aB true) }, {}, {}, {}, {}, {}, { hint := some (aB true) }, {}, {}, {}, {}, {}, {}, { hint := some (aB true) }, {}, {}, {}, {}, { hint := some (aB false) }] { ts := [6], os := [] } [True, (AV.p (.c (.v (.bool ((isFmt x0.1 x1 x2))))) = AV.p (.c (.v (.bool true)))), (AV.p (.c (.v (.bool (decide (((List.length x0.2.1 : Nat) : Int) = x1))))) = AV.p (.c (.v (.bool true)))), (AV.p (.c (.v (.bool (decide (((List.length x0.2.2 : Nat) : Int) = x2))))) = AV.p (.c (.v (.bool true)))), Q_impl_IsValidVector x0.2.1, (AV.p (.c (.v (.bool ((validV x0.2.1))))) = AV.p (.c (.v (.bool false))))] gamOK hT h (by kernel_rfl) ⟨trivial, hint_bool (h1), hint_bool (decide_eq_true h2), hint_bool (decide_eq_true h3), (by exact hf0.2.1), hint_bool (h4), trivial⟩ fun a w h => then_normal (wp_ret ?_)
     exact at_return (false,()) [] h (by kernel_rfl) trivial (congrArg (fun z=>(z,())) (show (false)=validP x0 x1 x2 from by first | rfl | (unfold validP;rw [if_pos h1,if_pos h2,if_pos h3,if_neg (neT h4)])))
   ·refine at_regq [{}, {}, {}, {}, { hint := some (aB true) }, {}, {}, {}, {}, {}, { hint := some (aB true) }, {}, {}, {}, {}, {}, {}, { hint := some (aB false) }] { ts := [6], os := [] } [True, (AV.p (.c (.v (.bool ((isFmt x0.1 x1 x2))))) = AV.p (.c (.v (.bool true)))), (AV.p (.c (.v (.bool (decide (((List.length x0.2.1 : Nat) : Int) = x1))))) = AV.p (.c (.v (.bool true)))), (AV.p (.c (.v (.bool (decide (((List.length x0.2.2 : Nat) : Int) = x2))))) = AV.p (.c (.v (.bool false))))] gamOK hT h (by kernel_rfl) ⟨trivial, hint_bool (h1), hint_bool (decide_eq_true h2), hint_bool (decide_eq_false h3), trivial⟩ fun a w h => then_normal (wp_ret ?_)
    exact at_return (false,()) [] h (by kernel_rfl) trivial (congrArg (fun z=>(z,())) (show (false)=validP x0 x1 x2 from by first | rfl | (unfold validP;rw [if_pos h1,if_pos h2,if_neg h3])))
  ·refine at_regq [{}, {}, {}, {}, { hint := some (aB true) }, {}, {}, {}, {}, {}, { hint := some (aB false) }] { ts := [6], os := [] } [True, (AV.p (.c (.v (.bool ((isFmt x0.1 x1 x2))))) = AV.p (.c (.v (.bool true)))), (AV.p (.c (.v (.bool (decide (((List.length x0.2.1 : Nat) : Int) = x1))))) = AV.p (.c (.v (.bool false))))] gamOK hT h (by kernel_rfl) ⟨trivial, hint_bool (h1), hint_bool (decide_eq_false h2), trivial⟩ fun a w h => then_normal (wp_ret ?_)
   exact at_return (false,()) [] h (by kernel_rfl) trivial (congrArg (fun z=>(z,())) (show (false)=validP x0 x1 x2 from by first | rfl | (unfold validP;rw [if_pos h1,if_neg h2])))
 ·refine at_regq [{}, {}, {}, {}, { hint := some (aB false) }] { ts := [6], os := [] } [True, (AV.p (.c (.v (.bool ((isFmt x0.1 x1 x2))))) = AV.p (.c (.v (.bool false))))] gamOK hT h (by kernel_rfl) ⟨trivial, hint_bool (h1), trivial⟩ fun a w h => then_normal (wp_ret ?_)
  exact at_return (false,()) [] h (by kernel_rfl) trivial (congrArg (fun z=>(z,())) (show (false)=validP x0 x1 x2 from by first | rfl | (unfold validP;rw [if_neg (neT h1)])))
theorem validP_t {p:T50} {s w:Int} (h:validP p s w=true):isFmt p.1 s w=true∧((List.length p.2.1:Nat):Int)=s∧((List.length p.2.2:Nat):Int)=w∧validV p.2.1=true∧validV p.2.2=true:=by
 unfold validP at h
 split at h
 ·split at h
  ·split at h
   ·split at h
    ·exact ⟨by assumption,by assumption,by assumption,by assumption,h⟩
    ·cases h
   ·cases h
  ·cases h
 ·cases h
theorem validP_n {p:T50} {s w:Int} (h:validP p s w=true):((0≤p.1∧p.1≤1000000000000)∧(1≤s∧s≤8)∧(1≤w∧w≤16))∧((List.length p.2.1:Nat):Int)=s∧((List.length p.2.2:Nat):Int)=w:=⟨isFmt_t (validP_t h).1,(validP_t h).2.1,(validP_t h).2.2.1⟩
theorem validP_of {p:T50} {s w:Int} (h:isFmt p.1 s w=true∧((List.length p.2.1:Nat):Int)=s∧((List.length p.2.2:Nat):Int)=w∧validV p.2.1=true∧validV p.2.2=true):validP p s w=true:=by
 unfold validP;rw [if_pos h.1,if_pos h.2.1,if_pos h.2.2.1,if_pos h.2.2.2.1];exact h.2.2.2.2

abbrev Q_spec_IsValidPacket:=(fun (x0:T50) (x1:Int) (x2:Int)=>Sh.fit s50 x0)
def S_spec_IsValidPacket:Sum:={ fid:=126,dom:=[s50,(.int 3),(.int 3)],cod:=[(.bool 4)],dp:=true,fz:=false,pre:=fun x=>Q_spec_IsValidPacket x.1 x.2.1 x.2.2.1,g:=fun x=>((validP x.1 x.2.1 x.2.2.1),()) }
def S_spec_IsValidPacket_tab:List (Nat×Sum):=[(59,S_spec_l1In),(139,S_spec_IsValidVector)]
theorem S_spec_IsValidPacket_ok:FnOK Try.prog 126 S_spec_IsValidPacket:=by
 refine at_enter 42 (fun x=>⟨[(0,aG [cI x.1.1,.ro (.int 3) x.1.2.1,.ro (.int 3) x.1.2.2]),(1,aI x.2.1),(2,aI x.2.2.1)],[]⟩) Try.func126 rfl (by kernel_rfl) (fun x=>rfl) ?_
 rintro w0 Z0 ⟨x0,x1,x2,u⟩ a w
 revert x0 x1 x2
 intro (x0:T50) (x1:Int) (x2:Int) hpre hlens h
 replace hpre:Q_spec_IsValidPacket x0 x1 x2:=hpre
 have hT:TabOK Try.prog S_spec_IsValidPacket_tab:=(.cons S_spec_l1In_ok (.cons S_spec_IsValidVector_ok .nil))
 have hf0:Sh.fit s50 x0:=hpre
 have hn0_1:List.length x0.2.1≤1073741824:=hf0.2.1.1
 have hn0_2:List.length x0.2.2≤1073741824:=hf0.2.2.1
 refine wp_seq ?_
 refine at_regq [{ ids:=[1] }] { ts:=[1,2,3,6],os:=[1] } [] gamOK hT h (by kernel_rfl) trivial fun a w h=>then_normal (wp_seq ?_)
 rcases Bool.eq_false_or_eq_true ((inR x0.1 0 1000000000000)) with h1 | h1
 ·have hvh1 := inR_t h1
  rcases Bool.eq_false_or_eq_true ((inR x1 1 8)) with h2 | h2
  ·have hvh2 := inR_t h2
   rcases Bool.eq_false_or_eq_true ((inR x2 1 16)) with h3 | h3
   ·have hvh3 := inR_t h3
    by_cases h4:((List.length x0.2.1:Nat):Int)=x1
    ·by_cases h5 : ((List.length x0.2.2 : Nat) : Int) = x2
     ·rcases Bool.eq_false_or_eq_true ((validV x0.2.1)) with h6 | h6
      ·have hvh6 := validV_t h6
       refine at_regq [{},{},{ hint:=some (aB true) },{},{},{ hint:=some (aB true) },{},{},{},{ hint:=some (aB true) },{},{},{},{},{},{},{ hint:=some (aB true) },{},{},{},{},{},{},{ hint:=some (aB true) },{},{},{},{},{ hint:=some (aB true) }] { ts:=[6],os:=[] } [True,(AV.p (.c (.v (.bool ((inR x0.1 0 1000000000000)))))=AV.p (.c (.v (.bool true)))),True,(AV.p (.c (.v (.bool ((inR x1 1 8)))))=AV.p (.c (.v (.bool true)))),True,(AV.p (.c (.v (.bool ((inR x2 1 16)))))=AV.p (.c (.v (.bool true)))),(AV.p (.c (.v (.bool (decide (((List.length x0.2.1:Nat):Int)=x1)))))=AV.p (.c (.v (.bool true)))),(AV.p (.c (.v (.bool (decide (((List.length x0.2.2:Nat):Int)=x2)))))=AV.p (.c (.v (.bool true)))),Q_spec_IsValidVector x0.2.1,(AV.p (.c (.v (.bool ((validV x0.2.1)))))=AV.p (.c (.v (.bool true)))),Q_spec_IsValidVector x0.2.2] gamOK hT h (by kernel_rfl) ⟨trivial,hint_bool (h1),trivial,hint_bool (h2),trivial,hint_bool (h3),hint_bool (decide_eq_true h4),hint_bool (decide_eq_true h5),(by exact hf0.2.1),hint_bool (h6),(by exact hf0.2.2),trivial⟩ fun a w h=>then_normal (wp_ret ?_)
       exact at_return ((validV x0.2.2),()) [] h (by kernel_rfl) trivial (congrArg (fun z=>(z,())) (show ((validV x0.2.2))=validP x0 x1 x2 from by first | rfl | (unfold validP;rw [if_pos h1,if_pos h2,if_pos h3,if_pos h4,if_pos h5,if_pos h6];done) | (unfold validP;simp_all [isFmt])))
      ·refine at_regq [{}, {}, { hint := some (aB true) }, {}, {}, { hint := some (aB true) }, {}, {}, {}, { hint := some (aB true) }, {}, {}, {}, {}, {}, {}, { hint := some (aB true) }, {}, {}, {}, {}, {}, {}, { hint := some (aB true) }, {}, {}, {}, {}, { hint := some (aB false) }] { ts := [6], os := [] } [True, (AV.p (.c (.v (.bool ((inR x0.1 0 1000000000000))))) = AV.p (.c (.v (.bool true)))), True, (AV.p (.c (.v (.bool ((inR x1 1 8))))) = AV.p (.c (.v (.bool true)))), True, (AV.p (.c (.v (.bool ((inR x2 1 16))))) = AV.p (.c (.v (.bool true)))), (AV.p (.c (.v (.bool (decide (((List.length x0.2.1 : Nat) : Int) = x1))))) = AV.p (.c (.v (.bool true)))), (AV.p (.c (.v (.bool (decide (((List.length x0.2.2 : Nat) : Int) = x2))))) = AV.p (.c (.v (.bool true)))), Q_spec_IsValidVector x0.2.1, (AV.p (.c (.v (.bool ((validV x0.2.1))))) = AV.p (.c (.v (.bool false))))] gamOK hT h (by kernel_rfl) ⟨trivial, hint_bool (h1), trivial, hint_bool (h2), trivial, hint_bool (h3), hint_bool (decide_eq_true h4), hint_bool (decide_eq_true h5), (by exact hf0.2.1), hint_bool (h6), trivial⟩ fun a w h => then_normal (wp_ret ?_)
       exact at_return (false,()) [] h (by kernel_rfl) trivial (congrArg (fun z=>(z,())) (show (false)=validP x0 x1 x2 from by first | rfl | (unfold validP;rw [if_pos h1,if_pos h2,if_pos h3,if_pos h4,if_pos h5,if_neg (neT h6)];done) | (unfold validP;simp_all [isFmt])))
     ·refine at_regq [{}, {}, { hint := some (aB true) }, {}, {}, { hint := some (aB true) }, {}, {}, {}, { hint := some (aB true) }, {}, {}, {}, {}, {}, {}, { hint := some (aB true) }, {}, {}, {}, {}, {}, {}, { hint := some (aB false) }] { ts := [6], os := [] } [True, (AV.p (.c (.v (.bool ((inR x0.1 0 1000000000000))))) = AV.p (.c (.v (.bool true)))), True, (AV.p (.c (.v (.bool ((inR x1 1 8))))) = AV.p (.c (.v (.bool true)))), True, (AV.p (.c (.v (.bool ((inR x2 1 16))))) = AV.p (.c (.v (.bool true)))), (AV.p (.c (.v (.bool (decide (((List.length x0.2.1 : Nat) : Int) = x1))))) = AV.p (.c (.v (.bool true)))), (AV.p (.c (.v (.bool (decide (((List.length x0.2.2 : Nat) : Int) = x2))))) = AV.p (.c (.v (.bool false))))] gamOK hT h (by kernel_rfl) ⟨trivial, hint_bool (h1), trivial, hint_bool (h2), trivial, hint_bool (h3), hint_bool (decide_eq_true h4), hint_bool (decide_eq_false h5), trivial⟩ fun a w h => then_normal (wp_ret ?_)
      exact at_return (false,()) [] h (by kernel_rfl) trivial (congrArg (fun z=>(z,())) (show (false)=validP x0 x1 x2 from by first | rfl | (unfold validP;rw [if_pos h1,if_pos h2,if_pos h3,if_pos h4,if_neg h5];done) | (unfold validP;simp_all [isFmt])))
    ·refine at_regq [{}, {}, { hint := some (aB true) }, {}, {}, { hint := some (aB true) }, {}, {}, {}, { hint := some (aB true) }, {}, {}, {}, {}, {}, {}, { hint := some (aB false) }] { ts := [6], os := [] } [True, (AV.p (.c (.v (.bool ((inR x0.1 0 1000000000000))))) = AV.p (.c (.v (.bool true)))), True, (AV.p (.c (.v (.bool ((inR x1 1 8))))) = AV.p (.c (.v (.bool true)))), True, (AV.p (.c (.v (.bool ((inR x2 1 16))))) = AV.p (.c (.v (.bool true)))), (AV.p (.c (.v (.bool (decide (((List.length x0.2.1 : Nat) : Int) = x1))))) = AV.p (.c (.v (.bool false))))] gamOK hT h (by kernel_rfl) ⟨trivial, hint_bool (h1), trivial, hint_bool (h2), trivial, hint_bool (h3), hint_bool (decide_eq_false h4), trivial⟩ fun a w h => then_normal (wp_ret ?_)
     exact at_return (false,()) [] h (by kernel_rfl) trivial (congrArg (fun z=>(z,())) (show (false)=validP x0 x1 x2 from by first | rfl | (unfold validP;rw [if_pos h1,if_pos h2,if_pos h3,if_neg h4];done) | (unfold validP;simp_all [isFmt])))
   ·have hvh3 := inR_f h3
    refine at_regq [{},{},{ hint:=some (aB true) },{},{},{ hint:=some (aB true) },{},{},{},{ hint:=some (aB false) }] { ts:=[6],os:=[] } [True,(AV.p (.c (.v (.bool ((inR x0.1 0 1000000000000)))))=AV.p (.c (.v (.bool true)))),True,(AV.p (.c (.v (.bool ((inR x1 1 8)))))=AV.p (.c (.v (.bool true)))),True,(AV.p (.c (.v (.bool ((inR x2 1 16)))))=AV.p (.c (.v (.bool false))))] gamOK hT h (by kernel_rfl) ⟨trivial,hint_bool (h1),trivial,hint_bool (h2),trivial,hint_bool (h3),trivial⟩ fun a w h=>then_normal (wp_ret ?_)
    exact at_return (false,()) [] h (by kernel_rfl) trivial (congrArg (fun z=>(z,())) (show (false)=validP x0 x1 x2 from by first | rfl | (unfold validP;rw [if_pos h1,if_pos h2,if_neg (neT h3)];done) | (unfold validP;simp_all [isFmt])))
  ·have hvh2 := inR_f h2
   refine at_regq [{},{},{ hint:=some (aB true) },{},{},{ hint:=some (aB false) }] { ts:=[6],os:=[] } [True,(AV.p (.c (.v (.bool ((inR x0.1 0 1000000000000)))))=AV.p (.c (.v (.bool true)))),True,(AV.p (.c (.v (.bool ((inR x1 1 8)))))=AV.p (.c (.v (.bool false))))] gamOK hT h (by kernel_rfl) ⟨trivial,hint_bool (h1),trivial,hint_bool (h2),trivial⟩ fun a w h=>then_normal (wp_ret ?_)
   exact at_return (false,()) [] h (by kernel_rfl) trivial (congrArg (fun z=>(z,())) (show (false)=validP x0 x1 x2 from by first | rfl | (unfold validP;rw [if_pos h1,if_neg (neT h2)];done) | (unfold validP;simp_all [isFmt])))
 ·have hvh1 := inR_f h1
  refine at_regq [{},{},{ hint:=some (aB false) }] { ts:=[6],os:=[] } [True,(AV.p (.c (.v (.bool ((inR x0.1 0 1000000000000)))))=AV.p (.c (.v (.bool false))))] gamOK hT h (by kernel_rfl) ⟨trivial,hint_bool (h1),trivial⟩ fun a w h=>then_normal (wp_ret ?_)
  exact at_return (false,()) [] h (by kernel_rfl) trivial (congrArg (fun z=>(z,())) (show (false)=validP x0 x1 x2 from by first | rfl | (unfold validP;rw [if_neg (neT h1)];done) | (unfold validP;simp_all [isFmt])))

theorem set_self {α:Type} {xs:List α} {i:Nat} {z:α} (h:i < xs.length):xs.set i (xs.getD i z)=xs:=by rw [getD_of_lt h,List.set_getElem_self]
def cofs (ps:List T50):List (List Int):=ps.map fun p=>p.2.1
theorem cofs_at {ps:List T50} {i:Nat} (h:i < ps.length):(cofs ps).getD i []=(ps.getD i (0,([],[]))).2.1:=by
 unfold cofs;rw [getD_of_lt (by simpa using h),getD_of_lt h,List.getElem_map]
theorem cofs_len (ps:List T50):(cofs ps).length=ps.length:=by simp [cofs]
theorem cofs_snoc (ps:List T50) (p:T50):cofs (ps++[p])=cofs ps++[p.2.1]:=by simp [cofs]
theorem insTo_app (vs us:List (List Int)):∀ i,i≤vs.length→LA.insTo (vs++us) i=LA.insTo vs i
 | 0,_=>rfl
 | i + 1, h => by
  simp only [LA.insTo]
  rw [insTo_app vs us i (by omega),show (vs++us).getD i []=vs.getD i [] from by rw [List.getD_eq_getElem?_getD,List.getElem?_append_left (by omega),List.getD_eq_getElem?_getD]]
theorem insTo_take {vs:List (List Int)} {i:Nat} (h:i≤vs.length):LA.insTo (vs.take i) i=LA.insTo vs i:=by
 have:=insTo_app (vs.take i) (vs.drop i) i (by simp;omega)
 rw [List.take_append_drop] at this;exact this.symm
theorem insOk_app (vs us:List (List Int)) {i:Nat} (h:i < vs.length):LA.insOk (vs++us) i=LA.insOk vs i:=by
 unfold LA.insOk
 rw [insTo_app vs us i (by omega),show (vs++us).getD i []=vs.getD i [] from by rw [List.getD_eq_getElem?_getD,List.getElem?_append_left (by omega),List.getD_eq_getElem?_getD]]
def okPkt (r:T79) (p:T50):Bool:=validP p r.2.1 r.2.2.1 && decide (p.1=r.1)
theorem okPkt_v {r:T79} {p:T50} (h:okPkt r p=true):((0≤p.1∧p.1≤1000000000000)∧(1≤r.2.1∧r.2.1≤8)∧(1≤r.2.2.1∧r.2.2.1≤16))∧LA.VokB r.2.1.toNat p.2.1:=by
 unfold okPkt at h
 rw [Bool.and_eq_true] at h
 have h1:=validP_t h.1
 have h2:=isFmt_t h1.1
 exact ⟨h2,by have:=h1.2.1;omega,(validV_t h1.2.2.2.1).2.1⟩
theorem okPkt_t {r:T79} {p:T50} (h1:validP p r.2.1 r.2.2.1=true) (h2:p.1=r.1):okPkt r p=true:=by unfold okPkt;rw [h1,decide_eq_true h2];rfl
theorem okPkt_f {r:T79} {p:T50} (h:validP p r.2.1 r.2.2.1=false∨¬ p.1=r.1):okPkt r p=false:=by
 unfold okPkt;rw [Bool.and_eq_false_iff]
 rcases h with h | h
 ·exact .inl h
 ·exact .inr (decide_eq_false h)
theorem fit_snoc {xs:List T50} {x:T50} (h:Sh.fit s77 xs) (hx:Sh.fit s50 x) (hl:List.length xs≤1073741823):Sh.fit s77 (xs++[x]):=⟨by rw [List.length_append,List.length_singleton];omega,fun y hy=>by
 rcases List.mem_append.1 hy with hy | hy
 ·exact h.2 y hy
 ·rw [List.mem_singleton.1 hy];exact hx⟩
def recB (r:T79) (i:Nat):Bool:=okPkt r (r.2.2.2.1.getD i (0,([],[]))) && LA.insOk (cofs r.2.2.2.1) i
def validR (r:T79):Bool:=(isFmt r.1 r.2.1 r.2.2.1 && (decide (List.length r.2.2.2.1≤8) && inR r.2.2.2.2 0 1000000000000)) && allN (recB r) (List.length r.2.2.2.1)
theorem rec_vok {r:T79} {i:Nat} (hi:i≤r.2.2.2.1.length) (h:allN (recB r) i=true):∀ v∈(cofs r.2.2.2.1).take i,LA.VokB r.2.1.toNat v:=fun v hv=>by
 obtain ⟨j,hj,rfl⟩:=List.getElem_of_mem hv
 rw [List.length_take,cofs_len] at hj
 have h1:=allN_iff.1 h j (by omega)
 unfold recB at h1
 rw [Bool.and_eq_true] at h1
 have h2:=(okPkt_v h1.1).2
 rw [← cofs_at (by omega),getD_of_lt (by rw [cofs_len];omega)] at h2
 rw [List.getElem_take];exact h2
theorem red_to {n:Nat} {vs:List (List Int)} {i:Nat} (hi:i≤vs.length) (h:∀ v∈vs.take i,LA.VokB n v):LA.RedL n (LA.insTo vs i):=by
 have:=(LA.insTo_ok h i (by simp;omega)).1
 rwa [insTo_take hi] at this
theorem rec_red {r:T79} {i:Nat} (hi:i≤r.2.2.2.1.length) (h:allN (recB r) i=true):LA.RedL r.2.1.toNat (LA.insTo (cofs r.2.2.2.1) i):=red_to (by rw [cofs_len];exact hi) (rec_vok hi h)
theorem insOk_at {ps:List T50} {s:Int} {i:Nat} (h:i < ps.length):LA.insOk (cofs ps) i=insD (s,LA.insTo (cofs ps) i) (ps.getD i (0,([],[]))).2.1:=by unfold LA.insOk insD;rw [cofs_at h]
theorem insTo_next {ps:List T50} {s:Int} {i:Nat} (h:i < ps.length):(insU (s,LA.insTo (cofs ps) i) (ps.getD i (0,([],[]))).2.1).2=LA.insTo (cofs ps) (i+1):=by show _=(LA.insS _ _).1;rw [cofs_at h];rfl
theorem recB_t {r:T79} {i:Nat} (hi:i < r.2.2.2.1.length) (h1:validP (r.2.2.2.1.getD i (0,([],[]))) r.2.1 r.2.2.1=true) (h2:(r.2.2.2.1.getD i (0,([],[]))).1=r.1) (h3:insD (r.2.1,LA.insTo (cofs r.2.2.2.1) i) (r.2.2.2.1.getD i (0,([],[]))).2.1=true):recB r i=true:=by
 unfold recB;rw [okPkt_t h1 h2,insOk_at hi,h3];rfl
theorem recB_f {r:T79} {i:Nat} (hi:i < r.2.2.2.1.length) (h:validP (r.2.2.2.1.getD i (0,([],[]))) r.2.1 r.2.2.1=false∨¬ (r.2.2.2.1.getD i (0,([],[]))).1=r.1∨insD (r.2.1,LA.insTo (cofs r.2.2.2.1) i) (r.2.2.2.1.getD i (0,([],[]))).2.1=false):recB r i=false:=by
 unfold recB;rw [Bool.and_eq_false_iff]
 rcases h with h | h | h
 ·exact .inl (okPkt_f (.inl h))
 ·exact .inl (okPkt_f (.inr h))
 ·exact .inr (by rw [insOk_at hi,h])
theorem newBas_at {s:Int} (h:0≤s∧s≤40):newBas s=(s,[]):=by unfold newBas;rw [if_pos (inR_true h)]
theorem validR_t {r:T79} (h:validR r=true):((0≤r.1∧r.1≤1000000000000)∧(1≤r.2.1∧r.2.1≤8)∧(1≤r.2.2.1∧r.2.2.1≤16))∧List.length r.2.2.2.1≤8∧(0≤r.2.2.2.2∧r.2.2.2.2≤1000000000000)∧allN (recB r) (List.length r.2.2.2.1)=true:=by
 unfold validR at h
 rw [Bool.and_eq_true,Bool.and_eq_true,Bool.and_eq_true] at h
 exact ⟨isFmt_t h.1.1,of_decide_eq_true h.1.2.1,inR_t h.1.2.2,h.2⟩
theorem validR_y {r:T79} (h1:isFmt r.1 r.2.1 r.2.2.1=true) (h2:List.length r.2.2.2.1≤8) (h3:inR r.2.2.2.2 0 1000000000000=true):allN (recB r) (List.length r.2.2.2.1)=validR r:=by unfold validR;rw [h1,decide_eq_true h2,h3];rfl
theorem validR_n {r:T79} (h:isFmt r.1 r.2.1 r.2.2.1=false∨¬ List.length r.2.2.2.1≤8∨inR r.2.2.2.2 0 1000000000000=false∨allN (recB r) (List.length r.2.2.2.1)=false):false=validR r:=by
 unfold validR
 rcases h with h | h | h | h
 ·rw [h];rfl
 ·rw [decide_eq_false h];simp
 ·rw [h];simp
 ·rw [h];simp
theorem ok_rec {r:T79} (h:allN (fun j=>okPkt r (r.2.2.2.1.getD j (0,([],[])))) (List.length r.2.2.2.1)=false):allN (recB r) (List.length r.2.2.2.1)=false:=by
 rw [Bool.eq_false_iff] at *
 intro e;apply h
 rw [allN_iff] at *
 intro j hj
 have:=e j hj
 unfold recB at this
 rw [Bool.and_eq_true] at this;exact this.1
def recP (r:T79):Prop:=List.length r.2.2.2.1≤8∧∀ v∈cofs r.2.2.2.1,LA.VokB r.2.1.toNat v
theorem recP_of {r:T79} (h:validR r=true):recP r:=by
 have h1:=validR_t h
 refine ⟨h1.2.1,?_⟩
 have:=rec_vok (Nat.le_refl _) h1.2.2.2
 rwa [← cofs_len,List.take_length] at this
theorem recP_red {r:T79} (h:recP r) {i:Nat} (hi:i≤r.2.2.2.1.length):LA.RedL r.2.1.toNat (LA.insTo (cofs r.2.2.2.1) i):=red_to (by rw [cofs_len];exact hi) (fun v hv=>h.2 v (List.mem_of_mem_take hv))
theorem recP_row {r:T79} (h:recP r) {i:Nat} (hi:i < r.2.2.2.1.length):LA.VokB r.2.1.toNat (r.2.2.2.1.getD i (0,([],[]))).2.1:=by
 rw [← cofs_at hi];exact h.2 _ (LA.getD_in (by rw [cofs_len];exact hi))
def accOK (r:T79) (p:T50):Bool:=!decide (List.length r.2.2.2.1=8) && (okPkt r p && insD (r.2.1,LA.insTo (cofs r.2.2.2.1) (List.length r.2.2.2.1)) p.2.1)
def accU (r:T79) (p:T50):T79:=if accOK r p=true then (r.1,r.2.1,r.2.2.1,r.2.2.2.1++[p],r.2.2.2.2) else r
theorem accOK_t {r:T79} {p:T50} (h0:¬ List.length r.2.2.2.1=8) (h1:validP p r.2.1 r.2.2.1=true) (h2:p.1=r.1) (h3:insD (r.2.1,LA.insTo (cofs r.2.2.2.1) (List.length r.2.2.2.1)) p.2.1=true):accOK r p=true:=by
 unfold accOK;rw [decide_eq_false h0,okPkt_t h1 h2,h3];rfl
theorem accOK_f {r:T79} {p:T50} (h:List.length r.2.2.2.1=8∨validP p r.2.1 r.2.2.1=false∨¬ p.1=r.1∨insD (r.2.1,LA.insTo (cofs r.2.2.2.1) (List.length r.2.2.2.1)) p.2.1=false):accOK r p=false:=by
 unfold accOK;rw [Bool.and_eq_false_iff,Bool.and_eq_false_iff]
 rcases h with h | h | h | h
 ·exact .inl (by rw [decide_eq_true h];rfl)
 ·exact .inr (.inl (okPkt_f (.inl h)))
 ·exact .inr (.inl (okPkt_f (.inr h)))
 ·exact .inr (.inr h)
theorem accU_yes {r:T79} {p:T50} (h:accOK r p=true):accU r p=(r.1,r.2.1,r.2.2.1,r.2.2.2.1++[p],r.2.2.2.2):=if_pos h
theorem accU_no {r:T79} {p:T50} (h:accOK r p=false):accU r p=r:=if_neg (by rw [h];decide)
def acceptR (r:T79) (p:T50):T79×Bool:=if validR r=true∧accOK r p=true then (accU r p,true) else (r,false)
theorem allN_congr {P Q:Nat→Bool}:∀ {n:Nat},(∀ j,j < n→P j=Q j)→allN P n=allN Q n
 | 0,_=>rfl
 | n+1,h=>by simp only [allN];rw [allN_congr (n:=n) fun j hj=>h j (by omega),h n (by omega)]
theorem getD_app {α:Type} {xs ys:List α} {z:α} {j:Nat} (h:j < xs.length):(xs++ys).getD j z=xs.getD j z:=by rw [List.getD_eq_getElem?_getD,List.getElem?_append_left h,List.getD_eq_getElem?_getD]
theorem getD_end {α:Type} {xs:List α} {y z:α}:(xs++[y]).getD xs.length z=y:=by rw [List.getD_eq_getElem?_getD,List.getElem?_append_right (Nat.le_refl _)];simp
theorem validR_snoc (r:T79) (p:T50):validR (r.1,r.2.1,r.2.2.1,r.2.2.2.1++[p],r.2.2.2.2)=(validR r && accOK r p):=by
 obtain ⟨g,s,w,ps,sn⟩:=r
 have e1:allN (recB (g,s,w,ps++[p],sn)) ps.length=allN (recB (g,s,w,ps,sn)) ps.length:=allN_congr fun j hj=>by
  unfold recB
  dsimp only
  rw [cofs_snoc,insOk_app _ _ (by rw [cofs_len];exact hj),getD_app hj];rfl
 have e2:recB (g,s,w,ps++[p],sn) ps.length=(okPkt (g,s,w,ps,sn) p && insD (s,LA.insTo (cofs ps) (List.length ps)) p.2.1):=by
  unfold recB
  dsimp only
  rw [getD_end,cofs_snoc]
  congr 1
  unfold LA.insOk insD
  rw [insTo_app _ _ _ (by rw [cofs_len];exact Nat.le_refl _)]
  dsimp only
  rw [show (cofs ps++[p.2.1]).getD ps.length []=p.2.1 from by rw [← cofs_len ps];exact getD_end]
 unfold validR accOK
 dsimp only
 rw [List.length_append,List.length_singleton]
 simp only [allN]
 rw [e1,e2]
 have e3:decide (ps.length+1≤8)=(decide (ps.length≤8) && !decide (ps.length=8)):=by
  rw [Bool.eq_iff_iff];simp;omega
 rw [e3]
 generalize decide (ps.length≤8)=a
 generalize decide (ps.length=8)=b
 generalize isFmt g s w=c
 generalize inR sn 0 1000000000000=d
 generalize allN (recB (g,s,w,ps,sn)) ps.length=e
 generalize okPkt (g,s,w,ps,sn) p=f
 generalize insD (s,LA.insTo (cofs ps) ps.length) p.2.1=h
 cases a<;>cases b<;>cases c<;>cases d<;>cases e<;>cases f<;>cases h<;>rfl
theorem fit_cofs {ps:List T50} (h:Sh.fit s77 ps):Sh.fit s66 (cofs ps):=⟨by rw [cofs_len];exact h.1,fun v hv=>by
 obtain ⟨p,hp,rfl⟩:=List.mem_map.1 hv
 exact (h.2 p hp).2.1⟩
theorem rank_cofs {r:T79} (h:allN (fun j=>okPkt r (r.2.2.2.1.getD j (0,([],[])))) (List.length r.2.2.2.1)=true) (hl:List.length r.2.2.2.1≤8):decide (((List.length (rowRed (cofs r.2.2.2.1)):Nat):Int)=((List.length (cofs r.2.2.2.1):Nat):Int))=allN (recB r) (List.length r.2.2.2.1):=by
 have hp:=allN_iff.1 h
 have hv:∀ v∈cofs r.2.2.2.1,LA.VokB r.2.1.toNat v:=fun v hv=>by
  obtain ⟨j,hj,rfl⟩:=List.getElem_of_mem hv
  rw [cofs_len] at hj
  have h2:=(okPkt_v (hp j hj)).2
  rw [← cofs_at hj,getD_of_lt (by rw [cofs_len];exact hj)] at h2
  exact h2
 have e:allN (recB r) (List.length r.2.2.2.1)=allN (LA.insOk (cofs r.2.2.2.1)) (List.length r.2.2.2.1):=allN_congr fun j hj=>by
  unfold recB;rw [hp j hj,Bool.true_and]
 rw [e,Bool.eq_iff_iff,decide_eq_true_iff,allN_iff]
 rcases Nat.eq_zero_or_pos (List.length r.2.2.2.1) with h0 | h0
 ·rw [List.eq_nil_of_length_eq_zero h0]
  exact ⟨fun _ j hj=>absurd hj (by simp),fun _=>rfl⟩
 ·have hs := (okPkt_v (hp 0 h0)).1
  have hM:validM (cofs r.2.2.2.1)=true:=by
   unfold validM
   rw [if_pos]
   ·exact decide_eq_true (by rw [cofs_len];omega)
   ·rw [List.all_eq_true]; intro v hvm
    rw [Bool.and_eq_true]
    refine ⟨validV_of (hv v hvm) (by omega),decide_eq_true ?_⟩
    rw [(hv v hvm).1,(hv _ (LA.getD_in (i:=0) (by rw [cofs_len];exact h0))).1]
  rw [rowRed_at hM,(hv _ (LA.getD_in (i:=0) (by rw [cofs_len];exact h0))).1]
  have:=LA.rank_full hv
  rw [cofs_len] at this ⊢
  rw [← this];omega
def newRec (x0:Int) (x1:Int) (x2:Int):T79:=(if (isFmt x0 x1 x2)=true then (x0,(x1,(x2,(([]:List T50),0)))) else (0,(0,(0,(([]:List T50),0)))))
def S_impl_NewRecoder:Sum:={ fid:=94,dom:=[(.int 3),(.int 3),(.int 3)],cod:=[s79],dp:=true,fz:=false,pre:=fun x=>True,g:=fun x=>((newRec x.1 x.2.1 x.2.2.1),()) }
def S_impl_NewRecoder_tab:List (Nat×Sum):=[(114,S_impl_isFormat)]
theorem S_impl_NewRecoder_ok:FnOK Try.prog 94 S_impl_NewRecoder:=by
 refine at_enter 17 (fun x=>⟨[(0,aI x.1),(1,aI x.2.1),(2,aI x.2.2.1)],[]⟩) Try.func94 rfl (by kernel_rfl) (fun x=>rfl) ?_
 rintro w0 Z0 ⟨x0,x1,x2,u⟩ a w
 revert x0 x1 x2
 intro (x0:Int) (x1:Int) (x2:Int) hpre hlens h
 have hT:TabOK Try.prog S_impl_NewRecoder_tab:=(.cons S_impl_isFormat_ok .nil)
 refine wp_seq ?_
 refine at_regq [{ ids:=[1] }] { ts:=[0,1,2,6],os:=[1] } [] gamOK hT h (by kernel_rfl) trivial fun a w h=>then_normal (wp_seq (wp_seq ?_))
 refine at_regq [] { ts:=[0,1,2,6,11],os:=[1] } [True] gamOK hT h (by kernel_rfl) ⟨trivial,trivial⟩ fun a w h=>then_normal ?_
 refine at_test (!(isFmt x0 x1 x2)) h (by kernel_rfl) (fun h1=>?_) (fun h1=>?_)
 ·replace h1 : (isFmt x0 x1 x2) = false := notT h1
  refine wp_seq ?_
  refine at_regq [] { ts:=[0,1,2,6],os:=[1] } [] gamOK hT h (by kernel_rfl) trivial fun a w h=>then_normal (wp_ret (then_ret ?_))
  exact at_return ((0,(0,(0,(([]:List T50),0)))),()) [] h (by kernel_rfl) trivial (congrArg (fun z=>(z,())) (show ((0,(0,(0,(([]:List T50),0)))))=newRec x0 x1 x2 from by first | rfl | (unfold newRec;rw [if_neg (neT h1)])))
 ·replace h1 : (isFmt x0 x1 x2) = true := notF h1
  have hvh1:=isFmt_t h1
  refine wp_skip (then_normal (wp_seq ?_))
  refine at_regq [] { ts:=[6],os:=[1] } [] gamOK hT h (by kernel_rfl) trivial fun a w h=>then_normal (wp_ret ?_)
  exact at_return ((x0,(x1,(x2,(([]:List T50),0)))),()) [] h (by kernel_rfl) trivial (congrArg (fun z=>(z,())) (show ((x0,(x1,(x2,(([]:List T50),0)))))=newRec x0 x1 x2 from by first | rfl | (unfold newRec;rw [if_pos h1])))

def S_spec_NewRecoder:Sum:={ fid:=47,dom:=[(.int 3),(.int 3),(.int 3)],cod:=[s79],dp:=true,fz:=false,pre:=fun x=>True,g:=fun x=>((newRec x.1 x.2.1 x.2.2.1),()) }
def S_spec_NewRecoder_tab:List (Nat×Sum):=[(88,S_spec_l14Range)]
theorem S_spec_NewRecoder_ok:FnOK Try.prog 47 S_spec_NewRecoder:=by
 refine at_enter 17 (fun x=>⟨[(0,aI x.1),(1,aI x.2.1),(2,aI x.2.2.1)],[]⟩) Try.func47 rfl (by kernel_rfl) (fun x=>rfl) ?_
 rintro w0 Z0 ⟨x0,x1,x2,u⟩ a w
 revert x0 x1 x2
 intro (x0:Int) (x1:Int) (x2:Int) hpre hlens h
 have hT:TabOK Try.prog S_spec_NewRecoder_tab:=(.cons S_spec_l14Range_ok .nil)
 refine wp_seq ?_
 refine at_regq [{ ids:=[1] }] { ts:=[0,1,2,6],os:=[1] } [] gamOK hT h (by kernel_rfl) trivial fun a w h=>then_normal (wp_seq (wp_seq ?_))
 refine at_regq [] { ts:=[0,1,2,6,11],os:=[1] } [True] gamOK hT h (by kernel_rfl) ⟨trivial,trivial⟩ fun a w h=>then_normal ?_
 refine at_test (!(isFmt x0 x1 x2)) h (by kernel_rfl) (fun h1=>?_) (fun h1=>?_)
 ·replace h1 : (isFmt x0 x1 x2) = false := notT h1
  refine wp_seq ?_
  refine at_regq [] { ts:=[0,1,2,6],os:=[1] } [] gamOK hT h (by kernel_rfl) trivial fun a w h=>then_normal (wp_ret (then_ret ?_))
  exact at_return ((0,(0,(0,(([]:List T50),0)))),()) [] h (by kernel_rfl) trivial (congrArg (fun z=>(z,())) (show ((0,(0,(0,(([]:List T50),0)))))=newRec x0 x1 x2 from by first | rfl | (unfold newRec;rw [if_neg (neT h1)];done) | (unfold newRec;simp_all)))
 ·replace h1 : (isFmt x0 x1 x2) = true := notF h1
  have hvh1:=isFmt_t h1
  refine wp_skip (then_normal (wp_seq ?_))
  refine at_regq [] { ts:=[6],os:=[1] } [] gamOK hT h (by kernel_rfl) trivial fun a w h=>then_normal (wp_ret ?_)
  exact at_return ((x0,(x1,(x2,(([]:List T50),0)))),()) [] h (by kernel_rfl) trivial (congrArg (fun z=>(z,())) (show ((x0,(x1,(x2,(([]:List T50),0)))))=newRec x0 x1 x2 from by first | rfl | (unfold newRec;rw [if_pos h1];done) | (unfold newRec;simp_all)))

abbrev Q_impl_IsValidRecoder:=(fun (x0:T79)=>Sh.fit s79 x0)
def S_impl_IsValidRecoder:Sum:={ fid:=91,dom:=[s79],cod:=[(.bool 4)],dp:=true,fz:=false,pre:=fun x=>Q_impl_IsValidRecoder x.1,g:=fun x=>((validR x.1),()) }
def S_impl_IsValidRecoder_tab:List (Nat×Sum):=[(114,S_impl_isFormat),(73,S_impl_InRange),(130,S_impl_NewBasis),(131,S_impl_IsValidPacket),(132,S__P_impl_Basis_insert)]
theorem S_impl_IsValidRecoder_ok:FnOK Try.prog 91 S_impl_IsValidRecoder:=by
 refine at_enter 57 (fun x=>⟨[(0,aG [cI x.1.1,cI x.1.2.1,cI x.1.2.2.1,.ro s50 x.1.2.2.2.1,cI x.1.2.2.2.2])],[]⟩) Try.func91 rfl (by kernel_rfl) (fun x=>rfl) ?_
 rintro w0 Z0 ⟨x0,u⟩ a w
 revert x0
 intro (x0:T79) hpre hlens h
 replace hpre:Q_impl_IsValidRecoder x0:=hpre
 have hT:TabOK Try.prog S_impl_IsValidRecoder_tab:=(.cons S_impl_isFormat_ok (.cons S_impl_InRange_ok (.cons S_impl_NewBasis_ok (.cons S_impl_IsValidPacket_ok (.cons S__P_impl_Basis_insert_ok .nil)))))
 have hf0:Sh.fit s79 x0:=hpre
 have hn0_1:List.length x0.2.2.2.1≤1073741824:=hf0.2.2.2.1.1
 refine wp_seq ?_
 refine at_regq [{ ids:=[1] }] { ts:=[1,2],os:=[1] } [] gamOK hT h (by kernel_rfl) trivial fun a w h=>then_normal (wp_seq (wp_seq ?_))
 rcases Bool.eq_false_or_eq_true (!(isFmt x0.1 x0.2.1 x0.2.2.1)) with h1 | h1
 ·have hzh1 : (isFmt x0.1 x0.2.1 x0.2.2.1) = false := notT h1
  refine at_regq [{},{},{},{},{},{},{},{ hint:=some (aB true) }] { ts:=[1,2,25],os:=[1] } [True,(AV.p (.c (.v (.bool (!(isFmt x0.1 x0.2.1 x0.2.2.1)))))=AV.p (.c (.v (.bool true))))] gamOK hT h (by kernel_rfl) ⟨trivial,hint_bool (h1),trivial⟩ fun a w h=>then_normal ?_
  refine at_test true h (by kernel_rfl) (fun hh=>?_) (fun hh=>nomatch hh)
  refine wp_seq ?_
  refine at_regq [] { ts:=[1,2],os:=[1] } [] gamOK hT h (by kernel_rfl) trivial fun a w h=>then_normal (wp_ret (then_ret ?_))
  exact at_return (false,()) [] h (by kernel_rfl) trivial (congrArg (fun z=>(z,())) (show (false)=validR x0 from by (first | (rw [← validR_y (by assumption) (by omega) (by assumption)];symm;assumption) | exact validR_n (by first | (left;assumption) | (right;left;omega) | (right;right;left;assumption) | (right;right;right;assumption) | (right;right;right;exact ok_rec (by assumption))))))
 ·have hzh1 : (isFmt x0.1 x0.2.1 x0.2.2.1) = true := notF h1
  have hvh1:=isFmt_t (notF h1)
  by_cases h2:((List.length x0.2.2.2.1:Nat):Int) > 8
  ·refine at_regq [{}, {}, {}, {}, {}, {}, {}, { hint := some (aB false) }, {}, {}, {}, {}, { hint := some (aB true) }] { ts := [1, 2, 25], os := [1] } [True, (AV.p (.c (.v (.bool (!(isFmt x0.1 x0.2.1 x0.2.2.1))))) = AV.p (.c (.v (.bool false)))), (AV.p (.c (.v (.bool (decide (((List.length x0.2.2.2.1 : Nat) : Int) > 8))))) = AV.p (.c (.v (.bool true))))] gamOK hT h (by kernel_rfl) ⟨trivial, hint_bool (h1), hint_bool (decide_eq_true h2), trivial⟩ fun a w h => then_normal ?_
   refine at_test true h (by kernel_rfl) (fun hh=>?_) (fun hh=>nomatch hh)
   refine wp_seq ?_
   refine at_regq [] { ts:=[1,2],os:=[1] } [] gamOK hT h (by kernel_rfl) trivial fun a w h=>then_normal (wp_ret (then_ret ?_))
   exact at_return (false,()) [] h (by kernel_rfl) trivial (congrArg (fun z=>(z,())) (show (false)=validR x0 from by (first | (rw [← validR_y (by assumption) (by omega) (by assumption)];symm;assumption) | exact validR_n (by first | (left;assumption) | (right;left;omega) | (right;right;left;assumption) | (right;right;right;assumption) | (right;right;right;exact ok_rec (by assumption))))))
  ·refine at_regq [{}, {}, {}, {}, {}, {}, {}, { hint := some (aB false) }, {}, {}, {}, {}, { hint := some (aB false) }] { ts := [1, 2, 25], os := [1] } [True, (AV.p (.c (.v (.bool (!(isFmt x0.1 x0.2.1 x0.2.2.1))))) = AV.p (.c (.v (.bool false)))), (AV.p (.c (.v (.bool (decide (((List.length x0.2.2.2.1 : Nat) : Int) > 8))))) = AV.p (.c (.v (.bool false)))), True] gamOK hT h (by kernel_rfl) ⟨trivial, hint_bool (h1), hint_bool (decide_eq_false h2), trivial, trivial⟩ fun a w h => then_normal ?_
   refine at_test (!(inR x0.2.2.2.2 0 1000000000000)) h (by kernel_rfl) (fun h3=>?_) (fun h3=>?_)
   ·replace h3 : (inR x0.2.2.2.2 0 1000000000000) = false := notT h3
    have hvh3:=inR_f h3
    refine wp_seq ?_
    refine at_regq [] { ts:=[1,2],os:=[1] } [] gamOK hT h (by kernel_rfl) trivial fun a w h=>then_normal (wp_ret (then_ret ?_))
    exact at_return (false,()) [] h (by kernel_rfl) trivial (congrArg (fun z=>(z,())) (show (false)=validR x0 from by (first | (rw [← validR_y (by assumption) (by omega) (by assumption)];symm;assumption) | exact validR_n (by first | (left;assumption) | (right;left;omega) | (right;right;left;assumption) | (right;right;right;assumption) | (right;right;right;exact ok_rec (by assumption))))))
   ·replace h3 : (inR x0.2.2.2.2 0 1000000000000) = true := notF h3
    have hvh3:=inR_t h3
    refine wp_skip (then_normal (wp_seq ?_))
    refine at_regq [{},{},{ ids:=[2] },{ ids:=[3] }] { ts:=[1,2,3],os:=[1,2,3] } [True] gamOK hT h (by kernel_rfl) ⟨trivial,trivial⟩ fun a w h=>then_normal (wp_seq (wp_seq ?_))
    refine at_regq [] { ts:=[1,2,3,30,31,32],os:=[1,2,3] } [] gamOK hT h (by kernel_rfl) trivial fun a w h=>then_normal (wp_block ?_)
    replace h:=at_out (σ':=⟨[(1,aP 1 0),(2,aB false),(3,aP 3 0),(30,aF s50 x0.2.2.2.1),(31,aI ((List.length x0.2.2.2.1:Nat):Int)),(32,aI 0)],[(1,oX 79 [cI x0.1,cI x0.2.1,cI x0.2.2.1,.ro s50 x0.2.2.2.1,cI x0.2.2.2.2]),(2,oR s22 (newBas x0.2.1).2),(3,oX 95 [cI (newBas x0.2.1).1,.sl 2])]⟩) { ts:=[1,2,3,30,31,32],os:=[1,2,3] } h (by kernel_rfl)
    refine at_loop (fun i:Nat=>(⟨[(1,aP 1 0),(2,aB false),(3,aP 3 0),(30,aF s50 x0.2.2.2.1),(31,aI ((List.length x0.2.2.2.1:Nat):Int)),(32,aI ((i:Nat):Int))],[(1,oX 79 [cI x0.1,cI x0.2.1,cI x0.2.2.1,.ro s50 x0.2.2.2.1,cI x0.2.2.2.2]),(2,oR s22 (LA.insTo (cofs x0.2.2.2.1) i)),(3,oX 95 [cI x0.2.1,.sl 2])]⟩:St)) (fun i=>(i≤(List.length x0.2.2.2.1)∧allN (recB x0) i=true)) (fun i=>(List.length x0.2.2.2.1) - i) (0) h (st_congr3 (fun (d0:Int) (d1:List (List Int)) (d2:Int)=>(⟨[(1,aP 1 0),(2,aB false),(3,aP 3 0),(30,aF s50 x0.2.2.2.1),(31,aI ((List.length x0.2.2.2.1:Nat):Int)),(32,aI d2)],[(1,oX 79 [cI x0.1,cI x0.2.1,cI x0.2.2.1,.ro s50 x0.2.2.2.1,cI x0.2.2.2.2]),(2,oR s22 d1),(3,oX 95 [cI d0,.sl 2])]⟩:St)) (show ((newBas x0.2.1).1:Int)=x0.2.1 from by first | with_reducible rfl | (first | rfl | (rw [newBas_at (by omega)];done) | (rw [newBas_at (by omega)];rfl)) | rfl) (show ((newBas x0.2.1).2:List (List Int))=(LA.insTo (cofs x0.2.2.2.1) (0)) from by first | with_reducible rfl | (first | rfl | (rw [newBas_at (by omega)];done) | (rw [newBas_at (by omega)];rfl)) | rfl) (show (0:Int)=(((0):Nat):Int) from by first | with_reducible rfl | (first | rfl | (rw [newBas_at (by omega)];done) | (rw [newBas_at (by omega)];rfl)) | rfl)) (by exact ⟨Nat.zero_le _,rfl⟩) ?_
    intro i a w hok0 h
    refine wp_seq ?_
    refine at_regq [] { ts:=[1,2,3,30,31,32,33],os:=[1,2,3] } [] gamOK hT h (by kernel_rfl) trivial fun a w h=>then_normal (wp_seq ?_)
    refine at_test (decide (((i:Nat):Int) < ((List.length x0.2.2.2.1:Nat):Int))) h (by kernel_rfl) (fun h4=>?_) (fun h4=>?_)
    ·replace h4 : ((i : Nat) : Int) < ((List.length x0.2.2.2.1 : Nat) : Int) := of_decide_eq_true h4
     have hred:=rec_red (r:=x0) hok0.1 hok0.2
     have hbP:basP (x0.2.1,(LA.insTo (cofs x0.2.2.2.1) i)):=⟨by omega,hred⟩
     refine wp_skip (then_normal (wp_seq (wp_block (wp_seq ?_))))
     refine at_regq [{},{},{ ids:=[4] }] { ts:=[1,2,3,5,30,31,32],os:=[1,2,3,4] } [(0:Int)≤((i:Nat):Int)∧((i:Nat):Int) < ((List.length x0.2.2.2.1:Nat):Int)] gamOK hT h (by kernel_rfl) ⟨(by refine ⟨?_,?_⟩<;>(first | omega | (simp only [lsA];omega) | (simp<;>omega))),trivial⟩ fun a w h=>then_normal (wp_seq ?_)
     rcases Bool.eq_false_or_eq_true (!(validP (x0.2.2.2.1.getD i (0,([],[]))) x0.2.1 x0.2.2.1)) with h5 | h5
     ·have hzh5 : (validP (x0.2.2.2.1.getD i (0, ([], []))) x0.2.1 x0.2.2.1) = false := notT h5
      refine at_regq [{},{},{},{},{},{},{ hint:=some (aB true) }] { ts:=[1,2,3,30,31,32,44,45,46,47,48,51,52,53,54,55],os:=[1,2,3] } [Q_impl_IsValidPacket (x0.2.2.2.1.getD i (0,([],[]))) x0.2.1 x0.2.2.1,(AV.p (.c (.v (.bool (!(validP (x0.2.2.2.1.getD i (0,([],[]))) x0.2.1 x0.2.2.1)))))=AV.p (.c (.v (.bool true))))] gamOK hT h (by kernel_rfl) ⟨(by exact (Sh.fit_getD hf0.2.2.2.1 i)),hint_bool (h5),trivial⟩ fun a w h=>then_normal ?_
      refine at_test true h (by kernel_rfl) (fun hh=>?_) (fun hh=>nomatch hh)
      refine wp_seq ?_
      refine at_regq [] { ts:=[1,2,3,30,31,32,44,45,46,47,48,51,52,53,54],os:=[1,2,3] } [] gamOK hT h (by kernel_rfl) trivial fun a w h=>then_normal (wp_ret (in_ret (then_ret ?_)))
      have hs6:(allN (recB x0) (List.length x0.2.2.2.1))=false:=by exact allN_at (i:=i) (by omega) (by exact recB_f (by omega) (by first | (left;assumption) | (right;left;omega) | (right;right;assumption)))
      refine then_ret (in_ret (then_ret ?_))
      exact at_return (false,()) [] h (by kernel_rfl) trivial (congrArg (fun z=>(z,())) (show (false)=validR x0 from by (first | (rw [← validR_y (by assumption) (by omega) (by assumption)];symm;assumption) | exact validR_n (by first | (left;assumption) | (right;left;omega) | (right;right;left;assumption) | (right;right;right;assumption) | (right;right;right;exact ok_rec (by assumption))))))
     ·have hzh5 : (validP (x0.2.2.2.1.getD i (0, ([], []))) x0.2.1 x0.2.2.1) = true := notF h5
      have hvh5:=validP_n (notF h5)
      by_cases h7:(x0.2.2.2.1.getD i (0,([],[]))).1=x0.1
      ·refine at_regq [{}, {}, {}, {}, {}, {}, { hint := some (aB false) }, {}, {}, {}, {}, {}, { hint := some (aB false) }, {}, {}, {}, {}, { ids := [5] }] { ts := [1, 2, 3, 30, 31, 32, 44, 45, 46, 47, 48, 51, 52, 53, 54, 55], os := [1, 3, 4, 5] } [Q_impl_IsValidPacket (x0.2.2.2.1.getD i (0, ([], []))) x0.2.1 x0.2.2.1, (AV.p (.c (.v (.bool (!(validP (x0.2.2.2.1.getD i (0, ([], []))) x0.2.1 x0.2.2.1))))) = AV.p (.c (.v (.bool false)))), (AV.p (.c (.v (.bool (!decide ((x0.2.2.2.1.getD i (0, ([], []))).1 = x0.1))))) = AV.p (.c (.v (.bool false)))), Q__P_impl_Basis_insert (x0.2.1, (LA.insTo (cofs x0.2.2.2.1) i)) (x0.2.2.2.1.getD i (0, ([], []))).2.1] gamOK hT h (by kernel_rfl) ⟨(by exact (Sh.fit_getD hf0.2.2.2.1 i)), hint_bool (h5), hint_bool (ndT h7), (by (have hpv := validP_t (p := (x0.2.2.2.1.getD i (0, ([], [])))) (by assumption); have hrw : LA.VokB x0.2.1.toNat (x0.2.2.2.1.getD i (0, ([], []))).2.1 := ⟨by have := hpv.2.1; omega, (validV_t hpv.2.2.2.1).2.1⟩; exact ⟨basP_fit hbP, fitV hrw (by omega), hbP, hrw⟩)), trivial⟩ fun a w h => then_normal ?_
       refine at_test (!(insD (x0.2.1,(LA.insTo (cofs x0.2.2.2.1) i)) (x0.2.2.2.1.getD i (0,([],[]))).2.1)) h (by kernel_rfl) (fun h8=>?_) (fun h8=>?_)
       ·replace h8 : (insD (x0.2.1, (LA.insTo (cofs x0.2.2.2.1) i)) (x0.2.2.2.1.getD i (0, ([], []))).2.1) = false := notT h8
        refine wp_seq ?_
        refine at_regq [] { ts:=[1,2,3,30,31,32,44,45,46,47,48,51,52,53,54],os:=[1,3,4,5] } [] gamOK hT h (by kernel_rfl) trivial fun a w h=>then_normal (wp_ret (in_ret (then_ret ?_)))
        have hs9:(allN (recB x0) (List.length x0.2.2.2.1))=false:=by exact allN_at (i:=i) (by omega) (by exact recB_f (by omega) (by first | (left;assumption) | (right;left;omega) | (right;right;assumption)))
        refine then_ret (in_ret (then_ret ?_))
        exact at_return (false,()) [] h (by kernel_rfl) trivial (congrArg (fun z=>(z,())) (show (false)=validR x0 from by (first | (rw [← validR_y (by assumption) (by omega) (by assumption)];symm;assumption) | exact validR_n (by first | (left;assumption) | (right;left;omega) | (right;right;left;assumption) | (right;right;right;assumption) | (right;right;right;exact ok_rec (by assumption))))))
       ·replace h8 : (insD (x0.2.1, (LA.insTo (cofs x0.2.2.2.1) i)) (x0.2.2.2.1.getD i (0, ([], []))).2.1) = true := notF h8
        refine wp_skip (in_normal (then_normal ?_))
        refine at_regq [{ nw:=true }] { ts:=[1,2,3,30,31,32,44,45,46,47,48,51,52,53,54],os:=[1,3,4,5] } [I64 (((i:Nat):Int)+1)] gamOK hT h (by kernel_rfl) ⟨⟨by first | omega | (simp only [lsA];omega) | (simp<;>omega),by first | omega | (simp only [lsA];omega) | (simp<;>omega)⟩,trivial⟩ fun a w h=>?_
        replace h:=at_out (σ':=⟨[(1,aP 1 0),(2,aB false),(3,aP 3 0),(30,aF s50 x0.2.2.2.1),(31,aI ((List.length x0.2.2.2.1:Nat):Int)),(32,aI (((i:Nat):Int)+1))],[(1,oX 79 [cI x0.1,cI x0.2.1,cI x0.2.2.1,.ro s50 x0.2.2.2.1,cI x0.2.2.2.2]),(2,oR s22 (insU (x0.2.1,(LA.insTo (cofs x0.2.2.2.1) i)) (x0.2.2.2.1.getD i (0,([],[]))).2.1).2),(3,oX 95 [cI (insU (x0.2.1,(LA.insTo (cofs x0.2.2.2.1) i)) (x0.2.2.2.1.getD i (0,([],[]))).2.1).1,.sl 2])]⟩) { ts:=[1,2,3,30,31,32],os:=[1,5,3],rn:=[(5,2)] } h (by kernel_rfl)
        exact ⟨i+1,at_eq h (st_congr3 (fun (d0:Int) (d1:List (List Int)) (d2:Int)=>(⟨[(1,aP 1 0),(2,aB false),(3,aP 3 0),(30,aF s50 x0.2.2.2.1),(31,aI ((List.length x0.2.2.2.1:Nat):Int)),(32,aI d2)],[(1,oX 79 [cI x0.1,cI x0.2.1,cI x0.2.2.1,.ro s50 x0.2.2.2.1,cI x0.2.2.2.2]),(2,oR s22 d1),(3,oX 95 [cI d0,.sl 2])]⟩:St)) (show ((insU (x0.2.1,(LA.insTo (cofs x0.2.2.2.1) i)) (x0.2.2.2.1.getD i (0,([],[]))).2.1).1:Int)=x0.2.1 from by first | with_reducible rfl | (rfl) | rfl) (show ((insU (x0.2.1,(LA.insTo (cofs x0.2.2.2.1) i)) (x0.2.2.2.1.getD i (0,([],[]))).2.1).2:List (List Int))=(LA.insTo (cofs x0.2.2.2.1) (i+1)) from by first | with_reducible rfl | (exact insTo_next (by omega)) | rfl) (show (((i:Nat):Int)+1:Int)=(((i+1):Nat):Int) from by first | with_reducible rfl | (omega) | rfl)),(by exact ⟨by omega,allN_succ hok0.2 (by exact recB_t (by omega) (by assumption) (by omega) (by assumption))⟩),(by omega)⟩
      ·refine at_regq [{}, {}, {}, {}, {}, {}, { hint := some (aB false) }, {}, {}, {}, {}, {}, { hint := some (aB true) }] { ts := [1, 2, 3, 30, 31, 32, 44, 45, 46, 47, 48, 51, 52, 53, 54, 55], os := [1, 2, 3, 4] } [Q_impl_IsValidPacket (x0.2.2.2.1.getD i (0, ([], []))) x0.2.1 x0.2.2.1, (AV.p (.c (.v (.bool (!(validP (x0.2.2.2.1.getD i (0, ([], []))) x0.2.1 x0.2.2.1))))) = AV.p (.c (.v (.bool false)))), (AV.p (.c (.v (.bool (!decide ((x0.2.2.2.1.getD i (0, ([], []))).1 = x0.1))))) = AV.p (.c (.v (.bool true))))] gamOK hT h (by kernel_rfl) ⟨(by exact (Sh.fit_getD hf0.2.2.2.1 i)), hint_bool (h5), hint_bool (ndF h7), trivial⟩ fun a w h => then_normal ?_
       refine at_test true h (by kernel_rfl) (fun hh=>?_) (fun hh=>nomatch hh)
       refine wp_seq ?_
       refine at_regq [] { ts:=[1,2,3,30,31,32,44,45,46,47,48,51,52,53,54],os:=[1,2,3,4] } [] gamOK hT h (by kernel_rfl) trivial fun a w h=>then_normal (wp_ret (in_ret (then_ret ?_)))
       have hs10:(allN (recB x0) (List.length x0.2.2.2.1))=false:=by exact allN_at (i:=i) (by omega) (by exact recB_f (by omega) (by first | (left;assumption) | (right;left;omega) | (right;right;assumption)))
       refine then_ret (in_ret (then_ret ?_))
       exact at_return (false,()) [] h (by kernel_rfl) trivial (congrArg (fun z=>(z,())) (show (false)=validR x0 from by (first | (rw [← validR_y (by assumption) (by omega) (by assumption)];symm;assumption) | exact validR_n (by first | (left;assumption) | (right;left;omega) | (right;right;left;assumption) | (right;right;right;assumption) | (right;right;right;exact ok_rec (by assumption))))))
    ·replace h4 : ¬ (((i : Nat) : Int) < ((List.length x0.2.2.2.1 : Nat) : Int)) := of_decide_eq_false h4
     refine wp_exit (then_exit ?_)
     have hs11:(allN (recB x0) (List.length x0.2.2.2.1))=true:=by exact allN_eq (by omega) hok0.1 hok0.2
     refine then_exit (in_hit (then_normal (wp_seq ?_)))
     refine at_regq [] { ts:=[2],os:=[] } [] gamOK hT h (by kernel_rfl) trivial fun a w h=>then_normal (wp_ret ?_)
     exact at_return (true,()) [] h (by kernel_rfl) trivial (congrArg (fun z=>(z,())) (show (true)=validR x0 from by (first | (rw [← validR_y (by assumption) (by omega) (by assumption)];symm;assumption) | exact validR_n (by first | (left;assumption) | (right;left;omega) | (right;right;left;assumption) | (right;right;right;assumption) | (right;right;right;exact ok_rec (by assumption))))))

def D_spec_Rank:=(fun (m:List (List Int))=>((List.length (rowRed m):Nat):Int))
abbrev Q_spec_Rank:=(fun (x0:(List (List Int)))=>Sh.fit s66 x0)
def S_spec_Rank:Sum:={ fid:=127,dom:=[s66],cod:=[(.int 3)],dp:=true,fz:=false,pre:=fun x=>Q_spec_Rank x.1,g:=fun x=>((D_spec_Rank x.1),()) }
def S_spec_Rank_tab:List (Nat×Sum):=[(145,S_spec_RowReduce)]
theorem S_spec_Rank_ok:FnOK Try.prog 127 S_spec_Rank:=by
 refine at_enter 6 (fun x=>⟨[(0,aF s22 x.1)],[]⟩) Try.func127 rfl (by kernel_rfl) (fun x=>rfl) ?_
 rintro w0 Z0 ⟨x0,u⟩ a w
 revert x0
 intro (x0:(List (List Int))) hpre hlens h
 replace hpre:Q_spec_Rank x0:=hpre
 have hT:TabOK Try.prog S_spec_Rank_tab:=(.cons S_spec_RowReduce_ok .nil)
 have hf0:Sh.fit s66 x0:=hpre
 have hn0_1:List.length x0≤1073741824:=hf0.1
 refine wp_seq ?_
 refine at_regq [] { ts:=[0,2],os:=[] } [] gamOK hT h (by kernel_rfl) trivial fun a w h=>then_normal (wp_seq ?_)
 refine at_regq [{},{ ids:=[1] }] { ts:=[2],os:=[] } [Q_spec_RowReduce x0] gamOK hT h (by kernel_rfl) ⟨(by exact hf0),trivial⟩ fun a w h=>then_normal (wp_ret ?_)
 exact at_return (((List.length (rowRed x0):Nat):Int),()) [] h (by kernel_rfl) trivial (congrArg (fun z=>(z,())) (show (((List.length (rowRed x0):Nat):Int))=D_spec_Rank x0 from by unfold D_spec_Rank;rfl))

abbrev Q_spec_IsValidRecoder:=(fun (x0:T79)=>Sh.fit s79 x0)
def S_spec_IsValidRecoder:Sum:={ fid:=86,dom:=[s79],cod:=[(.bool 4)],dp:=true,fz:=false,pre:=fun x=>Q_spec_IsValidRecoder x.1,g:=fun x=>((validR x.1),()) }
def S_spec_IsValidRecoder_tab:List (Nat×Sum):=[(88,S_spec_l14Range),(59,S_spec_l1In),(126,S_spec_IsValidPacket),(127,S_spec_Rank)]
theorem S_spec_IsValidRecoder_ok:FnOK Try.prog 86 S_spec_IsValidRecoder:=by
 refine at_enter 69 (fun x=>⟨[(0,aG [cI x.1.1,cI x.1.2.1,cI x.1.2.2.1,.ro s50 x.1.2.2.2.1,cI x.1.2.2.2.2])],[]⟩) Try.func86 rfl (by kernel_rfl) (fun x=>rfl) ?_
 rintro w0 Z0 ⟨x0,u⟩ a w
 revert x0
 intro (x0:T79) hpre hlens h
 replace hpre:Q_spec_IsValidRecoder x0:=hpre
 have hT:TabOK Try.prog S_spec_IsValidRecoder_tab:=(.cons S_spec_l14Range_ok (.cons S_spec_l1In_ok (.cons S_spec_IsValidPacket_ok (.cons S_spec_Rank_ok .nil))))
 have hf0:Sh.fit s79 x0:=hpre
 have hn0_1:List.length x0.2.2.2.1≤1073741824:=hf0.2.2.2.1.1
 refine wp_seq ?_
 refine at_regq [{ ids:=[1] }] { ts:=[1,2],os:=[1] } [] gamOK hT h (by kernel_rfl) trivial fun a w h=>then_normal (wp_seq (wp_seq ?_))
 rcases Bool.eq_false_or_eq_true (!(isFmt x0.1 x0.2.1 x0.2.2.1)) with h1 | h1
 ·have hzh1 : (isFmt x0.1 x0.2.1 x0.2.2.1) = false := notT h1
  refine at_regq [{},{},{},{},{},{},{},{ hint:=some (aB true) }] { ts:=[1,2,24],os:=[1] } [True,(AV.p (.c (.v (.bool (!(isFmt x0.1 x0.2.1 x0.2.2.1)))))=AV.p (.c (.v (.bool true))))] gamOK hT h (by kernel_rfl) ⟨trivial,hint_bool (h1),trivial⟩ fun a w h=>then_normal ?_
  refine at_test true h (by kernel_rfl) (fun hh=>?_) (fun hh=>nomatch hh)
  refine wp_seq ?_
  refine at_regq [] { ts:=[1,2],os:=[1] } [] gamOK hT h (by kernel_rfl) trivial fun a w h=>then_normal (wp_ret (then_ret ?_))
  exact at_return (false,()) [] h (by kernel_rfl) trivial (congrArg (fun z=>(z,())) (show (false)=validR x0 from by (first | (rw [← validR_y (by assumption) (by omega) (by assumption)];exact rank_cofs (by assumption) (by omega)) | exact validR_n (by first | (left;assumption) | (right;left;omega) | (right;right;left;assumption) | (right;right;right;assumption) | (right;right;right;exact ok_rec (by assumption))))))
 ·have hzh1 : (isFmt x0.1 x0.2.1 x0.2.2.1) = true := notF h1
  have hvh1:=isFmt_t (notF h1)
  by_cases h2:((List.length x0.2.2.2.1:Nat):Int) > 8
  ·refine at_regq [{}, {}, {}, {}, {}, {}, {}, { hint := some (aB false) }, {}, {}, {}, {}, { hint := some (aB true) }] { ts := [1, 2, 24], os := [1] } [True, (AV.p (.c (.v (.bool (!(isFmt x0.1 x0.2.1 x0.2.2.1))))) = AV.p (.c (.v (.bool false)))), (AV.p (.c (.v (.bool (decide (((List.length x0.2.2.2.1 : Nat) : Int) > 8))))) = AV.p (.c (.v (.bool true))))] gamOK hT h (by kernel_rfl) ⟨trivial, hint_bool (h1), hint_bool (decide_eq_true h2), trivial⟩ fun a w h => then_normal ?_
   refine at_test true h (by kernel_rfl) (fun hh=>?_) (fun hh=>nomatch hh)
   refine wp_seq ?_
   refine at_regq [] { ts:=[1,2],os:=[1] } [] gamOK hT h (by kernel_rfl) trivial fun a w h=>then_normal (wp_ret (then_ret ?_))
   exact at_return (false,()) [] h (by kernel_rfl) trivial (congrArg (fun z=>(z,())) (show (false)=validR x0 from by (first | (rw [← validR_y (by assumption) (by omega) (by assumption)];exact rank_cofs (by assumption) (by omega)) | exact validR_n (by first | (left;assumption) | (right;left;omega) | (right;right;left;assumption) | (right;right;right;assumption) | (right;right;right;exact ok_rec (by assumption))))))
  ·refine at_regq [{}, {}, {}, {}, {}, {}, {}, { hint := some (aB false) }, {}, {}, {}, {}, { hint := some (aB false) }] { ts := [1, 2, 24], os := [1] } [True, (AV.p (.c (.v (.bool (!(isFmt x0.1 x0.2.1 x0.2.2.1))))) = AV.p (.c (.v (.bool false)))), (AV.p (.c (.v (.bool (decide (((List.length x0.2.2.2.1 : Nat) : Int) > 8))))) = AV.p (.c (.v (.bool false)))), True] gamOK hT h (by kernel_rfl) ⟨trivial, hint_bool (h1), hint_bool (decide_eq_false h2), trivial, trivial⟩ fun a w h => then_normal ?_
   refine at_test (!(inR x0.2.2.2.2 0 1000000000000)) h (by kernel_rfl) (fun h3=>?_) (fun h3=>?_)
   ·replace h3 : (inR x0.2.2.2.2 0 1000000000000) = false := notT h3
    have hvh3:=inR_f h3
    refine wp_seq ?_
    refine at_regq [] { ts:=[1,2],os:=[1] } [] gamOK hT h (by kernel_rfl) trivial fun a w h=>then_normal (wp_ret (then_ret ?_))
    exact at_return (false,()) [] h (by kernel_rfl) trivial (congrArg (fun z=>(z,())) (show (false)=validR x0 from by (first | (rw [← validR_y (by assumption) (by omega) (by assumption)];exact rank_cofs (by assumption) (by omega)) | exact validR_n (by first | (left;assumption) | (right;left;omega) | (right;right;left;assumption) | (right;right;right;assumption) | (right;right;right;exact ok_rec (by assumption))))))
   ·replace h3 : (inR x0.2.2.2.2 0 1000000000000) = true := notF h3
    have hvh3:=inR_t h3
    refine wp_skip (then_normal (wp_seq ?_))
    refine at_regq [{ ids:=[2],dp:=false }] { ts:=[1,2,3],os:=[1,2] } [] gamOK hT h (by kernel_rfl) trivial fun a w h=>then_normal (wp_seq (wp_seq ?_))
    refine at_regq [] { ts:=[1,2,3,4],os:=[1,2] } [] gamOK hT h (by kernel_rfl) trivial fun a w h=>then_normal (wp_block ?_)
    replace h:=at_out (σ':=⟨[(1,aP 1 0),(2,aB false),(3,aS 2),(4,aI 0)],[(1,oX 79 [cI x0.1,cI x0.2.1,cI x0.2.2.1,.ro s50 x0.2.2.2.1,cI x0.2.2.2.2]),(2,oF s22 ([]:List (List Int)))]⟩) { ts:=[1,2,3,4],os:=[1,2] } h (by kernel_rfl)
    refine at_loop (fun i:Nat=>(⟨[(1,aP 1 0),(2,aB false),(3,aS 2),(4,aI ((i:Nat):Int))],[(1,oX 79 [cI x0.1,cI x0.2.1,cI x0.2.2.1,.ro s50 x0.2.2.2.1,cI x0.2.2.2.2]),(2,oF s22 (cofs (List.take i x0.2.2.2.1)))]⟩:St)) (fun i=>(i≤(List.length x0.2.2.2.1)∧allN (fun j=>okPkt x0 (x0.2.2.2.1.getD j (0,([],[])))) i=true)) (fun i=>(List.length x0.2.2.2.1) - i) (0) h (st_congr2 (fun (d0:List (List Int)) (d1:Int)=>(⟨[(1,aP 1 0),(2,aB false),(3,aS 2),(4,aI d1)],[(1,oX 79 [cI x0.1,cI x0.2.1,cI x0.2.2.1,.ro s50 x0.2.2.2.1,cI x0.2.2.2.2]),(2,oF s22 d0)]⟩:St)) (show (([]:List (List Int)):List (List Int))=(cofs (List.take (0) x0.2.2.2.1)) from by first | with_reducible rfl | (rfl) | rfl) (show (0:Int)=(((0):Nat):Int) from by first | with_reducible rfl | (rfl) | rfl)) (by exact ⟨Nat.zero_le _,rfl⟩) ?_
    intro i a w hok0 h
    have hcl:=cofs_len (List.take i x0.2.2.2.1)
    have hlt:=len_take_le (xs:=x0.2.2.2.1) i
    refine wp_seq (wp_seq ?_)
    refine at_regq [] { ts:=[1,2,3,4,30],os:=[1,2] } [] gamOK hT h (by kernel_rfl) trivial fun a w h=>then_normal ?_
    refine at_test (decide (((i:Nat):Int) < ((List.length x0.2.2.2.1:Nat):Int))) h (by kernel_rfl) (fun h4=>?_) (fun h4=>?_)
    ·replace h4 : ((i : Nat) : Int) < ((List.length x0.2.2.2.1 : Nat) : Int) := of_decide_eq_true h4
     refine wp_skip (then_normal (wp_seq (wp_block (wp_seq (wp_seq ?_)))))
     rcases Bool.eq_false_or_eq_true (!(validP (x0.2.2.2.1.getD i (0,([],[]))) x0.2.1 x0.2.2.1)) with h5 | h5
     ·have hzh5 : (validP (x0.2.2.2.1.getD i (0, ([], []))) x0.2.1 x0.2.2.1) = false := notT h5
      refine at_anyq [{},{},{},{},{},{},{},{},{},{},{ hint:=some (aB true) },{},{},{},{},{},{},{},{},{},{},{}] { ts:=[1,2,3,4,45,46,47,48,49,50,51,52,53,54],os:=[1,2] } [(0:Int)≤((i:Nat):Int)∧((i:Nat):Int) < ((List.length x0.2.2.2.1:Nat):Int),Q_spec_IsValidPacket (x0.2.2.2.1.getD i (0,([],[]))) x0.2.1 x0.2.2.1,(AV.p (.c (.v (.bool (!(validP (x0.2.2.2.1.getD i (0,([],[]))) x0.2.1 x0.2.2.1)))))=AV.p (.c (.v (.bool true))))] gamOK hT mixed h (by kernel_rfl) ⟨(by refine ⟨?_,?_⟩<;>(first | omega | (simp only [lsA];omega) | (simp<;>omega))),(by exact (Sh.fit_getD hf0.2.2.2.1 i)),hint_bool (h5),trivial⟩ fun a w h=>then_normal ?_
      refine at_test true h (by kernel_rfl) (fun hh=>?_) (fun hh=>nomatch hh)
      refine wp_seq ?_
      refine at_regq [] { ts:=[1,2,3,4,45,46,47,48,49,50,51,52,53],os:=[1,2] } [] gamOK hT h (by kernel_rfl) trivial fun a w h=>then_normal (wp_ret (then_ret (in_ret (then_ret ?_))))
      have hs6:(allN (fun j=>okPkt x0 (x0.2.2.2.1.getD j (0,([],[])))) (List.length x0.2.2.2.1))=false:=by exact allN_at (i:=i) (by omega) (by exact okPkt_f (by first | (left;assumption) | (right;omega)))
      refine then_ret (in_ret (then_ret ?_))
      exact at_return (false,()) [] h (by kernel_rfl) trivial (congrArg (fun z=>(z,())) (show (false)=validR x0 from by (first | (rw [← validR_y (by assumption) (by omega) (by assumption)];exact rank_cofs (by assumption) (by omega)) | exact validR_n (by first | (left;assumption) | (right;left;omega) | (right;right;left;assumption) | (right;right;right;assumption) | (right;right;right;exact ok_rec (by assumption))))))
     ·have hzh5 : (validP (x0.2.2.2.1.getD i (0, ([], []))) x0.2.1 x0.2.2.1) = true := notF h5
      have hvh5:=validP_n (notF h5)
      refine at_anyq [{},{},{},{},{},{},{},{},{},{},{ hint:=some (aB false) },{},{},{},{},{},{},{},{},{},{},{}] { ts:=[1,2,3,4,45,46,47,48,49,50,51,52,53,54],os:=[1,2] } [(0:Int)≤((i:Nat):Int)∧((i:Nat):Int) < ((List.length x0.2.2.2.1:Nat):Int),Q_spec_IsValidPacket (x0.2.2.2.1.getD i (0,([],[]))) x0.2.1 x0.2.2.1,(AV.p (.c (.v (.bool (!(validP (x0.2.2.2.1.getD i (0,([],[]))) x0.2.1 x0.2.2.1)))))=AV.p (.c (.v (.bool false)))),(0:Int)≤((i:Nat):Int)∧((i:Nat):Int) < ((List.length x0.2.2.2.1:Nat):Int)] gamOK hT mixed h (by kernel_rfl) ⟨(by refine ⟨?_,?_⟩<;>(first | omega | (simp only [lsA];omega) | (simp<;>omega))),(by exact (Sh.fit_getD hf0.2.2.2.1 i)),hint_bool (h5),(by refine ⟨?_,?_⟩<;>(first | omega | (simp only [lsA];omega) | (simp<;>omega))),trivial⟩ fun a w h=>then_normal ?_
      refine at_test (!decide ((x0.2.2.2.1.getD i (0,([],[]))).1=x0.1)) h (by kernel_rfl) (fun h7=>?_) (fun h7=>?_)
      ·replace h7 : ¬ ((x0.2.2.2.1.getD i (0, ([], []))).1 = x0.1) := of_decide_eq_false (notT h7)
       refine wp_seq ?_
       refine at_regq [] { ts:=[1,2,3,4,45,46,47,48,49,50,51,52,53],os:=[1,2] } [] gamOK hT h (by kernel_rfl) trivial fun a w h=>then_normal (wp_ret (then_ret (in_ret (then_ret ?_))))
       have hs8:(allN (fun j=>okPkt x0 (x0.2.2.2.1.getD j (0,([],[])))) (List.length x0.2.2.2.1))=false:=by exact allN_at (i:=i) (by omega) (by exact okPkt_f (by first | (left;assumption) | (right;omega)))
       refine then_ret (in_ret (then_ret ?_))
       exact at_return (false,()) [] h (by kernel_rfl) trivial (congrArg (fun z=>(z,())) (show (false)=validR x0 from by (first | (rw [← validR_y (by assumption) (by omega) (by assumption)];exact rank_cofs (by assumption) (by omega)) | exact validR_n (by first | (left;assumption) | (right;left;omega) | (right;right;left;assumption) | (right;right;right;assumption) | (right;right;right;exact ok_rec (by assumption))))))
      ·replace h7 : (x0.2.2.2.1.getD i (0, ([], []))).1 = x0.1 := of_decide_eq_true (notF h7)
       refine wp_skip (then_normal ?_)
       refine at_regq [{},{},{},{},{},{},{},{ ids:=[3],dp:=false },{ ids:=[4] }] { ts:=[1,2,3,4,45,46,47,48,49,50,51,52,53],os:=[1,4] } [(0:Int)≤((i:Nat):Int)∧((i:Nat):Int) < ((List.length x0.2.2.2.1:Nat):Int),(List.length (cofs (List.take i x0.2.2.2.1))+List.length ([(x0.2.2.2.1.getD i (0,([],[]))).2.1]))*24≤140737488355328] gamOK hT h (by kernel_rfl) ⟨(by refine ⟨?_,?_⟩<;>(first | omega | (simp only [lsA];omega) | (simp<;>omega))),(by first | omega | (simp only [lsA];omega) | (simp<;>omega)),trivial⟩ fun a w h=>in_normal (then_normal ?_)
       refine at_regq [{},{ nw:=true }] { ts:=[1,2,3,4,45,46,47,48,49,50,51,52,53],os:=[1,4] } [I64 (((i:Nat):Int)+1)] gamOK hT h (by kernel_rfl) ⟨⟨by first | omega | (simp only [lsA];omega) | (simp<;>omega),by first | omega | (simp only [lsA];omega) | (simp<;>omega)⟩,trivial⟩ fun a w h=>?_
       replace h:=at_out (σ':=⟨[(1,aP 1 0),(2,aB false),(3,aS 2),(4,aI (((i:Nat):Int)+1))],[(1,oX 79 [cI x0.1,cI x0.2.1,cI x0.2.2.1,.ro s50 x0.2.2.2.1,cI x0.2.2.2.2]),(2,oF s22 ((cofs (List.take i x0.2.2.2.1))++([(x0.2.2.2.1.getD i (0,([],[]))).2.1])))]⟩) { ts:=[1,2,3,4],os:=[1,4],rn:=[(4,2)] } h (by kernel_rfl)
       exact ⟨i+1,at_eq h (st_congr2 (fun (d0:List (List Int)) (d1:Int)=>(⟨[(1,aP 1 0),(2,aB false),(3,aS 2),(4,aI d1)],[(1,oX 79 [cI x0.1,cI x0.2.1,cI x0.2.2.1,.ro s50 x0.2.2.2.1,cI x0.2.2.2.2]),(2,oF s22 d0)]⟩:St)) (show (((cofs (List.take i x0.2.2.2.1))++([(x0.2.2.2.1.getD i (0,([],[]))).2.1])):List (List Int))=(cofs (List.take (i+1) x0.2.2.2.1)) from by first | with_reducible rfl | ((rw [take_snoc (z:=(0,([],[]))) (by omega),cofs_snoc];done)) | rfl) (show (((i:Nat):Int)+1:Int)=(((i+1):Nat):Int) from by first | with_reducible rfl | (omega) | rfl)),(by exact ⟨by omega,allN_succ hok0.2 (by exact okPkt_t (by assumption) (by omega))⟩),(by omega)⟩
    ·replace h4 : ¬ (((i : Nat) : Int) < ((List.length x0.2.2.2.1 : Nat) : Int)) := of_decide_eq_false h4
     refine wp_exit (then_exit ?_)
     have hs9:(allN (fun j=>okPkt x0 (x0.2.2.2.1.getD j (0,([],[])))) (List.length x0.2.2.2.1))=true:=by exact allN_eq (by omega) hok0.1 hok0.2
     replace h:=at_out (σ':=⟨[(2,aB false),(3,aS 2)],[(2,oF s22 (cofs (List.take i x0.2.2.2.1)))]⟩) { ts:=[2,3],os:=[2] } h (by kernel_rfl)
     replace h:=at_eq (σ':=⟨[(2,aB false),(3,aS 2)],[(2,oF s22 (cofs x0.2.2.2.1))]⟩) h (st_congr1 (fun (d0:List (List Int))=>(⟨[(2,aB false),(3,aS 2)],[(2,oF s22 d0)]⟩:St)) (show ((cofs (List.take i x0.2.2.2.1)):List (List Int))=(cofs x0.2.2.2.1) from by first | with_reducible rfl | (rw [take_all (by omega)]) | rfl))
     refine then_exit (in_hit (then_normal (wp_seq ?_)))
     refine at_regq [] { ts:=[2],os:=[] } [Q_spec_Rank (cofs x0.2.2.2.1)] gamOK hT h (by kernel_rfl) ⟨(by exact fit_cofs hf0.2.2.2.1),trivial⟩ fun a w h=>then_normal (wp_ret ?_)
     exact at_return (decide ((D_spec_Rank (cofs x0.2.2.2.1))=((List.length (cofs x0.2.2.2.1):Nat):Int)),()) [] h (by kernel_rfl) trivial (congrArg (fun z=>(z,())) (show (decide ((D_spec_Rank (cofs x0.2.2.2.1))=((List.length (cofs x0.2.2.2.1):Nat):Int)))=validR x0 from by (first | (rw [← validR_y (by assumption) (by omega) (by assumption)];exact rank_cofs (by assumption) (by omega)) | exact validR_n (by first | (left;assumption) | (right;left;omega) | (right;right;left;assumption) | (right;right;right;assumption) | (right;right;right;exact ok_rec (by assumption))))))

abbrev Q__P_impl_Recoder_accept:=(fun (x0:T79) (x1:T50)=>Sh.fit s79 x0∧Sh.fit s50 x1∧recP x0)
def S__P_impl_Recoder_accept:Sum:={ fid:=93,dom:=[s79,s50],cod:=[(.bool 4)],dp:=true,fz:=false,pre:=fun x=>Q__P_impl_Recoder_accept x.1 x.2.1,g:=fun x=>((accOK x.1 x.2.1),()),kinds:=[(.bx 79 0),.rd],upd:=fun x=>(accU x.1 x.2.1,(x.2.1,())) }
def S__P_impl_Recoder_accept_tab:List (Nat×Sum):=[(131,S_impl_IsValidPacket),(130,S_impl_NewBasis),(132,S__P_impl_Basis_insert),(129,S__impl_CodedPacket_clone)]
theorem S__P_impl_Recoder_accept_ok:FnOK Try.prog 93 S__P_impl_Recoder_accept:=by
 refine at_enterI 69 [1,2] [3] (fun us x=>⟨[(0,aP 1 0),(1,aG [cI x.2.1.1,.ro (.int 3) x.2.1.2.1,.ro (.int 3) x.2.1.2.2])],[(1,oX 79 [cI x.1.1,cI x.1.2.1,cI x.1.2.2.1,.sl 2,cI x.1.2.2.2.2]),(2,oR s50 x.1.2.2.2.1),(3,oP 1 (S__P_impl_Recoder_accept.hd us 0))]⟩) Try.func93 rfl (by kernel_rfl) (fun us x=>rfl) ?_
 rintro w0 Z0 us ⟨x0,x1,u⟩ L a w
 revert x0 x1
 intro (x0:T79) (x1:T50) hio hpre hlens h
 replace h:At w0 Z0 L 69 ⟨[(0,aP 1 0),(1,aG [cI x1.1,.ro (.int 3) x1.2.1,.ro (.int 3) x1.2.2])],[(1,oX 79 [cI x0.1,cI x0.2.1,cI x0.2.2.1,.sl 2,cI x0.2.2.2.2]),(2,oR s50 x0.2.2.2.1),(3,oP 1 (S__P_impl_Recoder_accept.hd us 0))]⟩ a w:=h
 replace hpre:Q__P_impl_Recoder_accept x0 x1:=hpre
 have hT:TabOK Try.prog S__P_impl_Recoder_accept_tab:=(.cons S_impl_IsValidPacket_ok (.cons S_impl_NewBasis_ok (.cons S__P_impl_Basis_insert_ok (.cons S__impl_CodedPacket_clone_ok .nil))))
 obtain ⟨hf0,hf1,hpx⟩:=hpre
 have hn0_1:List.length x0.2.2.2.1≤1073741824:=hf0.2.2.2.1.1
 have hn1_2:List.length x1.2.1≤1073741824:=hf1.2.1.1
 have hn1_3:List.length x1.2.2≤1073741824:=hf1.2.2.1
 have hpl:=hpx.1
 refine wp_seq ?_
 refine at_regq [{ ids:=[4] }] { ts:=[0,3,4],os:=[1,2,3,4] } [] gamOK hT h (by kernel_rfl) trivial fun a w h=>then_normal (wp_seq (wp_seq ?_))
 by_cases h1:((List.length x0.2.2.2.1:Nat):Int)=8
 ·refine at_anyq [{}, {}, {}, {}, {}, { hint := some (aB true) }, {}, {}, {}, {}, {}, {}, {}, {}, {}, {}, {}, {}, {}, {}, {}, {}, {}, {}, {}, {}, {}, {}] { ts := [0, 3, 4, 35], os := [1, 2, 3, 4] } [(AV.p (.c (.v (.bool (decide (((List.length x0.2.2.2.1 : Nat) : Int) = 8))))) = AV.p (.c (.v (.bool true))))] gamOK hT mixed h (by kernel_rfl) ⟨hint_bool (decide_eq_true h1), trivial⟩ fun a w h => then_normal ?_
  refine at_test true h (by kernel_rfl) (fun hh=>?_) (fun hh=>nomatch hh)
  refine wp_seq ?_
  refine at_regq [] { ts:=[0,3,4],os:=[1,2,3,4] } [] gamOK hT h (by kernel_rfl) trivial fun a w h=>then_normal (wp_ret (then_ret ?_))
  exact at_returnI (S:=S__P_impl_Recoder_accept) (x:=(x0,x1,())) [1,2] [3] (x0,(x1,())) (some (false,())) [S__P_impl_Recoder_accept.hd us 0=S__P_impl_Recoder_accept.hd us 0] hio h (by kernel_rfl) ⟨rfl,trivial⟩ (by first | rfl | exact congrArg (fun (z:T79)=>(z,(x1,()))) (show (x0:T79)=accU x0 x1 from by (first | (rw [accU_no (accOK_f (by first | (left;omega) | (right;left;assumption) | (right;right;left;omega) | (right;right;right;rw [← hie];assumption)))];done) | (rw [accU_yes (accOK_t (by omega) (by assumption) (by omega) (by rw [← hie];assumption))];done)))) (fun z e=>(Option.some.inj e) ▸ (congrArg (fun z=>(z,())) (show (false)=accOK x0 x1 from by (first | exact (accOK_f (by first | (left;omega) | (right;left;assumption) | (right;right;left;omega) | (right;right;right;rw [← hie];assumption))).symm | exact (accOK_t (by omega) (by assumption) (by omega) (by rw [← hie];assumption)).symm))))
 ·rcases Bool.eq_false_or_eq_true (!(validP x1 x0.2.1 x0.2.2.1)) with h2 | h2
  ·have hzh2 : (validP x1 x0.2.1 x0.2.2.1) = false := notT h2
   refine at_anyq [{},{},{},{},{},{ hint:=some (aB false) },{},{},{},{},{},{},{},{},{},{},{},{ hint:=some (aB true) },{},{},{},{},{},{},{},{},{},{}] { ts:=[0,3,4,35],os:=[1,2,3,4] } [(AV.p (.c (.v (.bool (decide (((List.length x0.2.2.2.1:Nat):Int)=8)))))=AV.p (.c (.v (.bool false)))),Q_impl_IsValidPacket x1 x0.2.1 x0.2.2.1,(AV.p (.c (.v (.bool (!(validP x1 x0.2.1 x0.2.2.1)))))=AV.p (.c (.v (.bool true))))] gamOK hT mixed h (by kernel_rfl) ⟨hint_bool (decide_eq_false h1),(by exact hf1),hint_bool (h2),trivial⟩ fun a w h=>then_normal ?_
   refine at_test true h (by kernel_rfl) (fun hh=>?_) (fun hh=>nomatch hh)
   refine wp_seq ?_
   refine at_regq [] { ts:=[0,3,4],os:=[1,2,3,4] } [] gamOK hT h (by kernel_rfl) trivial fun a w h=>then_normal (wp_ret (then_ret ?_))
   exact at_returnI (S:=S__P_impl_Recoder_accept) (x:=(x0,x1,())) [1,2] [3] (x0,(x1,())) (some (false,())) [S__P_impl_Recoder_accept.hd us 0=S__P_impl_Recoder_accept.hd us 0] hio h (by kernel_rfl) ⟨rfl,trivial⟩ (by first | rfl | exact congrArg (fun (z:T79)=>(z,(x1,()))) (show (x0:T79)=accU x0 x1 from by (first | (rw [accU_no (accOK_f (by first | (left;omega) | (right;left;assumption) | (right;right;left;omega) | (right;right;right;rw [← hie];assumption)))];done) | (rw [accU_yes (accOK_t (by omega) (by assumption) (by omega) (by rw [← hie];assumption))];done)))) (fun z e=>(Option.some.inj e) ▸ (congrArg (fun z=>(z,())) (show (false)=accOK x0 x1 from by (first | exact (accOK_f (by first | (left;omega) | (right;left;assumption) | (right;right;left;omega) | (right;right;right;rw [← hie];assumption))).symm | exact (accOK_t (by omega) (by assumption) (by omega) (by rw [← hie];assumption)).symm))))
  ·have hzh2 : (validP x1 x0.2.1 x0.2.2.1) = true := notF h2
   have hvh2:=validP_n (notF h2)
   refine at_anyq [{},{},{},{},{},{ hint:=some (aB false) },{},{},{},{},{},{},{},{},{},{},{},{ hint:=some (aB false) },{},{},{},{},{},{},{},{},{},{}] { ts:=[0,3,4,35],os:=[1,2,3,4] } [(AV.p (.c (.v (.bool (decide (((List.length x0.2.2.2.1:Nat):Int)=8)))))=AV.p (.c (.v (.bool false)))),Q_impl_IsValidPacket x1 x0.2.1 x0.2.2.1,(AV.p (.c (.v (.bool (!(validP x1 x0.2.1 x0.2.2.1)))))=AV.p (.c (.v (.bool false))))] gamOK hT mixed h (by kernel_rfl) ⟨hint_bool (decide_eq_false h1),(by exact hf1),hint_bool (h2),trivial⟩ fun a w h=>then_normal ?_
   refine at_test (!decide (x1.1=x0.1)) h (by kernel_rfl) (fun h3=>?_) (fun h3=>?_)
   ·replace h3 : ¬ (x1.1 = x0.1) := of_decide_eq_false (notT h3)
    refine wp_seq ?_
    refine at_regq [] { ts:=[0,3,4],os:=[1,2,3,4] } [] gamOK hT h (by kernel_rfl) trivial fun a w h=>then_normal (wp_ret (then_ret ?_))
    exact at_returnI (S:=S__P_impl_Recoder_accept) (x:=(x0,x1,())) [1,2] [3] (x0,(x1,())) (some (false,())) [S__P_impl_Recoder_accept.hd us 0=S__P_impl_Recoder_accept.hd us 0] hio h (by kernel_rfl) ⟨rfl,trivial⟩ (by first | rfl | exact congrArg (fun (z:T79)=>(z,(x1,()))) (show (x0:T79)=accU x0 x1 from by (first | (rw [accU_no (accOK_f (by first | (left;omega) | (right;left;assumption) | (right;right;left;omega) | (right;right;right;rw [← hie];assumption)))];done) | (rw [accU_yes (accOK_t (by omega) (by assumption) (by omega) (by rw [← hie];assumption))];done)))) (fun z e=>(Option.some.inj e) ▸ (congrArg (fun z=>(z,())) (show (false)=accOK x0 x1 from by (first | exact (accOK_f (by first | (left;omega) | (right;left;assumption) | (right;right;left;omega) | (right;right;right;rw [← hie];assumption))).symm | exact (accOK_t (by omega) (by assumption) (by omega) (by rw [← hie];assumption)).symm))))
   ·replace h3 : x1.1 = x0.1 := of_decide_eq_true (notF h3)
    refine wp_skip (then_normal (wp_seq ?_))
    refine at_regq [{},{},{},{},{ ids:=[5] },{ ids:=[6] }] { ts:=[0,3,4,5],os:=[1,2,3,4,5,6] } [True] gamOK hT h (by kernel_rfl) ⟨trivial,trivial⟩ fun a w h=>then_normal (wp_seq (wp_seq ?_))
    refine at_regq [] { ts:=[0,3,4,5,44,45,46],os:=[1,2,3,4,5,6] } [] gamOK hT h (by kernel_rfl) trivial fun a w h=>then_normal (wp_block ?_)
    replace h:=at_out (σ':=⟨[(0,aP 1 0),(3,aP 4 0),(4,aB false),(5,aP 6 0),(44,aS 2),(45,aI ((List.length x0.2.2.2.1:Nat):Int)),(46,aI 0)],[(1,oX 79 [cI x0.1,cI x0.2.1,cI x0.2.2.1,.sl 2,cI x0.2.2.2.2]),(2,oR s50 x0.2.2.2.1),(3,oP 1 (S__P_impl_Recoder_accept.hd us 0)),(4,oX 50 [cI x1.1,.ro (.int 3) x1.2.1,.ro (.int 3) x1.2.2]),(5,oR s22 (newBas x0.2.1).2),(6,oX 95 [cI (newBas x0.2.1).1,.sl 5])]⟩) { ts:=[0,3,4,5,44,45,46],os:=[1,2,3,4,5,6] } h (by kernel_rfl)
    refine at_loop (fun i:Nat=>(⟨[(0,aP 1 0),(3,aP 4 0),(4,aB false),(5,aP 6 0),(44,aS 2),(45,aI ((List.length x0.2.2.2.1:Nat):Int)),(46,aI ((i:Nat):Int))],[(1,oX 79 [cI x0.1,cI x0.2.1,cI x0.2.2.1,.sl 2,cI x0.2.2.2.2]),(2,oR s50 x0.2.2.2.1),(3,oP 1 (S__P_impl_Recoder_accept.hd us 0)),(4,oX 50 [cI x1.1,.ro (.int 3) x1.2.1,.ro (.int 3) x1.2.2]),(5,oR s22 (LA.insTo (cofs x0.2.2.2.1) i)),(6,oX 95 [cI x0.2.1,.sl 5])]⟩:St)) (fun i=>i≤(List.length x0.2.2.2.1)) (fun i=>(List.length x0.2.2.2.1) - i) (0) h (st_congr4 (fun (d0:Int) (d1:List (List Int)) (d2:List T50) (d3:Int)=>(⟨[(0,aP 1 0),(3,aP 4 0),(4,aB false),(5,aP 6 0),(44,aS 2),(45,aI ((List.length x0.2.2.2.1:Nat):Int)),(46,aI d3)],[(1,oX 79 [cI x0.1,cI x0.2.1,cI x0.2.2.1,.sl 2,cI x0.2.2.2.2]),(2,oR s50 d2),(3,oP 1 (S__P_impl_Recoder_accept.hd us 0)),(4,oX 50 [cI x1.1,.ro (.int 3) x1.2.1,.ro (.int 3) x1.2.2]),(5,oR s22 d1),(6,oX 95 [cI d0,.sl 5])]⟩:St)) (show ((newBas x0.2.1).1:Int)=x0.2.1 from by first | with_reducible rfl | (first | rfl | (rw [newBas_at (by omega)];done) | (rw [newBas_at (by omega)];rfl)) | rfl) (show ((newBas x0.2.1).2:List (List Int))=(LA.insTo (cofs x0.2.2.2.1) (0)) from by first | with_reducible rfl | (first | rfl | (rw [newBas_at (by omega)];done) | (rw [newBas_at (by omega)];rfl)) | rfl) (show (x0.2.2.2.1:List T50)=x0.2.2.2.1 from by first | with_reducible rfl | (first | rfl | (rw [newBas_at (by omega)];done) | (rw [newBas_at (by omega)];rfl)) | rfl) (show (0:Int)=(((0):Nat):Int) from by first | with_reducible rfl | (first | rfl | (rw [newBas_at (by omega)];done) | (rw [newBas_at (by omega)];rfl)) | rfl)) (by omega) ?_
    intro i a w hok0 h
    refine wp_seq ?_
    refine at_regq [] { ts:=[0,3,4,5,44,45,46,47],os:=[1,2,3,4,5,6] } [] gamOK hT h (by kernel_rfl) trivial fun a w h=>then_normal (wp_seq ?_)
    refine at_test (decide (((i:Nat):Int) < ((List.length x0.2.2.2.1:Nat):Int))) h (by kernel_rfl) (fun h4=>?_) (fun h4=>?_)
    ·replace h4 : ((i : Nat) : Int) < ((List.length x0.2.2.2.1 : Nat) : Int) := of_decide_eq_true h4
     have hrw:=recP_row hpx (show i < (List.length x0.2.2.2.1) by omega)
     have hbP:basP (x0.2.1,(LA.insTo (cofs x0.2.2.2.1) i)):=⟨by omega,recP_red hpx (by omega)⟩
     refine wp_skip (then_normal (wp_seq (wp_block (wp_seq ?_))))
     replace h:=at_open (σ':=⟨[(0,aP 1 0),(3,aP 4 0),(4,aB false),(5,aP 6 0),(44,aS 2),(45,aI ((List.length x0.2.2.2.1:Nat):Int)),(46,aI ((i:Nat):Int)),(47,aB (decide (((i:Nat):Int) < ((List.length x0.2.2.2.1:Nat):Int))))],[(1,oX 79 [cI x0.1,cI x0.2.1,cI x0.2.2.1,.sl 2,cI x0.2.2.2.2]),(2,some (.op s50 x0.2.2.2.1 i [cI (x0.2.2.2.1.getD i (0,([],[]))).1,.sl 7,.sl 8])),(3,oP 1 (S__P_impl_Recoder_accept.hd us 0)),(4,oX 50 [cI x1.1,.ro (.int 3) x1.2.1,.ro (.int 3) x1.2.2]),(5,oR s22 (LA.insTo (cofs x0.2.2.2.1) i)),(6,oX 95 [cI x0.2.1,.sl 5]),(7,oR (.int 3) (x0.2.2.2.1.getD i (0,([],[]))).2.1),(8,oR (.int 3) (x0.2.2.2.1.getD i (0,([],[]))).2.2)]⟩) (ps:=[i < List.length x0.2.2.2.1]) 2 i [7,8] { ts:=[0,3,4,5,44,45,46,47],os:=[1,2,3,4,5,6,7,8] } h (by kernel_rfl) ⟨(by first | omega | (simp only [lsA];omega) | (simp<;>omega)),trivial⟩
     refine at_regq [{},{},{ ids:=[9] }] { ts:=[0,3,4,5,7,44,45,46],os:=[1,2,3,4,5,6,7,8,9] } [(0:Int)≤((i:Nat):Int)∧((i:Nat):Int) < ((List.length x0.2.2.2.1:Nat):Int),i=i] gamOK hT h (by kernel_rfl) ⟨(by refine ⟨?_,?_⟩<;>(first | omega | (simp only [lsA];omega) | (simp<;>omega))),rfl,trivial⟩ fun a w h=>then_normal ?_
     refine at_regq [{},{},{ ids:=[10] }] { ts:=[0,3,4,5,44,45,46],os:=[1,2,3,4,6,7,8,10] } [Q__P_impl_Basis_insert (x0.2.1,(LA.insTo (cofs x0.2.2.2.1) i)) (x0.2.2.2.1.getD i (0,([],[]))).2.1] gamOK hT h (by kernel_rfl) ⟨(by exact ⟨basP_fit hbP,fitV hrw (by omega),hbP,hrw⟩),trivial⟩ fun a w h=>in_normal (then_normal ?_)
     refine at_regq [{ nw:=true }] { ts:=[0,3,4,5,44,45,46],os:=[1,2,3,4,6,7,8,10] } [I64 (((i:Nat):Int)+1)] gamOK hT h (by kernel_rfl) ⟨⟨by first | omega | (simp only [lsA];omega) | (simp<;>omega),by first | omega | (simp only [lsA];omega) | (simp<;>omega)⟩,trivial⟩ fun a w h=>?_
     replace h:=at_shut (σ':=⟨[(0,aP 1 0),(3,aP 4 0),(4,aB false),(5,aP 6 0),(44,aS 2),(45,aI ((List.length x0.2.2.2.1:Nat):Int)),(46,aI (((i:Nat):Int)+1))],[(1,oX 79 [cI x0.1,cI x0.2.1,cI x0.2.2.1,.sl 2,cI x0.2.2.2.2]),(2,oR s50 (List.set x0.2.2.2.1 i (x0.2.2.2.1.getD i (0,([],[]))))),(3,oP 1 (S__P_impl_Recoder_accept.hd us 0)),(4,oX 50 [cI x1.1,.ro (.int 3) x1.2.1,.ro (.int 3) x1.2.2]),(6,oX 95 [cI (insU (x0.2.1,(LA.insTo (cofs x0.2.2.2.1) i)) (x0.2.2.2.1.getD i (0,([],[]))).2.1).1,.sl 10]),(10,oR s22 (insU (x0.2.1,(LA.insTo (cofs x0.2.2.2.1) i)) (x0.2.2.2.1.getD i (0,([],[]))).2.1).2)]⟩) (ps:=[]) 2 { ts:=[0,3,4,5,44,45,46],os:=[1,2,3,4,6,10] } h (by kernel_rfl) trivial
     replace h:=at_out (σ':=⟨[(0,aP 1 0),(3,aP 4 0),(4,aB false),(5,aP 6 0),(44,aS 2),(45,aI ((List.length x0.2.2.2.1:Nat):Int)),(46,aI (((i:Nat):Int)+1))],[(1,oX 79 [cI x0.1,cI x0.2.1,cI x0.2.2.1,.sl 2,cI x0.2.2.2.2]),(2,oR s50 (List.set x0.2.2.2.1 i (x0.2.2.2.1.getD i (0,([],[]))))),(3,oP 1 (S__P_impl_Recoder_accept.hd us 0)),(4,oX 50 [cI x1.1,.ro (.int 3) x1.2.1,.ro (.int 3) x1.2.2]),(5,oR s22 (insU (x0.2.1,(LA.insTo (cofs x0.2.2.2.1) i)) (x0.2.2.2.1.getD i (0,([],[]))).2.1).2),(6,oX 95 [cI (insU (x0.2.1,(LA.insTo (cofs x0.2.2.2.1) i)) (x0.2.2.2.1.getD i (0,([],[]))).2.1).1,.sl 5])]⟩) { ts:=[0,3,4,5,44,45,46],os:=[1,2,3,4,10,6],rn:=[(10,5)] } h (by kernel_rfl)
     exact ⟨i+1,at_eq h (st_congr4 (fun (d0:Int) (d1:List (List Int)) (d2:List T50) (d3:Int)=>(⟨[(0,aP 1 0),(3,aP 4 0),(4,aB false),(5,aP 6 0),(44,aS 2),(45,aI ((List.length x0.2.2.2.1:Nat):Int)),(46,aI d3)],[(1,oX 79 [cI x0.1,cI x0.2.1,cI x0.2.2.1,.sl 2,cI x0.2.2.2.2]),(2,oR s50 d2),(3,oP 1 (S__P_impl_Recoder_accept.hd us 0)),(4,oX 50 [cI x1.1,.ro (.int 3) x1.2.1,.ro (.int 3) x1.2.2]),(5,oR s22 d1),(6,oX 95 [cI d0,.sl 5])]⟩:St)) (show ((insU (x0.2.1,(LA.insTo (cofs x0.2.2.2.1) i)) (x0.2.2.2.1.getD i (0,([],[]))).2.1).1:Int)=x0.2.1 from by first | with_reducible rfl | (rfl) | rfl) (show ((insU (x0.2.1,(LA.insTo (cofs x0.2.2.2.1) i)) (x0.2.2.2.1.getD i (0,([],[]))).2.1).2:List (List Int))=(LA.insTo (cofs x0.2.2.2.1) (i+1)) from by first | with_reducible rfl | (exact insTo_next (by omega)) | rfl) (show ((List.set x0.2.2.2.1 i (x0.2.2.2.1.getD i (0,([],[])))):List T50)=x0.2.2.2.1 from by first | with_reducible rfl | (exact set_self (by omega)) | rfl) (show (((i:Nat):Int)+1:Int)=(((i+1):Nat):Int) from by first | with_reducible rfl | (omega) | rfl)),(by omega),(by omega)⟩
    ·replace h4 : ¬ (((i : Nat) : Int) < ((List.length x0.2.2.2.1 : Nat) : Int)) := of_decide_eq_false h4
     have hie:i=(List.length x0.2.2.2.1):=by omega
     have hbP:basP (x0.2.1,(LA.insTo (cofs x0.2.2.2.1) i)):=⟨by omega,recP_red hpx (by omega)⟩
     have hpv:=validP_t (p:=x1) (by assumption)
     have hrw:LA.VokB x0.2.1.toNat x1.2.1:=⟨by have:=hpv.2.1;omega,(validV_t hpv.2.2.2.1).2.1⟩
     refine wp_exit (then_exit (then_exit (in_hit (then_normal (wp_seq (wp_seq ?_))))))
     refine at_regq [{},{},{ ids:=[11] }] { ts:=[0,3,4,57],os:=[1,2,3,4] } [Q__P_impl_Basis_insert (x0.2.1,(LA.insTo (cofs x0.2.2.2.1) i)) x1.2.1] gamOK hT h (by kernel_rfl) ⟨(by exact ⟨basP_fit hbP,fitV hrw (by omega),hbP,hrw⟩),trivial⟩ fun a w h=>then_normal ?_
     refine at_test (!(insD (x0.2.1,(LA.insTo (cofs x0.2.2.2.1) i)) x1.2.1)) h (by kernel_rfl) (fun h5=>?_) (fun h5=>?_)
     ·replace h5 : (insD (x0.2.1, (LA.insTo (cofs x0.2.2.2.1) i)) x1.2.1) = false := notT h5
      refine wp_seq ?_
      refine at_regq [] { ts:=[0,3,4],os:=[1,2,3,4] } [] gamOK hT h (by kernel_rfl) trivial fun a w h=>then_normal (wp_ret (then_ret ?_))
      exact at_returnI (S:=S__P_impl_Recoder_accept) (x:=(x0,x1,())) [1,2] [3] (x0,(x1,())) (some (false,())) [S__P_impl_Recoder_accept.hd us 0=S__P_impl_Recoder_accept.hd us 0] hio h (by kernel_rfl) ⟨rfl,trivial⟩ (by first | rfl | exact congrArg (fun (z:T79)=>(z,(x1,()))) (show (x0:T79)=accU x0 x1 from by (first | (rw [accU_no (accOK_f (by first | (left;omega) | (right;left;assumption) | (right;right;left;omega) | (right;right;right;rw [← hie];assumption)))];done) | (rw [accU_yes (accOK_t (by omega) (by assumption) (by omega) (by rw [← hie];assumption))];done)))) (fun z e=>(Option.some.inj e) ▸ (congrArg (fun z=>(z,())) (show (false)=accOK x0 x1 from by (first | exact (accOK_f (by first | (left;omega) | (right;left;assumption) | (right;right;left;omega) | (right;right;right;rw [← hie];assumption))).symm | exact (accOK_t (by omega) (by assumption) (by omega) (by rw [← hie];assumption)).symm))))
     ·replace h5 : (insD (x0.2.1, (LA.insTo (cofs x0.2.2.2.1) i)) x1.2.1) = true := notF h5
      refine wp_skip (then_normal (wp_seq ?_))
      refine at_anyq [{},{},{},{},{},{},{ ids:=[12,13] },{ ids:=[14] },{ ids:=[15] },{},{},{}] { ts:=[4],os:=[1,3,15] } [Q__impl_CodedPacket_clone x1,(List.length x0.2.2.2.1+List.length ([x1]))*56≤140737488355328] gamOK hT mixed h (by kernel_rfl) ⟨(by exact hf1),(by first | omega | (simp only [lsA];omega) | (simp<;>omega)),trivial⟩ fun a w h=>then_normal (wp_seq ?_)
      refine at_regq [] { ts:=[4],os:=[1,3,15] } [] gamOK hT h (by kernel_rfl) trivial fun a w h=>then_normal (wp_ret ?_)
      exact at_returnI (S:=S__P_impl_Recoder_accept) (x:=(x0,x1,())) [1,2] [3] ((x0.1,(x0.2.1,(x0.2.2.1,((x0.2.2.2.1++([x1])),x0.2.2.2.2)))),(x1,())) (some (true,())) [S__P_impl_Recoder_accept.hd us 0=S__P_impl_Recoder_accept.hd us 0] hio h (by kernel_rfl) ⟨rfl,trivial⟩ (by first | rfl | exact congrArg (fun (z:T79)=>(z,(x1,()))) (show ((x0.1,(x0.2.1,(x0.2.2.1,((x0.2.2.2.1++([x1])),x0.2.2.2.2)))):T79)=accU x0 x1 from by (first | (rw [accU_no (accOK_f (by first | (left;omega) | (right;left;assumption) | (right;right;left;omega) | (right;right;right;rw [← hie];assumption)))];done) | (rw [accU_yes (accOK_t (by omega) (by assumption) (by omega) (by rw [← hie];assumption))];done)))) (fun z e=>(Option.some.inj e) ▸ (congrArg (fun z=>(z,())) (show (true)=accOK x0 x1 from by (first | exact (accOK_f (by first | (left;omega) | (right;left;assumption) | (right;right;left;omega) | (right;right;right;rw [← hie];assumption))).symm | exact (accOK_t (by omega) (by assumption) (by omega) (by rw [← hie];assumption)).symm))))

abbrev Q_spec_AcceptPacket:=(fun (x0:T79) (x1:T50)=>Sh.fit s79 x0∧Sh.fit s50 x1∧List.length x0.2.2.2.1≤1073741823)
def S_spec_AcceptPacket:Sum:={ fid:=46,dom:=[s79,s50],cod:=[s79,(.bool 4)],dp:=true,fz:=false,pre:=fun x=>Q_spec_AcceptPacket x.1 x.2.1,g:=fun x=>((acceptR x.1 x.2.1).1,((acceptR x.1 x.2.1).2,())) }
def S_spec_AcceptPacket_tab:List (Nat×Sum):=[(85,S_spec_l15Copy),(87,S_spec_l11Copy),(86,S_spec_IsValidRecoder)]
theorem S_spec_AcceptPacket_ok:FnOK Try.prog 46 S_spec_AcceptPacket:=by
 refine at_enter 22 (fun x=>⟨[(0,aG [cI x.1.1,cI x.1.2.1,cI x.1.2.2.1,.ro s50 x.1.2.2.2.1,cI x.1.2.2.2.2]),(1,aG [cI x.2.1.1,.ro (.int 3) x.2.1.2.1,.ro (.int 3) x.2.1.2.2])],[]⟩) Try.func46 rfl (by kernel_rfl) (fun x=>rfl) ?_
 rintro w0 Z0 ⟨x0,x1,u⟩ a w
 revert x0 x1
 intro (x0:T79) (x1:T50) hpre hlens h
 replace hpre:Q_spec_AcceptPacket x0 x1:=hpre
 have hT:TabOK Try.prog S_spec_AcceptPacket_tab:=(.cons S_spec_l15Copy_ok (.cons S_spec_l11Copy_ok (.cons S_spec_IsValidRecoder_ok .nil)))
 obtain ⟨hf0,hf1,hpx⟩:=hpre
 have hn0_1:List.length x0.2.2.2.1≤1073741824:=hf0.2.2.2.1.1
 have hn1_2:List.length x1.2.1≤1073741824:=hf1.2.1.1
 have hn1_3:List.length x1.2.2≤1073741824:=hf1.2.2.1
 refine wp_seq ?_
 refine at_regq [{ ids:=[1] },{ ids:=[2] },{ ids:=[3] }] { ts:=[2,3,4,5],os:=[1,2,3] } [] gamOK hT h (by kernel_rfl) trivial fun a w h=>then_normal (wp_seq ?_)
 refine at_regq [{},{ ids:=[4] },{ ids:=[5] }] { ts:=[2,3,4,5,6],os:=[1,2,3,4,5] } [Q_spec_l15Copy x0] gamOK hT h (by kernel_rfl) ⟨(by exact hf0),trivial⟩ fun a w h=>then_normal (wp_seq ?_)
 refine at_anyq [{},{},{},{ ids:=[6,7] },{ ids:=[8] },{ ids:=[9] },{},{}] { ts:=[2,4,5,6],os:=[1,3,5,9] } [Q_spec_l11Copy x1,(List.length x0.2.2.2.1+List.length ([x1]))*56≤140737488355328] gamOK hT mixed h (by kernel_rfl) ⟨(by exact hf1),(by first | omega | (simp only [lsA];omega) | (simp<;>omega)),trivial⟩ fun a w h=>then_normal (wp_seq (wp_seq ?_))
 refine at_regq [] { ts:=[2,4,5,6,18],os:=[1,3,5,9] } [Q_spec_IsValidRecoder (x0.1,(x0.2.1,(x0.2.2.1,((x0.2.2.2.1++([x1])),x0.2.2.2.2))))] gamOK hT h (by kernel_rfl) ⟨(by first | exact hf0 | exact ⟨trivial,trivial,trivial,fit_snoc hf0.2.2.2.1 hf1 hpx,trivial⟩),trivial⟩ fun a w h=>then_normal ?_
 refine at_test (!(validR (x0.1,(x0.2.1,(x0.2.2.1,((x0.2.2.2.1++([x1])),x0.2.2.2.2)))))) h (by kernel_rfl) (fun h1=>?_) (fun h1=>?_)
 ·replace h1 : (validR (x0.1, (x0.2.1, (x0.2.2.1, ((x0.2.2.2.1 ++ ([x1])), x0.2.2.2.2))))) = false := notT h1
  refine wp_seq ?_
  refine at_regq [{},{ ids:=[10] }] { ts:=[4,5,6],os:=[3,5,9,10] } [Q_spec_l15Copy x0] gamOK hT h (by kernel_rfl) ⟨(by exact hf0),trivial⟩ fun a w h=>then_normal (wp_ret (then_ret ?_))
  exact at_return (x0,(false,())) [] h (by kernel_rfl) trivial (congrArg (fun z=>(z.1,z.2,())) (show ((x0,false))=acceptR x0 x1 from by (first | (have hsn:=validR_snoc x0 x1;have ht:=hsn.symm.trans (by assumption:_=true);rw [Bool.and_eq_true] at ht;unfold acceptR;rw [if_pos ht,accU_yes ht.2];done) | (have hsn:=validR_snoc x0 x1;have ht:=hsn.symm.trans (by assumption:_=false);unfold acceptR;rw [if_neg (fun e=>by rw [e.1,e.2] at ht;cases ht)];done))))
 ·replace h1 : (validR (x0.1, (x0.2.1, (x0.2.2.1, ((x0.2.2.2.1 ++ ([x1])), x0.2.2.2.2))))) = true := notF h1
  have hvh1:=validR_t h1
  refine wp_skip (then_normal (wp_seq ?_))
  refine at_regq [] { ts:=[4,5],os:=[3,9] } [] gamOK hT h (by kernel_rfl) trivial fun a w h=>then_normal (wp_ret ?_)
  exact at_return ((x0.1,(x0.2.1,(x0.2.2.1,((x0.2.2.2.1++([x1])),x0.2.2.2.2)))),(true,())) [] h (by kernel_rfl) trivial (congrArg (fun z=>(z.1,z.2,())) (show (((x0.1,(x0.2.1,(x0.2.2.1,((x0.2.2.2.1++([x1])),x0.2.2.2.2)))),true))=acceptR x0 x1 from by (first | (have hsn:=validR_snoc x0 x1;have ht:=hsn.symm.trans (by assumption:_=true);rw [Bool.and_eq_true] at ht;unfold acceptR;rw [if_pos ht,accU_yes ht.2];done) | (have hsn:=validR_snoc x0 x1;have ht:=hsn.symm.trans (by assumption:_=false);unfold acceptR;rw [if_neg (fun e=>by rw [e.1,e.2] at ht;cases ht)];done))))

def cmpI (a b:Int):Int:=if a < b then -1 else if b < a then 1 else 0
theorem cmpI_lt {a b:Int}:cmpI a b < 0↔a < b:=by
 unfold cmpI;split
 ·rename_i h;exact ⟨fun _=>h,fun _=>by decide⟩
 ·rename_i h; split
  ·exact ⟨fun h1=>absurd h1 (by decide),fun h1=>absurd h1 h⟩
  ·exact ⟨fun h1=>absurd h1 (by decide),fun h1=>absurd h1 h⟩
theorem cmpI_eq {a b:Int}:cmpI a b=0↔a=b:=by
 unfold cmpI;split
 ·exact ⟨fun h1=>absurd h1 (by decide),fun h1=>by omega⟩
 ·split
  ·exact ⟨fun h1=>absurd h1 (by decide),fun h1=>by omega⟩
  ·exact ⟨fun _=>by omega,fun _=>rfl⟩
section
variable {α:Type}
def ltK (f:α→Int) (z:α) (xs:List α) (v:Int) (k:Nat):Bool:=decide (f (xs.getD k z) < v)
def srtK (f:α→Int) (z:α) (xs:List α):Prop:=∀ a b,a < b→b < xs.length→f (xs.getD a z) < f (xs.getD b z)
def bsK (f:α→Int) (z:α) (xs:List α) (v:Int):Nat:=bsF (ltK f z xs v) 0 xs.length
def fndK (f:α→Int) (z:α) (xs:List α) (v:Int):Bool:=decide (bsK f z xs v < xs.length∧f (xs.getD (bsK f z xs v) z)=v)
theorem bsK_le (f:α→Int) (z:α) (xs:List α) (v:Int):bsK f z xs v≤xs.length:=(bsF_bd _ xs.length 0 xs.length (by omega) (by omega)).2
theorem bsK_spec {f:α→Int} {z:α} {xs:List α} (hs:srtK f z xs) (v:Int):(∀ a,a < bsK f z xs v→f (xs.getD a z) < v)∧∀ a,bsK f z xs v≤a→a < xs.length→v≤f (xs.getD a z):=by
 have hm:∀ a b,a≤b→b < xs.length→ltK f z xs v b=true→ltK f z xs v a=true:=fun a b hab hb hp=>by
  unfold ltK at hp ⊢
  rw [decide_eq_true_iff] at hp ⊢
  by_cases e:a=b
  ·rw [e];exact hp
  ·have:=hs a b (by omega) hb;omega
 obtain ⟨h1,h2⟩:=bsF_first hm xs.length 0 xs.length (by omega) (by omega) (Nat.le_refl _) (fun a ha=>by omega) (fun a ha hn=>by omega)
 exact ⟨fun a ha=>of_decide_eq_true (h1 a ha),fun a ha hn=>by have:=of_decide_eq_false (h2 a ha hn);omega⟩
theorem bsK_at {f:α→Int} {z:α} {xs:List α} {v:Int} {i:Nat} (hs:srtK f z xs) (hi:i < xs.length) (he:f (xs.getD i z)=v):bsK f z xs v=i:=by
 obtain ⟨h1,h2⟩:=bsK_spec hs v
 rcases Nat.lt_trichotomy (bsK f z xs v) i with h | h | h
 ·have := h2 _ (Nat.le_refl _) (by omega)
  have:=hs _ _ h hi
  omega
 ·exact h
 ·have:=h1 _ h;omega
theorem fndK_at {f:α→Int} {z:α} {xs:List α} {v:Int} {i:Nat} (hs:srtK f z xs) (hi:i < xs.length) (he:f (xs.getD i z)=v):fndK f z xs v=true:=by
 unfold fndK;rw [bsK_at hs hi he];exact decide_eq_true ⟨hi,he⟩
theorem fnd_eq {f:α→Int} {z:α} {xs:List α} {v:Int} {q:Nat} (h:q < xs.length):decide (cmpI (f (xs.getD q z)) v=0)=decide (q < xs.length∧f (xs.getD q z)=v):=by rw [decide_eq_decide,cmpI_eq];exact ⟨fun e=>⟨h,e⟩,fun e=>e.2⟩
theorem fnd_no {f:α→Int} {z:α} {xs:List α} {v:Int} {q:Nat} (h:¬ q < xs.length):false=decide (q < xs.length∧f (xs.getD q z)=v):=(decide_eq_false fun e=>h e.1).symm
theorem fndK_none {f:α→Int} {z:α} {xs:List α} {v:Int} (h:∀ i,i < xs.length→f (xs.getD i z)≠v):fndK f z xs v=false:=decide_eq_false fun e=>h _ e.1 e.2
theorem fndK_t {f:α→Int} {z:α} {xs:List α} {v:Int} (h:fndK f z xs v=true):bsK f z xs v < xs.length∧f (xs.getD (bsK f z xs v) z)=v:=of_decide_eq_true h
theorem srt_of {f:α→Int} {z:α} {xs:List α} (h:∀ i,i+1 < xs.length→f (xs.getD i z) < f (xs.getD (i+1) z)):srtK f z xs:=by
 intro a b hab hb
 obtain ⟨d,rfl⟩:∃ d,b=a+1+d:=⟨b - a - 1,by omega⟩
 induction d with
 | zero=>exact h a (by omega)
 | succ d ih=>have h1:=ih (by omega) (by omega);have h2:=h (a+1+d) (by omega);have e:a+1+d+1=a+1+(d+1):=(by omega);rw [e] at h2;omega
def ordB (f:α→Int) (z:α) (xs:List α) (i:Nat):Bool:=decide (i=0) || decide (f (xs.getD (i - 1) z) < f (xs.getD i z))
theorem ordB_t {f:α→Int} {z:α} {xs:List α} {i:Nat} (h:i=0∨f (xs.getD (((i:Nat):Int) - 1).toNat z) < f (xs.getD i z)):ordB f z xs i=true:=by
 have e:(((i:Nat):Int) - 1).toNat=i - 1:=by omega
 rw [e] at h
 unfold ordB;rw [Bool.or_eq_true,decide_eq_true_iff,decide_eq_true_iff];exact h
theorem ordB_f {f:α→Int} {z:α} {xs:List α} {i:Nat} (h:0 < i∧f (xs.getD i z)≤f (xs.getD (((i:Nat):Int) - 1).toNat z)):ordB f z xs i=false:=by
 have e:(((i:Nat):Int) - 1).toNat=i - 1:=by omega
 rw [e] at h
 unfold ordB;rw [Bool.or_eq_false_iff,decide_eq_false_iff_not,decide_eq_false_iff_not];omega
theorem srt_ord {f:α→Int} {z:α} {xs:List α} (h:∀ i,i < xs.length→ordB f z xs i=true):srtK f z xs:=srt_of fun i hi=>by
 have:=h (i+1) hi
 unfold ordB at this
 rw [Bool.or_eq_true,decide_eq_true_iff,decide_eq_true_iff] at this
 rcases this with h | h
 ·omega
 ·exact h
end
def relB (xs:List T79) (i:Nat):Bool:=validR (xs.getD i (0,(0,(0,([],0))))) && ordB (fun x=>x.1) (0,(0,(0,([],0)))) xs i
theorem relB_t {xs:List T79} {i:Nat} (h:validR (xs.getD i (0,(0,(0,([],0)))))=true) (h2:i=0∨(xs.getD (((i:Nat):Int) - 1).toNat (0,(0,(0,([],0))))).1 < (xs.getD i (0,(0,(0,([],0))))).1):relB xs i=true:=by unfold relB;rw [h,ordB_t h2];rfl
theorem relB_f1 {xs:List T79} {i:Nat} (h:validR (xs.getD i (0,(0,(0,([],0)))))=false):relB xs i=false:=by unfold relB;rw [h];rfl
theorem relB_f2 {xs:List T79} {i:Nat} (h2:0 < i∧(xs.getD i (0,(0,(0,([],0))))).1≤(xs.getD (((i:Nat):Int) - 1).toNat (0,(0,(0,([],0))))).1):relB xs i=false:=by unfold relB;rw [ordB_f h2,Bool.and_false]
def validL (r:T46):Bool:=allN (relB r.2) (List.length r.2) && (inR r.1 0 7 && decide (List.length r.2≤4))
theorem validL_t {r:T46} (h:validL r=true):(0≤r.1∧r.1≤7)∧List.length r.2≤4∧srtK (fun x=>x.1) (0,(0,(0,([],0)))) r.2∧∀ i,i < r.2.length→validR (r.2.getD i (0,(0,(0,([],0)))))=true:=by
 unfold validL at h
 rw [Bool.and_eq_true,Bool.and_eq_true] at h
 have h1:=allN_iff.1 h.1
 refine ⟨inR_t h.2.1,of_decide_eq_true h.2.2,srt_ord fun i hi=>?_,fun i hi=>?_⟩
 ·have:=h1 i hi;unfold relB at this;rw [Bool.and_eq_true] at this;exact this.2
 ·have:=h1 i hi;unfold relB at this;rw [Bool.and_eq_true] at this;exact this.1
def S_cmp_Compare_int_:Sum:={ fid:=121,dom:=[(.int 3),(.int 3)],cod:=[(.int 3)],dp:=true,fz:=false,pre:=fun x=>True,g:=fun x=>((cmpI x.1 x.2.1),()) }
def S_cmp_Compare_int__tab:List (Nat×Sum):=[(144,S_cmp_isNaN_int_)]
theorem S_cmp_Compare_int__ok:FnOK Try.prog 121 S_cmp_Compare_int_:=by
 refine at_enter 20 (fun x=>⟨[(0,aI x.1),(1,aI x.2.1)],[]⟩) Try.func121 rfl (by kernel_rfl) (fun x=>rfl) ?_
 rintro w0 Z0 ⟨x0,x1,u⟩ a w
 revert x0 x1
 intro (x0:Int) (x1:Int) hpre hlens h
 have hT:TabOK Try.prog S_cmp_Compare_int__tab:=(.cons S_cmp_isNaN_int__ok .nil)
 refine wp_seq ?_
 refine at_regq [] { ts:=[0,1,4],os:=[] } [] gamOK hT h (by kernel_rfl) trivial fun a w h=>then_normal (wp_seq ?_)
 refine at_regq [] { ts:=[0,1,4,5],os:=[] } [True] gamOK hT h (by kernel_rfl) ⟨trivial,trivial⟩ fun a w h=>then_normal (wp_seq ?_)
 refine at_regq [] { ts:=[0,1,4,5,6],os:=[] } [True] gamOK hT h (by kernel_rfl) ⟨trivial,trivial⟩ fun a w h=>then_normal (wp_seq (wp_seq ?_))
 refine at_regq [] { ts:=[0,1,4,6,11],os:=[] } [] gamOK hT h (by kernel_rfl) trivial fun a w h=>then_normal ?_
 refine at_test ((D_cmp_isNaN_int_ x0)) h (by kernel_rfl) (fun h1=>?_) (fun h1=>?_)
 ·refine wp_seq (wp_seq ?_)
  refine at_regq [] { ts:=[0,1,4,6,12],os:=[] } [] gamOK hT h (by kernel_rfl) trivial fun a w h=>then_normal ?_
  refine at_test ((D_cmp_isNaN_int_ x1)) h (by kernel_rfl) (fun h2=>?_) (fun h2=>?_)
  ·refine wp_seq ?_
   refine at_regq [] { ts:=[0,1,4,6],os:=[] } [] gamOK hT h (by kernel_rfl) trivial fun a w h=>then_normal (wp_ret (then_ret (then_ret ?_)))
   exact at_return (0,()) [] h (by kernel_rfl) trivial (congrArg (fun z=>(z,())) (show (0)=cmpI x0 x1 from by (unfold cmpI;simp_all [D_cmp_isNaN_int_];try omega)))
  ·refine wp_skip (then_normal (wp_seq ?_))
   refine at_regq [] { ts:=[0,1,4,6],os:=[] } [] gamOK hT h (by kernel_rfl) trivial fun a w h=>then_normal (wp_ret (then_ret ?_))
   exact at_return ((-1),()) [] h (by kernel_rfl) trivial (congrArg (fun z=>(z,())) (show ((-1))=cmpI x0 x1 from by (unfold cmpI;simp_all [D_cmp_isNaN_int_];try omega)))
 ·refine wp_skip (then_normal (wp_seq (wp_seq ?_)))
  refine at_regq [] { ts:=[0,1,4,13],os:=[] } [] gamOK hT h (by kernel_rfl) trivial fun a w h=>then_normal ?_
  refine at_test ((D_cmp_isNaN_int_ x1)) h (by kernel_rfl) (fun h3=>?_) (fun h3=>?_)
  ·refine wp_seq ?_
   refine at_regq [] { ts:=[0,1,4],os:=[] } [] gamOK hT h (by kernel_rfl) trivial fun a w h=>then_normal (wp_ret (then_ret ?_))
   exact at_return (1,()) [] h (by kernel_rfl) trivial (congrArg (fun z=>(z,())) (show (1)=cmpI x0 x1 from by (unfold cmpI;simp_all [D_cmp_isNaN_int_];try omega)))
  ·refine wp_skip (then_normal (wp_seq (wp_seq ?_)))
   refine at_regq [] { ts:=[0,1,4,16],os:=[] } [] gamOK hT h (by kernel_rfl) trivial fun a w h=>then_normal ?_
   refine at_test (decide (x0 < x1)) h (by kernel_rfl) (fun h4=>?_) (fun h4=>?_)
   ·replace h4 : x0 < x1 := of_decide_eq_true h4
    refine wp_seq ?_
    refine at_regq [] { ts:=[0,1,4],os:=[] } [] gamOK hT h (by kernel_rfl) trivial fun a w h=>then_normal (wp_ret (then_ret ?_))
    exact at_return ((-1),()) [] h (by kernel_rfl) trivial (congrArg (fun z=>(z,())) (show ((-1))=cmpI x0 x1 from by (unfold cmpI;simp_all [D_cmp_isNaN_int_];try omega)))
   ·replace h4 : ¬ (x0 < x1) := of_decide_eq_false h4
    refine wp_skip (then_normal (wp_seq (wp_seq ?_)))
    refine at_regq [] { ts:=[4,19],os:=[] } [] gamOK hT h (by kernel_rfl) trivial fun a w h=>then_normal ?_
    refine at_test (decide (x0 > x1)) h (by kernel_rfl) (fun h5=>?_) (fun h5=>?_)
    ·replace h5 : x0 > x1 := of_decide_eq_true h5
     refine wp_seq ?_
     refine at_regq [] { ts:=[4],os:=[] } [] gamOK hT h (by kernel_rfl) trivial fun a w h=>then_normal (wp_ret (then_ret ?_))
     exact at_return (1,()) [] h (by kernel_rfl) trivial (congrArg (fun z=>(z,())) (show (1)=cmpI x0 x1 from by (unfold cmpI;simp_all [D_cmp_isNaN_int_];try omega)))
    ·replace h5 : ¬ (x0 > x1) := of_decide_eq_false h5
     refine wp_skip (then_normal (wp_seq ?_))
     refine at_regq [] { ts:=[4],os:=[] } [] gamOK hT h (by kernel_rfl) trivial fun a w h=>then_normal (wp_ret ?_)
     exact at_return (0,()) [] h (by kernel_rfl) trivial (congrArg (fun z=>(z,())) (show (0)=cmpI x0 x1 from by (unfold cmpI;simp_all [D_cmp_isNaN_int_];try omega)))

abbrev Q_impl_IsValidRelay:=(fun (x0:T46)=>Sh.fit s46 x0)
def S_impl_IsValidRelay:Sum:={ fid:=50,dom:=[s46],cod:=[(.bool 4)],dp:=true,fz:=false,pre:=fun x=>Q_impl_IsValidRelay x.1,g:=fun x=>((validL x.1),()) }
def S_impl_IsValidRelay_tab:List (Nat×Sum):=[(91,S_impl_IsValidRecoder),(73,S_impl_InRange)]
theorem S_impl_IsValidRelay_ok:FnOK Try.prog 50 S_impl_IsValidRelay:=by
 refine at_enter 42 (fun x=>⟨[(0,aG [cI x.1.1,.ro s79 x.1.2])],[]⟩) Try.func50 rfl (by kernel_rfl) (fun x=>rfl) ?_
 rintro w0 Z0 ⟨x0,u⟩ a w
 revert x0
 intro (x0:T46) hpre hlens h
 replace hpre:Q_impl_IsValidRelay x0:=hpre
 have hT:TabOK Try.prog S_impl_IsValidRelay_tab:=(.cons S_impl_IsValidRecoder_ok (.cons S_impl_InRange_ok .nil))
 have hf0:Sh.fit s46 x0:=hpre
 have hn0_1:List.length x0.2≤1073741824:=hf0.2.1
 refine wp_seq ?_
 refine at_regq [{ ids:=[1] }] { ts:=[1,2],os:=[1] } [] gamOK hT h (by kernel_rfl) trivial fun a w h=>then_normal (wp_seq (wp_seq ?_))
 refine at_regq [] { ts:=[1,2,6,7,8],os:=[1] } [] gamOK hT h (by kernel_rfl) trivial fun a w h=>then_normal (wp_block ?_)
 replace h:=at_out (σ':=⟨[(1,aP 1 0),(2,aB false),(6,aF s79 x0.2),(7,aI ((List.length x0.2:Nat):Int)),(8,aI 0)],[(1,oX 46 [cI x0.1,.ro s79 x0.2])]⟩) { ts:=[1,2,6,7,8],os:=[1] } h (by kernel_rfl)
 refine at_loop (fun i:Nat=>(⟨[(1,aP 1 0),(2,aB false),(6,aF s79 x0.2),(7,aI ((List.length x0.2:Nat):Int)),(8,aI ((i:Nat):Int))],[(1,oX 46 [cI x0.1,.ro s79 x0.2])]⟩:St)) (fun i=>(i≤(List.length x0.2)∧allN (relB x0.2) i=true)) (fun i=>(List.length x0.2) - i) (0) h (st_congr1 (fun (d0:Int)=>(⟨[(1,aP 1 0),(2,aB false),(6,aF s79 x0.2),(7,aI ((List.length x0.2:Nat):Int)),(8,aI d0)],[(1,oX 46 [cI x0.1,.ro s79 x0.2])]⟩:St)) (show (0:Int)=(((0):Nat):Int) from by first | with_reducible rfl | (rfl) | rfl)) (by exact ⟨Nat.zero_le _,rfl⟩) ?_
 intro i a w hok0 h
 refine wp_seq ?_
 refine at_regq [] { ts:=[1,2,6,7,8,9],os:=[1] } [] gamOK hT h (by kernel_rfl) trivial fun a w h=>then_normal (wp_seq ?_)
 refine at_test (decide (((i:Nat):Int) < ((List.length x0.2:Nat):Int))) h (by kernel_rfl) (fun h1=>?_) (fun h1=>?_)
 ·replace h1 : ((i : Nat) : Int) < ((List.length x0.2 : Nat) : Int) := of_decide_eq_true h1
  refine wp_skip (then_normal (wp_seq (wp_block (wp_seq ?_))))
  refine at_regq [{},{},{},{ ids:=[2] }] { ts:=[1,2,3,4,6,7,8],os:=[1,2] } [(0:Int)≤((i:Nat):Int)∧((i:Nat):Int) < ((List.length x0.2:Nat):Int)] gamOK hT h (by kernel_rfl) ⟨(by refine ⟨?_,?_⟩<;>(first | omega | (simp only [lsA];omega) | (simp<;>omega))),trivial⟩ fun a w h=>then_normal (wp_seq ?_)
  rcases Bool.eq_false_or_eq_true (!(validR (x0.2.getD i (0,(0,(0,([],0))))))) with h2 | h2
  ·have hzh2 : (validR (x0.2.getD i (0, (0, (0, ([], 0)))))) = false := notT h2
   refine at_anyq [{},{},{ hint:=some (aB true) },{},{},{},{},{},{},{},{},{},{},{},{},{},{},{},{}] { ts:=[1,2,6,7,8,17,18,19,20,21,22,23,24,25,26,27,28,29,30,31],os:=[1] } [Q_impl_IsValidRecoder (x0.2.getD i (0,(0,(0,([],0))))),(AV.p (.c (.v (.bool (!(validR (x0.2.getD i (0,(0,(0,([],0))))))))))=AV.p (.c (.v (.bool true))))] gamOK hT mixed h (by kernel_rfl) ⟨(by exact (Sh.fit_getD hf0.2 i)),hint_bool (h2),trivial⟩ fun a w h=>then_normal ?_
   refine at_test true h (by kernel_rfl) (fun hh=>?_) (fun hh=>nomatch hh)
   refine wp_seq ?_
   refine at_regq [] { ts:=[1,2,6,7,8,17,18,19,20,21,22,23,24,25,26,27,28,29,30],os:=[1] } [] gamOK hT h (by kernel_rfl) trivial fun a w h=>then_normal (wp_ret (in_ret (then_ret ?_)))
   have hs3:(allN (relB x0.2) (List.length x0.2))=false:=by exact allN_at (i:=i) (by omega) (by first | exact relB_f1 (by assumption) | exact relB_f2 (by omega))
   refine then_ret (in_ret (then_ret ?_))
   exact at_return (false,()) [] h (by kernel_rfl) trivial (congrArg (fun z=>(z,())) (show (false)=validL x0 from by (unfold validL;simp_all;try omega)))
  ·have hzh2 : (validR (x0.2.getD i (0, (0, (0, ([], 0)))))) = true := notF h2
   have hvh2:=validR_t (notF h2)
   by_cases h4:((i:Nat):Int) > 0
   ·refine at_anyq [{}, {}, { hint := some (aB false) }, {}, {}, { hint := some (aB true) }, {}, {}, {}, {}, {}, {}, { nw := true }, {}, {}, {}, {}, {}, {}] { ts := [1, 2, 6, 7, 8, 17, 18, 19, 20, 21, 22, 23, 24, 25, 26, 27, 28, 29, 30, 31], os := [1, 2] } [Q_impl_IsValidRecoder (x0.2.getD i (0, (0, (0, ([], 0))))), (AV.p (.c (.v (.bool (!(validR (x0.2.getD i (0, (0, (0, ([], 0)))))))))) = AV.p (.c (.v (.bool false)))), (AV.p (.c (.v (.bool (decide (((i : Nat) : Int) > 0))))) = AV.p (.c (.v (.bool true)))), I64 (((i : Nat) : Int) - 1), (0 : Int) ≤ ((i : Nat) : Int) - 1 ∧ ((i : Nat) : Int) - 1 < ((List.length x0.2 : Nat) : Int)] gamOK hT mixed h (by kernel_rfl) ⟨(by exact (Sh.fit_getD hf0.2 i)), hint_bool (h2), hint_bool (decide_eq_true h4), ⟨by first | omega | (simp only [lsA]; omega) | (simp <;> omega), by first | omega | (simp only [lsA]; omega) | (simp <;> omega)⟩, (by refine ⟨?_, ?_⟩ <;> (first | omega | (simp only [lsA]; omega) | (simp <;> omega))), trivial⟩ fun a w h => then_normal ?_
    refine at_test (decide ((x0.2.getD i (0,(0,(0,([],0))))).1≤(x0.2.getD ((((i:Nat):Int) - 1).toNat) (0,(0,(0,([],0))))).1)) h (by kernel_rfl) (fun h5=>?_) (fun h5=>?_)
    ·replace h5 : (x0.2.getD i (0, (0, (0, ([], 0))))).1 ≤ (x0.2.getD ((((i : Nat) : Int) - 1).toNat) (0, (0, (0, ([], 0))))).1 := of_decide_eq_true h5
     refine wp_seq ?_
     refine at_regq [] { ts:=[1,2,6,7,8,17,18,19,20,21,22,23,24,25,26,27,28,29,30],os:=[1,2] } [] gamOK hT h (by kernel_rfl) trivial fun a w h=>then_normal (wp_ret (in_ret (then_ret ?_)))
     have hs6:(allN (relB x0.2) (List.length x0.2))=false:=by exact allN_at (i:=i) (by omega) (by first | exact relB_f1 (by assumption) | exact relB_f2 (by omega))
     refine then_ret (in_ret (then_ret ?_))
     exact at_return (false,()) [] h (by kernel_rfl) trivial (congrArg (fun z=>(z,())) (show (false)=validL x0 from by (unfold validL;simp_all;try omega)))
    ·replace h5 : ¬ ((x0.2.getD i (0, (0, (0, ([], 0))))).1 ≤ (x0.2.getD ((((i : Nat) : Int) - 1).toNat) (0, (0, (0, ([], 0))))).1) := of_decide_eq_false h5
     refine wp_skip (in_normal (then_normal ?_))
     refine at_regq [{ nw:=true }] { ts:=[1,2,6,7,8,17,18,19,20,21,22,23,24,25,26,27,28,29,30],os:=[1,2] } [I64 (((i:Nat):Int)+1)] gamOK hT h (by kernel_rfl) ⟨⟨by first | omega | (simp only [lsA];omega) | (simp<;>omega),by first | omega | (simp only [lsA];omega) | (simp<;>omega)⟩,trivial⟩ fun a w h=>?_
     replace h:=at_out (σ':=⟨[(1,aP 1 0),(2,aB false),(6,aF s79 x0.2),(7,aI ((List.length x0.2:Nat):Int)),(8,aI (((i:Nat):Int)+1))],[(1,oX 46 [cI x0.1,.ro s79 x0.2])]⟩) { ts:=[1,2,6,7,8],os:=[1] } h (by kernel_rfl)
     exact ⟨i+1,at_eq h (st_congr1 (fun (d0:Int)=>(⟨[(1,aP 1 0),(2,aB false),(6,aF s79 x0.2),(7,aI ((List.length x0.2:Nat):Int)),(8,aI d0)],[(1,oX 46 [cI x0.1,.ro s79 x0.2])]⟩:St)) (show (((i:Nat):Int)+1:Int)=(((i+1):Nat):Int) from by first | with_reducible rfl | (omega) | rfl)),(by exact ⟨by omega,allN_succ hok0.2 (by exact relB_t (by assumption) (by omega))⟩),(by omega)⟩
   ·refine at_anyq [{}, {}, { hint := some (aB false) }, {}, {}, { hint := some (aB false) }, {}, {}, {}, {}, {}, {}, {}, {}, {}, {}, {}, {}, {}] { ts := [1, 2, 6, 7, 8, 17, 18, 19, 20, 21, 22, 23, 24, 25, 26, 27, 28, 29, 30, 31], os := [1] } [Q_impl_IsValidRecoder (x0.2.getD i (0, (0, (0, ([], 0))))), (AV.p (.c (.v (.bool (!(validR (x0.2.getD i (0, (0, (0, ([], 0)))))))))) = AV.p (.c (.v (.bool false)))), (AV.p (.c (.v (.bool (decide (((i : Nat) : Int) > 0))))) = AV.p (.c (.v (.bool false))))] gamOK hT mixed h (by kernel_rfl) ⟨(by exact (Sh.fit_getD hf0.2 i)), hint_bool (h2), hint_bool (decide_eq_false h4), trivial⟩ fun a w h => then_normal ?_
    refine at_test false h (by kernel_rfl) (fun hh=>nomatch hh) (fun hh=>?_)
    refine wp_skip (in_normal (then_normal ?_))
    refine at_regq [{ nw:=true }] { ts:=[1,2,6,7,8,17,18,19,20,21,22,23,24,25,26,27,28,29,30],os:=[1] } [I64 (((i:Nat):Int)+1)] gamOK hT h (by kernel_rfl) ⟨⟨by first | omega | (simp only [lsA];omega) | (simp<;>omega),by first | omega | (simp only [lsA];omega) | (simp<;>omega)⟩,trivial⟩ fun a w h=>?_
    replace h:=at_out (σ':=⟨[(1,aP 1 0),(2,aB false),(6,aF s79 x0.2),(7,aI ((List.length x0.2:Nat):Int)),(8,aI (((i:Nat):Int)+1))],[(1,oX 46 [cI x0.1,.ro s79 x0.2])]⟩) { ts:=[1,2,6,7,8],os:=[1] } h (by kernel_rfl)
    exact ⟨i+1,at_eq h (st_congr1 (fun (d0:Int)=>(⟨[(1,aP 1 0),(2,aB false),(6,aF s79 x0.2),(7,aI ((List.length x0.2:Nat):Int)),(8,aI d0)],[(1,oX 46 [cI x0.1,.ro s79 x0.2])]⟩:St)) (show (((i:Nat):Int)+1:Int)=(((i+1):Nat):Int) from by first | with_reducible rfl | (omega) | rfl)),(by exact ⟨by omega,allN_succ hok0.2 (by exact relB_t (by assumption) (by omega))⟩),(by omega)⟩
 ·replace h1 : ¬ (((i : Nat) : Int) < ((List.length x0.2 : Nat) : Int)) := of_decide_eq_false h1
  refine wp_exit (then_exit ?_)
  have hs7:(allN (relB x0.2) (List.length x0.2))=true:=by exact allN_eq (by omega) hok0.1 hok0.2
  refine then_exit (in_hit (then_normal (wp_seq ?_)))
  rcases Bool.eq_false_or_eq_true ((inR x0.1 0 7)) with h8 | h8
  ·have hvh8 := inR_t h8
   refine at_regq [{},{},{ hint:=some (aB true) }] { ts:=[2],os:=[] } [True,(AV.p (.c (.v (.bool ((inR x0.1 0 7)))))=AV.p (.c (.v (.bool true))))] gamOK hT h (by kernel_rfl) ⟨trivial,hint_bool (h8),trivial⟩ fun a w h=>then_normal (wp_ret ?_)
   exact at_return (decide (((List.length x0.2:Nat):Int)≤4),()) [] h (by kernel_rfl) trivial (congrArg (fun z=>(z,())) (show (decide (((List.length x0.2:Nat):Int)≤4))=validL x0 from by (unfold validL;simp_all;try omega)))
  ·have hvh8 := inR_f h8
   refine at_regq [{},{},{ hint:=some (aB false) }] { ts:=[2],os:=[] } [True,(AV.p (.c (.v (.bool ((inR x0.1 0 7)))))=AV.p (.c (.v (.bool false))))] gamOK hT h (by kernel_rfl) ⟨trivial,hint_bool (h8),trivial⟩ fun a w h=>then_normal (wp_ret ?_)
   exact at_return (false,()) [] h (by kernel_rfl) trivial (congrArg (fun z=>(z,())) (show (false)=validL x0 from by (unfold validL;simp_all;try omega)))

abbrev Q_spec_IsValidRelay:=(fun (x0:T46)=>Sh.fit s46 x0)
def S_spec_IsValidRelay:Sum:={ fid:=45,dom:=[s46],cod:=[(.bool 4)],dp:=true,fz:=false,pre:=fun x=>Q_spec_IsValidRelay x.1,g:=fun x=>((validL x.1),()) }
def S_spec_IsValidRelay_tab:List (Nat×Sum):=[(86,S_spec_IsValidRecoder),(59,S_spec_l1In)]
theorem S_spec_IsValidRelay_ok:FnOK Try.prog 45 S_spec_IsValidRelay:=by
 refine at_enter 47 (fun x=>⟨[(0,aG [cI x.1.1,.ro s79 x.1.2])],[]⟩) Try.func45 rfl (by kernel_rfl) (fun x=>rfl) ?_
 rintro w0 Z0 ⟨x0,u⟩ a w
 revert x0
 intro (x0:T46) hpre hlens h
 replace hpre:Q_spec_IsValidRelay x0:=hpre
 have hT:TabOK Try.prog S_spec_IsValidRelay_tab:=(.cons S_spec_IsValidRecoder_ok (.cons S_spec_l1In_ok .nil))
 have hf0:Sh.fit s46 x0:=hpre
 have hn0_1:List.length x0.2≤1073741824:=hf0.2.1
 refine wp_seq ?_
 refine at_regq [{ ids:=[1] }] { ts:=[1,2],os:=[1] } [] gamOK hT h (by kernel_rfl) trivial fun a w h=>then_normal (wp_seq (wp_seq ?_))
 refine at_regq [] { ts:=[1,2,3],os:=[1] } [] gamOK hT h (by kernel_rfl) trivial fun a w h=>then_normal (wp_block ?_)
 replace h:=at_out (σ':=⟨[(1,aP 1 0),(2,aB false),(3,aI 0)],[(1,oX 46 [cI x0.1,.ro s79 x0.2])]⟩) { ts:=[1,2,3],os:=[1] } h (by kernel_rfl)
 refine at_loop (fun i:Nat=>(⟨[(1,aP 1 0),(2,aB false),(3,aI ((i:Nat):Int))],[(1,oX 46 [cI x0.1,.ro s79 x0.2])]⟩:St)) (fun i=>(i≤(List.length x0.2)∧allN (relB x0.2) i=true)) (fun i=>(List.length x0.2) - i) (0) h (st_congr1 (fun (d0:Int)=>(⟨[(1,aP 1 0),(2,aB false),(3,aI d0)],[(1,oX 46 [cI x0.1,.ro s79 x0.2])]⟩:St)) (show (0:Int)=(((0):Nat):Int) from by first | with_reducible rfl | (rfl) | rfl)) (by exact ⟨Nat.zero_le _,rfl⟩) ?_
 intro i a w hok0 h
 refine wp_seq (wp_seq ?_)
 refine at_regq [] { ts:=[1,2,3,8],os:=[1] } [] gamOK hT h (by kernel_rfl) trivial fun a w h=>then_normal ?_
 refine at_test (decide (((i:Nat):Int) < ((List.length x0.2:Nat):Int))) h (by kernel_rfl) (fun h1=>?_) (fun h1=>?_)
 ·replace h1 : ((i : Nat) : Int) < ((List.length x0.2 : Nat) : Int) := of_decide_eq_true h1
  refine wp_skip (then_normal (wp_seq (wp_block (wp_seq ?_))))
  rcases Bool.eq_false_or_eq_true (!(validR (x0.2.getD i (0,(0,(0,([],0))))))) with h2 | h2
  ·have hzh2 : (validR (x0.2.getD i (0, (0, (0, ([], 0)))))) = false := notT h2
   refine at_anyq [{},{},{},{},{},{},{ hint:=some (aB true) },{},{},{},{},{},{},{},{},{},{},{},{},{},{},{},{},{},{},{},{}] { ts:=[1,2,3,19,20,21,22,23,24,25,26,27,28,29,30,31,32,33,34,35,36,37],os:=[1] } [(0:Int)≤((i:Nat):Int)∧((i:Nat):Int) < ((List.length x0.2:Nat):Int),Q_spec_IsValidRecoder (x0.2.getD i (0,(0,(0,([],0))))),(AV.p (.c (.v (.bool (!(validR (x0.2.getD i (0,(0,(0,([],0))))))))))=AV.p (.c (.v (.bool true))))] gamOK hT mixed h (by kernel_rfl) ⟨(by refine ⟨?_,?_⟩<;>(first | omega | (simp only [lsA];omega) | (simp<;>omega))),(by exact (Sh.fit_getD hf0.2 i)),hint_bool (h2),trivial⟩ fun a w h=>then_normal ?_
   refine at_test true h (by kernel_rfl) (fun hh=>?_) (fun hh=>nomatch hh)
   refine wp_seq ?_
   refine at_regq [] { ts:=[1,2,3,19,20,21,22,23,24,25,26,27,28,29,30,31,32,33,34,35,36],os:=[1] } [] gamOK hT h (by kernel_rfl) trivial fun a w h=>then_normal (wp_ret (in_ret (then_ret ?_)))
   have hs3:(allN (relB x0.2) (List.length x0.2))=false:=by exact allN_at (i:=i) (by omega) (by first | exact relB_f1 (by assumption) | exact relB_f2 (by omega))
   refine then_ret (in_ret (then_ret ?_))
   exact at_return (false,()) [] h (by kernel_rfl) trivial (congrArg (fun z=>(z,())) (show (false)=validL x0 from by (unfold validL;simp_all;try omega)))
  ·have hzh2 : (validR (x0.2.getD i (0, (0, (0, ([], 0)))))) = true := notF h2
   have hvh2:=validR_t (notF h2)
   by_cases h4:((i:Nat):Int) > 0
   ·refine at_anyq [{}, {}, {}, {}, {}, {}, { hint := some (aB false) }, {}, {}, { hint := some (aB true) }, {}, {}, {}, {}, { nw := true }, {}, {}, {}, {}, {}, {}, {}, {}, {}, {}, {}, {}] { ts := [1, 2, 3, 19, 20, 21, 22, 23, 24, 25, 26, 27, 28, 29, 30, 31, 32, 33, 34, 35, 36, 37], os := [1] } [(0 : Int) ≤ ((i : Nat) : Int) ∧ ((i : Nat) : Int) < ((List.length x0.2 : Nat) : Int), Q_spec_IsValidRecoder (x0.2.getD i (0, (0, (0, ([], 0))))), (AV.p (.c (.v (.bool (!(validR (x0.2.getD i (0, (0, (0, ([], 0)))))))))) = AV.p (.c (.v (.bool false)))), (AV.p (.c (.v (.bool (decide (((i : Nat) : Int) > 0))))) = AV.p (.c (.v (.bool true)))), I64 (((i : Nat) : Int) - 1), (0 : Int) ≤ ((i : Nat) : Int) - 1 ∧ ((i : Nat) : Int) - 1 < ((List.length x0.2 : Nat) : Int), (0 : Int) ≤ ((i : Nat) : Int) ∧ ((i : Nat) : Int) < ((List.length x0.2 : Nat) : Int)] gamOK hT mixed h (by kernel_rfl) ⟨(by refine ⟨?_, ?_⟩ <;> (first | omega | (simp only [lsA]; omega) | (simp <;> omega))), (by exact (Sh.fit_getD hf0.2 i)), hint_bool (h2), hint_bool (decide_eq_true h4), ⟨by first | omega | (simp only [lsA]; omega) | (simp <;> omega), by first | omega | (simp only [lsA]; omega) | (simp <;> omega)⟩, (by refine ⟨?_, ?_⟩ <;> (first | omega | (simp only [lsA]; omega) | (simp <;> omega))), (by refine ⟨?_, ?_⟩ <;> (first | omega | (simp only [lsA]; omega) | (simp <;> omega))), trivial⟩ fun a w h => then_normal ?_
    refine at_test (decide ((x0.2.getD ((((i:Nat):Int) - 1).toNat) (0,(0,(0,([],0))))).1≥(x0.2.getD i (0,(0,(0,([],0))))).1)) h (by kernel_rfl) (fun h5=>?_) (fun h5=>?_)
    ·replace h5 : (x0.2.getD ((((i : Nat) : Int) - 1).toNat) (0, (0, (0, ([], 0))))).1 ≥ (x0.2.getD i (0, (0, (0, ([], 0))))).1 := of_decide_eq_true h5
     refine wp_seq ?_
     refine at_regq [] { ts:=[1,2,3,19,20,21,22,23,24,25,26,27,28,29,30,31,32,33,34,35,36],os:=[1] } [] gamOK hT h (by kernel_rfl) trivial fun a w h=>then_normal (wp_ret (in_ret (then_ret ?_)))
     have hs6:(allN (relB x0.2) (List.length x0.2))=false:=by exact allN_at (i:=i) (by omega) (by first | exact relB_f1 (by assumption) | exact relB_f2 (by omega))
     refine then_ret (in_ret (then_ret ?_))
     exact at_return (false,()) [] h (by kernel_rfl) trivial (congrArg (fun z=>(z,())) (show (false)=validL x0 from by (unfold validL;simp_all;try omega)))
    ·replace h5 : ¬ ((x0.2.getD ((((i : Nat) : Int) - 1).toNat) (0, (0, (0, ([], 0))))).1 ≥ (x0.2.getD i (0, (0, (0, ([], 0))))).1) := of_decide_eq_false h5
     refine wp_skip (in_normal (then_normal ?_))
     refine at_regq [{},{ nw:=true }] { ts:=[1,2,3,19,20,21,22,23,24,25,26,27,28,29,30,31,32,33,34,35,36],os:=[1] } [I64 (((i:Nat):Int)+1)] gamOK hT h (by kernel_rfl) ⟨⟨by first | omega | (simp only [lsA];omega) | (simp<;>omega),by first | omega | (simp only [lsA];omega) | (simp<;>omega)⟩,trivial⟩ fun a w h=>?_
     replace h:=at_out (σ':=⟨[(1,aP 1 0),(2,aB false),(3,aI (((i:Nat):Int)+1))],[(1,oX 46 [cI x0.1,.ro s79 x0.2])]⟩) { ts:=[1,2,3],os:=[1] } h (by kernel_rfl)
     exact ⟨i+1,at_eq h (st_congr1 (fun (d0:Int)=>(⟨[(1,aP 1 0),(2,aB false),(3,aI d0)],[(1,oX 46 [cI x0.1,.ro s79 x0.2])]⟩:St)) (show (((i:Nat):Int)+1:Int)=(((i+1):Nat):Int) from by first | with_reducible rfl | (omega) | rfl)),(by exact ⟨by omega,allN_succ hok0.2 (by exact relB_t (by assumption) (by omega))⟩),(by omega)⟩
   ·refine at_anyq [{}, {}, {}, {}, {}, {}, { hint := some (aB false) }, {}, {}, { hint := some (aB false) }, {}, {}, {}, {}, {}, {}, {}, {}, {}, {}, {}, {}, {}, {}, {}, {}, {}] { ts := [1, 2, 3, 19, 20, 21, 22, 23, 24, 25, 26, 27, 28, 29, 30, 31, 32, 33, 34, 35, 36, 37], os := [1] } [(0 : Int) ≤ ((i : Nat) : Int) ∧ ((i : Nat) : Int) < ((List.length x0.2 : Nat) : Int), Q_spec_IsValidRecoder (x0.2.getD i (0, (0, (0, ([], 0))))), (AV.p (.c (.v (.bool (!(validR (x0.2.getD i (0, (0, (0, ([], 0)))))))))) = AV.p (.c (.v (.bool false)))), (AV.p (.c (.v (.bool (decide (((i : Nat) : Int) > 0))))) = AV.p (.c (.v (.bool false))))] gamOK hT mixed h (by kernel_rfl) ⟨(by refine ⟨?_, ?_⟩ <;> (first | omega | (simp only [lsA]; omega) | (simp <;> omega))), (by exact (Sh.fit_getD hf0.2 i)), hint_bool (h2), hint_bool (decide_eq_false h4), trivial⟩ fun a w h => then_normal ?_
    refine at_test false h (by kernel_rfl) (fun hh=>nomatch hh) (fun hh=>?_)
    refine wp_skip (in_normal (then_normal ?_))
    refine at_regq [{},{ nw:=true }] { ts:=[1,2,3,19,20,21,22,23,24,25,26,27,28,29,30,31,32,33,34,35,36],os:=[1] } [I64 (((i:Nat):Int)+1)] gamOK hT h (by kernel_rfl) ⟨⟨by first | omega | (simp only [lsA];omega) | (simp<;>omega),by first | omega | (simp only [lsA];omega) | (simp<;>omega)⟩,trivial⟩ fun a w h=>?_
    replace h:=at_out (σ':=⟨[(1,aP 1 0),(2,aB false),(3,aI (((i:Nat):Int)+1))],[(1,oX 46 [cI x0.1,.ro s79 x0.2])]⟩) { ts:=[1,2,3],os:=[1] } h (by kernel_rfl)
    exact ⟨i+1,at_eq h (st_congr1 (fun (d0:Int)=>(⟨[(1,aP 1 0),(2,aB false),(3,aI d0)],[(1,oX 46 [cI x0.1,.ro s79 x0.2])]⟩:St)) (show (((i:Nat):Int)+1:Int)=(((i+1):Nat):Int) from by first | with_reducible rfl | (omega) | rfl)),(by exact ⟨by omega,allN_succ hok0.2 (by exact relB_t (by assumption) (by omega))⟩),(by omega)⟩
 ·replace h1 : ¬ (((i : Nat) : Int) < ((List.length x0.2 : Nat) : Int)) := of_decide_eq_false h1
  refine wp_exit (then_exit ?_)
  have hs7:(allN (relB x0.2) (List.length x0.2))=true:=by exact allN_eq (by omega) hok0.1 hok0.2
  refine then_exit (in_hit (then_normal (wp_seq ?_)))
  rcases Bool.eq_false_or_eq_true ((inR x0.1 0 7)) with h8 | h8
  ·have hvh8 := inR_t h8
   refine at_regq [{},{},{ hint:=some (aB true) }] { ts:=[2],os:=[] } [True,(AV.p (.c (.v (.bool ((inR x0.1 0 7)))))=AV.p (.c (.v (.bool true))))] gamOK hT h (by kernel_rfl) ⟨trivial,hint_bool (h8),trivial⟩ fun a w h=>then_normal (wp_ret ?_)
   exact at_return (decide (((List.length x0.2:Nat):Int)≤4),()) [] h (by kernel_rfl) trivial (congrArg (fun z=>(z,())) (show (decide (((List.length x0.2:Nat):Int)≤4))=validL x0 from by (unfold validL;simp_all;try omega)))
  ·have hvh8 := inR_f h8
   refine at_regq [{},{},{ hint:=some (aB false) }] { ts:=[2],os:=[] } [True,(AV.p (.c (.v (.bool ((inR x0.1 0 7)))))=AV.p (.c (.v (.bool false))))] gamOK hT h (by kernel_rfl) ⟨trivial,hint_bool (h8),trivial⟩ fun a w h=>then_normal (wp_ret ?_)
   exact at_return (false,()) [] h (by kernel_rfl) trivial (congrArg (fun z=>(z,())) (show (false)=validL x0 from by (unfold validL;simp_all;try omega)))

def D__impl_Relay_recoderAt_1:=(fun (x:T79) (g:Int)=>cmpI x.1 g)
abbrev Q__impl_Relay_recoderAt_1:=(fun (x0:T79) (x1:Int)=>Sh.fit s79 x0)
def S__impl_Relay_recoderAt_1:Sum:={ fid:=134,dom:=[s79,(.int 3)],cod:=[(.int 3)],dp:=true,fz:=false,pre:=fun x=>Q__impl_Relay_recoderAt_1 x.1 x.2.1,g:=fun x=>((D__impl_Relay_recoderAt_1 x.1 x.2.1),()) }
def S__impl_Relay_recoderAt_1_tab:List (Nat×Sum):=[(121,S_cmp_Compare_int_)]
theorem S__impl_Relay_recoderAt_1_ok:FnOK Try.prog 134 S__impl_Relay_recoderAt_1:=by
 refine at_enter 9 (fun x=>⟨[(0,aG [cI x.1.1,cI x.1.2.1,cI x.1.2.2.1,.ro s50 x.1.2.2.2.1,cI x.1.2.2.2.2]),(1,aI x.2.1)],[]⟩) Try.func134 rfl (by kernel_rfl) (fun x=>rfl) ?_
 rintro w0 Z0 ⟨x0,x1,u⟩ a w
 revert x0 x1
 intro (x0:T79) (x1:Int) hpre hlens h
 replace hpre:Q__impl_Relay_recoderAt_1 x0 x1:=hpre
 have hT:TabOK Try.prog S__impl_Relay_recoderAt_1_tab:=(.cons S_cmp_Compare_int__ok .nil)
 have hf0:Sh.fit s79 x0:=hpre
 have hn0_1:List.length x0.2.2.2.1≤1073741824:=hf0.2.2.2.1.1
 refine wp_seq ?_
 refine at_regq [{ ids:=[1] }] { ts:=[1,2,4],os:=[1] } [] gamOK hT h (by kernel_rfl) trivial fun a w h=>then_normal (wp_seq ?_)
 refine at_regq [] { ts:=[4],os:=[] } [True] gamOK hT h (by kernel_rfl) ⟨trivial,trivial⟩ fun a w h=>then_normal (wp_ret ?_)
 exact at_return ((cmpI x0.1 x1),()) [] h (by kernel_rfl) trivial (congrArg (fun z=>(z,())) (show ((cmpI x0.1 x1))=D__impl_Relay_recoderAt_1 x0 x1 from by unfold D__impl_Relay_recoderAt_1;rfl))

def D_slices_BinarySearchFunc_S_impl_Recoder_impl_Recoder_int__recoderAt_1:=(fun (xs:List T79) (v:Int) (_:Unit)=>(((bsK (fun x=>x.1) (0,(0,(0,([],0)))) xs v:Nat):Int),fndK (fun x=>x.1) (0,(0,(0,([],0)))) xs v))
abbrev Q_slices_BinarySearchFunc_S_impl_Recoder_impl_Recoder_int__recoderAt_1:=(fun (x0:(List T79)) (x1:Int) (x2:Unit)=>Sh.fit s44 x0)
def S_slices_BinarySearchFunc_S_impl_Recoder_impl_Recoder_int__recoderAt_1:Sum:={ fid:=133,dom:=[s44,(.int 3),(.fn0 134)],cod:=[(.int 3),(.bool 4)],dp:=true,fz:=false,pre:=fun x=>Q_slices_BinarySearchFunc_S_impl_Recoder_impl_Recoder_int__recoderAt_1 x.1 x.2.1 x.2.2.1,g:=fun x=>((D_slices_BinarySearchFunc_S_impl_Recoder_impl_Recoder_int__recoderAt_1 x.1 x.2.1 x.2.2.1).1,((D_slices_BinarySearchFunc_S_impl_Recoder_impl_Recoder_int__recoderAt_1 x.1 x.2.1 x.2.2.1).2,())) }
def S_slices_BinarySearchFunc_S_impl_Recoder_impl_Recoder_int__recoderAt_1_tab:List (Nat×Sum):=[(134,S__impl_Relay_recoderAt_1)]
theorem S_slices_BinarySearchFunc_S_impl_Recoder_impl_Recoder_int__recoderAt_1_ok:FnOK Try.prog 133 S_slices_BinarySearchFunc_S_impl_Recoder_impl_Recoder_int__recoderAt_1:=by
 refine at_enter 49 (fun x=>⟨[(0,aF s79 x.1),(1,aI x.2.1),(2,.p (.c (.cl 134 .cnil)))],[]⟩) Try.func133 rfl (by kernel_rfl) (fun x=>rfl) ?_
 rintro w0 Z0 ⟨x0,x1,x2,u⟩ a w
 revert x0 x1 x2
 intro (x0:(List T79)) (x1:Int) (x2:Unit) hpre hlens h
 replace hpre:Q_slices_BinarySearchFunc_S_impl_Recoder_impl_Recoder_int__recoderAt_1 x0 x1 x2:=hpre
 have hT:TabOK Try.prog S_slices_BinarySearchFunc_S_impl_Recoder_impl_Recoder_int__recoderAt_1_tab:=(.cons S__impl_Relay_recoderAt_1_ok .nil)
 have hf0:Sh.fit s44 x0:=hpre
 have hn0_1:List.length x0≤1073741824:=hf0.1
 refine wp_seq ?_
 refine at_regq [] { ts:=[0,1,2,6,7],os:=[] } [] gamOK hT h (by kernel_rfl) trivial fun a w h=>then_normal (wp_seq ?_)
 refine at_regq [] { ts:=[0,1,2,6,7,8],os:=[] } [] gamOK hT h (by kernel_rfl) trivial fun a w h=>then_normal (wp_seq ?_)
 refine at_regq [] { ts:=[0,1,2,6,7,8,9,10],os:=[] } [] gamOK hT h (by kernel_rfl) trivial fun a w h=>then_normal (wp_seq (wp_block ?_))
 replace h:=at_out (σ':=⟨[(0,aF s79 x0),(1,aI x1),(2,.p (.c (.cl 134 .cnil))),(6,aI 0),(7,aB false),(8,aI ((List.length x0:Nat):Int)),(9,aI 0),(10,aI ((List.length x0:Nat):Int))],[]⟩) { ts:=[0,1,2,6,7,8,9,10],os:=[] } h (by kernel_rfl)
 refine at_loop (fun q:(Nat×Nat)=>(⟨[(0,aF s79 x0),(1,aI x1),(2,.p (.c (.cl 134 .cnil))),(6,aI 0),(7,aB false),(8,aI ((List.length x0:Nat):Int)),(9,aI ((q.1:Nat):Int)),(10,aI ((q.2:Nat):Int))],[]⟩:St)) (fun q=>(q.1≤q.2∧q.2≤List.length x0∧bsF (ltK (fun x=>x.1) (0,(0,(0,([],0)))) x0 x1) q.1 q.2=bsF (ltK (fun x=>x.1) (0,(0,(0,([],0)))) x0 x1) 0 (List.length x0))) (fun q=>q.2 - q.1) ((0,List.length x0)) h (st_congr2 (fun (d0:Int) (d1:Int)=>(⟨[(0,aF s79 x0),(1,aI x1),(2,.p (.c (.cl 134 .cnil))),(6,aI 0),(7,aB false),(8,aI ((List.length x0:Nat):Int)),(9,aI d0),(10,aI d1)],[]⟩:St)) (show (0:Int)=((((0,List.length x0)).1:Nat):Int) from by first | with_reducible rfl | (rfl) | rfl) (show (((List.length x0:Nat):Int):Int)=((((0,List.length x0)).2:Nat):Int) from by first | with_reducible rfl | (rfl) | rfl)) (by exact ⟨Nat.zero_le _,Nat.le_refl _,rfl⟩) ?_
 intro q a w hok0 h
 refine wp_seq (wp_seq ?_)
 refine at_regq [] { ts:=[0,1,2,6,7,8,9,10,17],os:=[] } [] gamOK hT h (by kernel_rfl) trivial fun a w h=>then_normal ?_
 refine at_test (decide (((q.1:Nat):Int) < ((q.2:Nat):Int))) h (by kernel_rfl) (fun h1=>?_) (fun h1=>?_)
 ·replace h1 : ((q.1 : Nat) : Int) < ((q.2 : Nat) : Int) := of_decide_eq_true h1
  refine wp_skip (then_normal (wp_block (wp_seq ?_)))
  refine at_regq [{},{},{ nw:=true },{},{},{ hint:=some (aI (((q.1+q.2) / 2:Nat):Int)) }] { ts:=[0,1,2,6,7,8,9,10,11],os:=[] } [I64 (((q.1:Nat):Int)+((q.2:Nat):Int)),(0:Int)≤1,(AV.p (.c (.v (.int .i64 (IntKind.i64.wrap ((Int.fdiv (IntKind.u64.wrap (((q.1:Nat):Int)+((q.2:Nat):Int))) (2 ^ (min (1:Int).toNat (IntKind.u64).bits))))))))=AV.p (.c (.v (.int .i64 ((((q.1+q.2) / 2:Nat):Int))))))] gamOK hT h (by kernel_rfl) ⟨⟨by first | omega | (simp only [lsA];omega) | (simp<;>omega),by first | omega | (simp only [lsA];omega) | (simp<;>omega)⟩,(by first | omega | (simp only [lsA];omega) | (simp<;>omega)),hint_int (by exact half_eq (by omega)),trivial⟩ fun a w h=>then_normal (wp_seq ?_)
  refine at_regq [] { ts:=[0,1,2,6,7,8,9,10,11,31],os:=[] } [(0:Int)≤(((q.1+q.2) / 2:Nat):Int)∧(((q.1+q.2) / 2:Nat):Int) < ((List.length x0:Nat):Int),Q__impl_Relay_recoderAt_1 (x0.getD ((q.1+q.2) / 2) (0,(0,(0,([],0))))) x1] gamOK hT h (by kernel_rfl) ⟨(by refine ⟨?_,?_⟩<;>(first | omega | (simp only [lsA];omega) | (simp<;>omega))),(by exact (Sh.fit_getD hf0 ((q.1+q.2) / 2))),trivial⟩ fun a w h=>then_normal ?_
  refine at_test (decide ((D__impl_Relay_recoderAt_1 (x0.getD ((q.1+q.2) / 2) (0,(0,(0,([],0))))) x1) < 0)) h (by kernel_rfl) (fun h2=>?_) (fun h2=>?_)
  ·replace h2 : (D__impl_Relay_recoderAt_1 (x0.getD ((q.1 + q.2) / 2) (0, (0, (0, ([], 0))))) x1) < 0 := of_decide_eq_true h2
   refine at_regq [{},{ nw:=true }] { ts:=[0,1,2,6,7,8,9,10],os:=[] } [I64 ((((q.1+q.2) / 2:Nat):Int)+1)] gamOK hT h (by kernel_rfl) ⟨⟨by first | omega | (simp only [lsA];omega) | (simp<;>omega),by first | omega | (simp only [lsA];omega) | (simp<;>omega)⟩,trivial⟩ fun a w h=>in_normal ?_
   replace h:=at_out (σ':=⟨[(0,aF s79 x0),(1,aI x1),(2,.p (.c (.cl 134 .cnil))),(6,aI 0),(7,aB false),(8,aI ((List.length x0:Nat):Int)),(9,aI ((((q.1+q.2) / 2:Nat):Int)+1)),(10,aI ((q.2:Nat):Int))],[]⟩) { ts:=[0,1,2,6,7,8,9,10],os:=[] } h (by kernel_rfl)
   exact ⟨((q.1+q.2) / 2+1,q.2),at_eq h (st_congr2 (fun (d0:Int) (d1:Int)=>(⟨[(0,aF s79 x0),(1,aI x1),(2,.p (.c (.cl 134 .cnil))),(6,aI 0),(7,aB false),(8,aI ((List.length x0:Nat):Int)),(9,aI d0),(10,aI d1)],[]⟩:St)) (show ((((q.1+q.2) / 2:Nat):Int)+1:Int)=(((((q.1+q.2) / 2+1,q.2)).1:Nat):Int) from by first | with_reducible rfl | (dsimp only;omega) | rfl) (show (((q.2:Nat):Int):Int)=(((((q.1+q.2) / 2+1,q.2)).2:Nat):Int) from by first | with_reducible rfl | (dsimp only;omega) | rfl)),(by dsimp only;first | (refine ⟨by omega,by omega,?_⟩;exact (bsF_up (by omega) (show ltK (fun x=>x.1) (0,(0,(0,([],0)))) x0 x1 _=true from decide_eq_true (cmpI_lt.1 (by assumption)))).symm.trans hok0.2.2) | (refine ⟨by omega,by omega,?_⟩;exact (bsF_down (by omega) (show ltK (fun x=>x.1) (0,(0,(0,([],0)))) x0 x1 _=false from decide_eq_false (fun e=>absurd (cmpI_lt.2 e) (by assumption)))).symm.trans hok0.2.2)),(by dsimp only;omega)⟩
  ·replace h2 : ¬ ((D__impl_Relay_recoderAt_1 (x0.getD ((q.1 + q.2) / 2) (0, (0, (0, ([], 0))))) x1) < 0) := of_decide_eq_false h2
   refine at_regq [] { ts:=[0,1,2,6,7,8,9,10],os:=[] } [] gamOK hT h (by kernel_rfl) trivial fun a w h=>in_normal ?_
   replace h:=at_out (σ':=⟨[(0,aF s79 x0),(1,aI x1),(2,.p (.c (.cl 134 .cnil))),(6,aI 0),(7,aB false),(8,aI ((List.length x0:Nat):Int)),(9,aI ((q.1:Nat):Int)),(10,aI (((q.1+q.2) / 2:Nat):Int))],[]⟩) { ts:=[0,1,2,6,7,8,9,10],os:=[] } h (by kernel_rfl)
   exact ⟨(q.1,(q.1+q.2) / 2),at_eq h (st_congr2 (fun (d0:Int) (d1:Int)=>(⟨[(0,aF s79 x0),(1,aI x1),(2,.p (.c (.cl 134 .cnil))),(6,aI 0),(7,aB false),(8,aI ((List.length x0:Nat):Int)),(9,aI d0),(10,aI d1)],[]⟩:St)) (show (((q.1:Nat):Int):Int)=((((q.1,(q.1+q.2) / 2)).1:Nat):Int) from by first | with_reducible rfl | (dsimp only;omega) | rfl) (show ((((q.1+q.2) / 2:Nat):Int):Int)=((((q.1,(q.1+q.2) / 2)).2:Nat):Int) from by first | with_reducible rfl | (dsimp only;omega) | rfl)),(by dsimp only;first | (refine ⟨by omega,by omega,?_⟩;exact (bsF_up (by omega) (show ltK (fun x=>x.1) (0,(0,(0,([],0)))) x0 x1 _=true from decide_eq_true (cmpI_lt.1 (by assumption)))).symm.trans hok0.2.2) | (refine ⟨by omega,by omega,?_⟩;exact (bsF_down (by omega) (show ltK (fun x=>x.1) (0,(0,(0,([],0)))) x0 x1 _=false from decide_eq_false (fun e=>absurd (cmpI_lt.2 e) (by assumption)))).symm.trans hok0.2.2)),(by dsimp only;omega)⟩
 ·replace h1 : ¬ (((q.1 : Nat) : Int) < ((q.2 : Nat) : Int)) := of_decide_eq_false h1
  refine wp_exit (then_exit (then_exit (in_hit (then_normal (wp_seq ?_)))))
  by_cases h3:((q.1:Nat):Int) < ((List.length x0:Nat):Int)
  ·refine at_regq [{}, {}, {}, { hint := some (aB true) }] { ts := [6, 7], os := [] } [(AV.p (.c (.v (.bool (decide (((q.1 : Nat) : Int) < ((List.length x0 : Nat) : Int)))))) = AV.p (.c (.v (.bool true)))), (0 : Int) ≤ ((q.1 : Nat) : Int) ∧ ((q.1 : Nat) : Int) < ((List.length x0 : Nat) : Int), Q__impl_Relay_recoderAt_1 (x0.getD q.1 (0, (0, (0, ([], 0))))) x1] gamOK hT h (by kernel_rfl) ⟨hint_bool (decide_eq_true h3), (by refine ⟨?_, ?_⟩ <;> (first | omega | (simp only [lsA]; omega) | (simp <;> omega))), (by exact (Sh.fit_getD hf0 q.1)), trivial⟩ fun a w h => then_normal (wp_ret ?_)
   exact at_return (((q.1:Nat):Int),(decide ((D__impl_Relay_recoderAt_1 (x0.getD q.1 (0,(0,(0,([],0))))) x1)=0),())) [] h (by kernel_rfl) trivial (congrArg (fun z=>(z.1,z.2,())) (show ((((q.1:Nat):Int),decide ((D__impl_Relay_recoderAt_1 (x0.getD q.1 (0,(0,(0,([],0))))) x1)=0)))=D_slices_BinarySearchFunc_S_impl_Recoder_impl_Recoder_int__recoderAt_1 x0 x1 x2 from by unfold D_slices_BinarySearchFunc_S_impl_Recoder_impl_Recoder_int__recoderAt_1;(have e:=hok0.2.2;rw [bsF_end (by omega)] at e;have e1:bsK (fun x=>x.1) (0,(0,(0,([],0)))) x0 x1=q.1:=e.symm;unfold fndK;rw [e1];exact Prod.ext rfl (by first | exact fnd_no (f:=(fun x=>x.1)) (z:=(0,(0,(0,([],0))))) (xs:=x0) (v:=x1) (q:=q.1) (by omega) | exact fnd_eq (f:=(fun x=>x.1)) (z:=(0,(0,(0,([],0))))) (xs:=x0) (v:=x1) (q:=q.1) (by omega)))))
  ·refine at_regq [{}, {}, {}, { hint := some (aB false) }] { ts := [6, 7], os := [] } [(AV.p (.c (.v (.bool (decide (((q.1 : Nat) : Int) < ((List.length x0 : Nat) : Int)))))) = AV.p (.c (.v (.bool false))))] gamOK hT h (by kernel_rfl) ⟨hint_bool (decide_eq_false h3), trivial⟩ fun a w h => then_normal (wp_ret ?_)
   exact at_return (((q.1:Nat):Int),(false,())) [] h (by kernel_rfl) trivial (congrArg (fun z=>(z.1,z.2,())) (show ((((q.1:Nat):Int),false))=D_slices_BinarySearchFunc_S_impl_Recoder_impl_Recoder_int__recoderAt_1 x0 x1 x2 from by unfold D_slices_BinarySearchFunc_S_impl_Recoder_impl_Recoder_int__recoderAt_1;(have e:=hok0.2.2;rw [bsF_end (by omega)] at e;have e1:bsK (fun x=>x.1) (0,(0,(0,([],0)))) x0 x1=q.1:=e.symm;unfold fndK;rw [e1];exact Prod.ext rfl (by first | exact fnd_no (f:=(fun x=>x.1)) (z:=(0,(0,(0,([],0))))) (xs:=x0) (v:=x1) (q:=q.1) (by omega) | exact fnd_eq (f:=(fun x=>x.1)) (z:=(0,(0,(0,([],0))))) (xs:=x0) (v:=x1) (q:=q.1) (by omega)))))

def D__impl_Relay_recoderAt (x0:T46) (x1:Int):Int×Bool:=((D_slices_BinarySearchFunc_S_impl_Recoder_impl_Recoder_int__recoderAt_1 x0.2 x1 ()).1,(D_slices_BinarySearchFunc_S_impl_Recoder_impl_Recoder_int__recoderAt_1 x0.2 x1 ()).2)
abbrev Q__impl_Relay_recoderAt:=(fun (x0:T46) (x1:Int)=>Sh.fit s46 x0)
def S__impl_Relay_recoderAt:Sum:={ fid:=92,dom:=[s46,(.int 3)],cod:=[(.int 3),(.bool 4)],dp:=true,fz:=false,pre:=fun x=>Q__impl_Relay_recoderAt x.1 x.2.1,g:=fun x=>((D__impl_Relay_recoderAt x.1 x.2.1).1,((D__impl_Relay_recoderAt x.1 x.2.1).2,())) }
def S__impl_Relay_recoderAt_tab:List (Nat×Sum):=[(100005,S_slices_BinarySearchFunc_S_impl_Recoder_impl_Recoder_int__recoderAt_1)]
theorem S__impl_Relay_recoderAt_ok:FnOK Try.prog 92 S__impl_Relay_recoderAt:=by
 refine at_enter 12 (fun x=>⟨[(0,aG [cI x.1.1,.ro s79 x.1.2]),(1,aI x.2.1)],[]⟩) Try.func92 rfl (by kernel_rfl) (fun x=>rfl) ?_
 rintro w0 Z0 ⟨x0,x1,u⟩ a w
 revert x0 x1
 intro (x0:T46) (x1:Int) hpre hlens h
 replace hpre:Q__impl_Relay_recoderAt x0 x1:=hpre
 have hT:TabOK Try.prog S__impl_Relay_recoderAt_tab:=(.cons S_slices_BinarySearchFunc_S_impl_Recoder_impl_Recoder_int__recoderAt_1_ok .nil)
 have hf0:Sh.fit s46 x0:=hpre
 have hn0_1:List.length x0.2≤1073741824:=hf0.2.1
 refine wp_seq ?_
 refine at_regq [{ ids:=[1] }] { ts:=[1,2,4,5],os:=[1] } [] gamOK hT h (by kernel_rfl) trivial fun a w h=>then_normal (wp_seq ?_)
 refine at_regq [{},{},{},{ key:=some 100005 }] { ts:=[4,5],os:=[] } [Q_slices_BinarySearchFunc_S_impl_Recoder_impl_Recoder_int__recoderAt_1 x0.2 x1 ()] gamOK hT h (by kernel_rfl) ⟨(by exact hf0.2),trivial⟩ fun a w h=>then_normal (wp_ret ?_)
 exact at_return ((D_slices_BinarySearchFunc_S_impl_Recoder_impl_Recoder_int__recoderAt_1 x0.2 x1 ()).1,((D_slices_BinarySearchFunc_S_impl_Recoder_impl_Recoder_int__recoderAt_1 x0.2 x1 ()).2,())) [] h (by kernel_rfl) trivial (congrArg (fun z=>(z.1,z.2,())) (show (((D_slices_BinarySearchFunc_S_impl_Recoder_impl_Recoder_int__recoderAt_1 x0.2 x1 ()).1,(D_slices_BinarySearchFunc_S_impl_Recoder_impl_Recoder_int__recoderAt_1 x0.2 x1 ()).2))=D__impl_Relay_recoderAt x0 x1 from by rfl))

def elU (x:List T79×Int) (p:T50):List T79×Int:=(x.1.set x.2.toNat (accU (x.1.getD x.2.toNat (0,(0,(0,([],0))))) p),x.2)
def elOK (x:List T79×Int) (p:T50):Bool:=accOK (x.1.getD x.2.toNat (0,(0,(0,([],0))))) p
abbrev rcF (r:T46) (p:T50):Bool:=fndK (fun x=>x.1) (0,(0,(0,([],0)))) r.2 p.1
abbrev rcA (r:T46) (p:T50):Nat:=bsK (fun x=>x.1) (0,(0,(0,([],0)))) r.2 p.1
abbrev rcN (p:T50):T79:=newRec p.1 ((List.length p.2.1:Nat):Int) ((List.length p.2.2:Nat):Int)
abbrev rcI (r:T46) (p:T50):List T79:=insAt r.2 (rcA r p) [accU (rcN p) p]
abbrev rcB (r:T46) (p:T50):Bool:=accOK (rcN p) p && !(decide (List.length r.2=4) && decide (rcA r p=0))
def rcvD (r:T46) (p:T50):Bool:=bif rcF r p then accOK (r.2.getD (rcA r p) (0,(0,(0,([],0))))) p else rcB r p
def rcvU (r:T46) (p:T50):T46:=bif rcF r p then (r.1,r.2.set (rcA r p) (accU (r.2.getD (rcA r p) (0,(0,(0,([],0))))) p)) else bif rcB r p then (r.1,bif decide (List.length r.2=4) then (rcI r p).drop 1 else rcI r p) else r
def rcvL (r:T46) (p:T50):T46×Bool:=bif validL r then (rcvU r p,rcvD r p) else (r,false)
theorem rcvL_n {r:T46} {p:T50} (h:validL r=false):(r,false)=rcvL r p:=by unfold rcvL;rw [h];rfl
theorem rcvL_y {r:T46} {p:T50} (h:validL r=true):(rcvU r p,rcvD r p)=rcvL r p:=by unfold rcvL;rw [h];rfl
theorem rcvD_f {r:T46} {p:T50} (h:rcF r p=true):rcvD r p=accOK (r.2.getD (rcA r p) (0,(0,(0,([],0))))) p:=by unfold rcvD;rw [h];rfl
theorem rcvU_f {r:T46} {p:T50} (h:rcF r p=true):rcvU r p=(r.1,r.2.set (rcA r p) (accU (r.2.getD (rcA r p) (0,(0,(0,([],0))))) p)):=by unfold rcvU;rw [h];rfl
theorem rcB_n {r:T46} {p:T50} (h:accOK (rcN p) p=false∨List.length r.2=4∧rcA r p=0):rcB r p=false:=by
 rcases h with h | ⟨h1,h2⟩
 ·unfold rcB;rw [h];rfl
 ·unfold rcB;rw [decide_eq_true h1,decide_eq_true h2];simp
theorem rcB_y {r:T46} {p:T50} (h:accOK (rcN p) p=true) (h2:¬ List.length r.2=4∨¬ rcA r p=0):rcB r p=true:=by
 unfold rcB;rw [h]
 rcases h2 with h2 | h2<;>rw [decide_eq_false h2]<;>simp
theorem rcvD_n {r:T46} {p:T50} {b:Bool} (h:rcF r p=false) (hb:rcB r p=b):rcvD r p=b:=by unfold rcvD;rw [h,hb];rfl
theorem rcvU_n {r:T46} {p:T50} (h:rcF r p=false) (hb:rcB r p=false):rcvU r p=r:=by unfold rcvU;rw [h,hb];rfl
theorem rcvU_i {r:T46} {p:T50} (h:rcF r p=false) (hb:rcB r p=true) (h4:¬ List.length r.2=4):rcvU r p=(r.1,rcI r p):=by unfold rcvU;rw [h,hb,decide_eq_false h4];rfl
theorem rcvU_d {r:T46} {p:T50} (h:rcF r p=false) (hb:rcB r p=true) (h4:List.length r.2=4):rcvU r p=(r.1,(rcI r p).drop 1):=by unfold rcvU;rw [h,hb,decide_eq_true h4];rfl
def rcvP (r:T46):Prop:=List.length r.2≤4∧∀ i,i < List.length r.2→recP (r.2.getD i (0,(0,(0,([],0)))))
theorem rcvP_of {r:T46} (h:validL r=true):rcvP r:=⟨(validL_t h).2.1,fun i hi=>recP_of ((validL_t h).2.2.2 i hi)⟩
theorem newRec_fit (g s w:Int):Sh.fit s79 (newRec g s w):=by
 unfold newRec
 split<;>exact ⟨trivial,trivial,trivial,⟨Nat.zero_le _,fun x hx=>by cases hx⟩,trivial⟩
theorem recP_new (g s w:Int):recP (newRec g s w):=by
 unfold newRec
 split<;>exact ⟨Nat.zero_le _,fun v hv=>absurd hv (by simp [cofs])⟩
theorem acc_new (g s w:Int) (p:T50):acceptR (newRec g s w) p=(accU (newRec g s w) p,accOK (newRec g s w) p):=by
 unfold acceptR
 by_cases h:accOK (newRec g s w) p=true
 ·have hv:validR (newRec g s w)=true:=by
   by_cases hf:isFmt g s w=true
   ·unfold newRec validR;rw [if_pos hf];simp [hf];exact ⟨by decide,rfl⟩
   ·exfalso
    unfold accOK at h
    rw [Bool.and_eq_true,Bool.and_eq_true] at h
    have h2:=(okPkt_v h.2.1).1.2.1
    unfold newRec at h2;rw [if_neg hf] at h2
    have h2:(1:Int)≤0∧(0:Int)≤8:=h2
    omega
  rw [if_pos ⟨hv,h⟩,h]
 ·rw [if_neg (fun e=>h e.2),accU_no (Bool.eq_false_iff.2 h),Bool.eq_false_iff.2 h]
theorem acc_val {r:T79} {p:T50} (h:validR r=true):acceptR r p=(accU r p,accOK r p):=by
 unfold acceptR
 by_cases h2:accOK r p=true
 ·rw [if_pos ⟨h,h2⟩,h2]
 ·rw [if_neg (fun e=>h2 e.2),accU_no (Bool.eq_false_iff.2 h2),Bool.eq_false_iff.2 h2]
section
variable {α:Type}
theorem bsK_eq {f:α→Int} {z:α} {xs:List α} {v:Int} {i:Nat} (hs:srtK f z xs) (h1:∀ j,j < i→f (xs.getD j z) < v) (h2:i < xs.length→v≤f (xs.getD i z)) (hi:i≤xs.length):bsK f z xs v=i:=by
 obtain ⟨h3,h4⟩:=bsK_spec hs v
 have hb:=bsK_le f z xs v
 rcases Nat.lt_trichotomy (bsK f z xs v) i with h | h | h
 ·have:=h1 _ h;have:=h4 _ (Nat.le_refl _) (by omega);omega
 ·exact h
 ·have:=h3 i h;have:=h2 (by omega);omega
theorem ctL_set1 (c:α→Nat) (y:α):∀ (xs:List α) (i:Nat),ctL c (xs.set i y)≤ctL c xs+c y
 | [],_=>Nat.zero_le _
 | x::l,0=>by show c y+ctL c l≤c x+ctL c l+c y;omega
 | x::l,i+1=>by have:=ctL_set1 c y l i;show c x+ctL c (l.set i y)≤c x+ctL c l+c y;omega
theorem ctL_app1 (c:α→Nat):∀ (xs ys:List α),ctL c (xs++ys)=ctL c xs+ctL c ys
 | [],ys=>(Nat.zero_add _).symm
 | x::l,ys=>by have:=ctL_app1 c l ys;show c x+ctL c (l++ys)=c x+ctL c l+ctL c ys;omega
theorem ctL_ins1 (c:α→Nat) (xs:List α) (i:Nat) (y:α):ctL c (insAt xs i [y])=ctL c xs+c y:=by
 have h:=ctL_app1 c (xs.take i) (xs.drop i)
 rw [List.take_append_drop] at h
 unfold insAt;rw [ctL_app1,ctL_app1,h]
 show ctL c _+(c y+0)+ctL c _=_
 omega
theorem ctL_drop1 (c:α→Nat) (xs:List α):ctL c (xs.drop 1)≤ctL c xs:=by
 cases xs with
 | nil=>exact Nat.le_refl _
 | cons x l=>show ctL c l≤c x+ctL c l;omega
theorem ins_len1 (xs:List α) (i:Nat) (y:α):(insAt xs i [y]).length=xs.length+1:=by
 unfold insAt;simp;omega
end
theorem accU_sz (r:T79) (p:T50):Sh.sz s79 (accU r p)≤Sh.sz s79 r+1+Sh.sz s50 p:=by
 have e:∀ q:T79,Sh.sz s79 q=0+(0+(0+((List.length q.2.2.2.1+ctL (Sh.sz s50) q.2.2.2.1)+0))):=fun _=>rfl
 unfold accU;split
 ·rw [e, e]
  show 0+(0+(0+((List.length (r.2.2.2.1++[p])+ctL (Sh.sz s50) (r.2.2.2.1++[p]))+0)))≤_
  rw [ctL_app1,List.length_append,show ctL (Sh.sz s50) [p]=Sh.sz s50 p+0 from rfl]
  simp only [List.length_singleton];omega
 ·omega
theorem newRec_sz (g s w:Int):Sh.sz s79 (newRec g s w)=0:=by unfold newRec;split<;>rfl
theorem getD_sz (xs:List T79) (i:Nat):Sh.sz s79 (xs.getD i (0,(0,(0,([],0)))))≤ctL (Sh.sz s79) xs:=by
 induction xs generalizing i with
 | nil=>exact Nat.zero_le _
 | cons x l ih => cases i with
  | zero=>show Sh.sz s79 x≤Sh.sz s79 x+_;omega
  | succ i=>have:=ih i;show Sh.sz s79 (l.getD i (0,(0,(0,([],0)))))≤Sh.sz s79 x+ctL _ l;omega
theorem rcvL_sz (r:T46) (p:T50):Sh.sz s46 (rcvL r p).1≤2*Sh.sz s46 r+2+Sh.sz s50 p:=by
 have e:∀ q:T46,Sh.sz s46 q=0+(List.length q.2+ctL (Sh.sz s79) q.2):=fun _=>rfl
 have h1:=ctL_set1 (Sh.sz s79) (accU (r.2.getD (rcA r p) (0,(0,(0,([],0))))) p) r.2 (rcA r p)
 have h2:=accU_sz (r.2.getD (rcA r p) (0,(0,(0,([],0))))) p
 have h3:=getD_sz r.2 (rcA r p)
 have h4:=accU_sz (rcN p) p
 have h5:Sh.sz s79 (rcN p)=0:=newRec_sz p.1 ((List.length p.2.1:Nat):Int) ((List.length p.2.2:Nat):Int)
 have h6:ctL (Sh.sz s79) (rcI r p)=ctL (Sh.sz s79) r.2+Sh.sz s79 (accU (rcN p) p):=ctL_ins1 (Sh.sz s79) r.2 (rcA r p) (accU (rcN p) p)
 have h7:=ctL_drop1 (Sh.sz s79) (rcI r p)
 have h8:List.length (rcI r p)=List.length r.2+1:=ins_len1 r.2 (rcA r p) (accU (rcN p) p)
 unfold rcvL;cases validL r with
 | false=>show Sh.sz s46 r≤_;omega
 | true =>
  show Sh.sz s46 (rcvU r p)≤_
  unfold rcvU;cases rcF r p with
  | true=>rw [e,e];show 0+(List.length (r.2.set _ _)+ctL _ (r.2.set _ _))≤_;rw [List.length_set];omega
  | false => cases rcB r p with
   | false=>show Sh.sz s46 r≤_;omega
   | true => cases decide (List.length r.2 = 4) with
    | true=>rw [e,e];show 0+(List.length ((rcI r p).drop 1)+ctL _ ((rcI r p).drop 1))≤_;rw [List.length_drop];omega
    | false=>rw [e,e];show 0+(List.length (rcI r p)+ctL _ (rcI r p))≤_;omega
abbrev rcX (p:T50):T79×Bool:=acceptR (rcN p) p
abbrev rcY (r:T46) (p:T50) (i:Nat):List T79:=(((([]:List T79)++(List.drop 0 (List.take i r.2)))++([(rcX p).1]))++(List.drop i (List.take (List.length r.2) r.2)))
theorem rcY_eq {r:T46} {p:T50} {i:Nat} (h:rcA r p=i):rcY r p i=rcI r p:=by
 show ((([]:List T79)++List.drop 0 (List.take i r.2))++[(acceptR (rcN p) p).1])++List.drop i (List.take (List.length r.2) r.2)=insAt r.2 (rcA r p) [accU (rcN p) p]
 rw [acc_new,h,take_all (Nat.le_refl _),List.nil_append,List.drop_zero];rfl
theorem rcS_nf {r:T46} {p:T50} {i:Nat} (hv:validL r=true) (h1:∀ j,j < i→(r.2.getD j (0,(0,(0,([],0))))).1 < p.1) (h2:i < List.length r.2→¬ (r.2.getD i (0,(0,(0,([],0))))).1 < p.1) (hi:i≤List.length r.2) (hn:¬ i < List.length r.2∨¬ (r.2.getD i (0,(0,(0,([],0))))).1=p.1):rcF r p=false∧rcA r p=i:=by
 have e:rcA r p=i:=bsK_eq (validL_t hv).2.2.1 h1 (fun h=>by have:=h2 h;omega) hi
 refine ⟨decide_eq_false ?_,e⟩
 rw [show bsK (fun x=>x.1) (0,(0,(0,([],0)))) r.2 p.1=i from e]
 rintro ⟨h3,h4⟩
 rcases hn with hn | hn
 ·exact hn h3
 ·exact hn h4
theorem rcS_f {r:T46} {p:T50} {i:Nat} (hv:validL r=true) (hi:i < List.length r.2) (he:(r.2.getD i (0,(0,(0,([],0))))).1=p.1):((r.1,r.2.set i (acceptR (r.2.getD i (0,(0,(0,([],0))))) p).1),(acceptR (r.2.getD i (0,(0,(0,([],0))))) p).2)=rcvL r p:=by
 have hw:=validL_t hv
 have h1:rcF r p=true:=fndK_at hw.2.2.1 hi he
 have h2:rcA r p=i:=bsK_at hw.2.2.1 hi he
 rw [← rcvL_y hv,rcvD_f h1,rcvU_f h1,h2,acc_val (hw.2.2.2 i hi)]
theorem rcS_2 {r:T46} {p:T50} {i:Nat} (hv:validL r=true) (hc:rcF r p=false∧rcA r p=i) (h:(rcX p).2=false∨i=0∧List.length r.2=4):(r,false)=rcvL r p:=by
 have hb:rcB r p=false:=rcB_n (by
  rcases h with h | ⟨h,h4⟩
  ·exact .inl (by rw [show rcX p=_ from acc_new _ _ _ _] at h;exact h)
  ·exact .inr ⟨h4,hc.2.trans h⟩)
 rw [← rcvL_y hv,rcvD_n hc.1 hb,rcvU_n hc.1 hb]
theorem rcS_i {r:T46} {p:T50} {i:Nat} (hv:validL r=true) (hc:rcF r p=false∧rcA r p=i) (h:(rcX p).2=true) (h4:¬ List.length r.2=4):((r.1,rcY r p i),true)=rcvL r p:=by
 have hb:rcB r p=true:=rcB_y (by rw [show rcX p=_ from acc_new _ _ _ _] at h;exact h) (.inl h4)
 rw [← rcvL_y hv,rcvD_n hc.1 hb,rcvU_i hc.1 hb h4,rcY_eq hc.2]
theorem rcS_d {r:T46} {p:T50} {i:Nat} (hv:validL r=true) (hc:rcF r p=false∧rcA r p=i) (h:(rcX p).2=true) (h4:List.length r.2=4) (h0:¬ i=0):((r.1,List.drop 1 (List.take (List.length (rcY r p i)) (rcY r p i))),true)=rcvL r p:=by
 have hb:rcB r p=true:=rcB_y (by rw [show rcX p=_ from acc_new _ _ _ _] at h;exact h) (.inr (by rw [hc.2];exact h0))
 rw [← rcvL_y hv,rcvD_n hc.1 hb,rcvU_d hc.1 hb h4,take_all (Nat.le_refl _),rcY_eq hc.2]
theorem rcY_len {r:T46} {p:T50} {i:Nat} (hc:rcF r p=false∧rcA r p=i):List.length (((([]:List T79)++(List.drop 0 (List.take i r.2)))++([(acceptR (newRec p.1 ((List.length p.2.1:Nat):Int) ((List.length p.2.2:Nat):Int)) p).1]))++(List.drop i (List.take (List.length r.2) r.2)))=List.length r.2+1:=by
 show List.length (rcY r p i)=_
 rw [rcY_eq hc.2];exact ins_len1 _ _ _
abbrev Q__P_impl_Recoder_accept_el:=(fun (x0:((List T79)×Int)) (x1:T50)=>Sh.fit (.pair s44 (.int 3)) x0∧Sh.fit s50 x1∧(0≤x0.2∧x0.2 < ((List.length x0.1:Nat):Int)∧recP (x0.1.getD x0.2.toNat (0,(0,(0,([],0)))))))
def S__P_impl_Recoder_accept_el_b:Sum:=elS 93 44 s79 3 [.rd] [s50] [(.bool 4)] (fun x=>Q__P_impl_Recoder_accept_el x.1 x.2.1) (fun x=>(elU x.1 x.2.1,(x.2.1,()))) (fun x=>((elOK x.1 x.2.1),()))
def S__P_impl_Recoder_accept_el:Sum:=elSum 93 S__P_impl_Recoder_accept_el_b 5
def S__P_impl_Recoder_accept_el_tab:List (Nat×Sum):=[(131,S_impl_IsValidPacket),(130,S_impl_NewBasis),(132,S__P_impl_Basis_insert),(129,S__impl_CodedPacket_clone)]
theorem S__P_impl_Recoder_accept_el_ok:FnOK Try.prog 93 S__P_impl_Recoder_accept_el:=by
 refine at_enterE (t:=44) (s:=s79) (k:=3) (ks:=[.rd]) (l:=[s50]) (cod:=[(.bool 4)]) 5 (fun x hp=>⟨hp.2.2.1,hp.2.2.2.1⟩) 69 1 [] [2] (fun us x=>⟨[(0,aE 1 x.1.2.toNat 0 5),(1,aG [cI x.2.1.1,.ro (.int 3) x.2.1.2.1,.ro (.int 3) x.2.1.2.2])],[(1,oR s79 x.1.1),(2,oP 1 (S__P_impl_Recoder_accept_el_b.hd us 0))]⟩) Try.func93 rfl (by kernel_rfl) (fun us x=>rfl) ?_
 rintro w0 Z0 us ⟨x0,x1,u⟩ L a w
 revert x0 x1
 intro (x0:((List T79)×Int)) (x1:T50) hio hpre hlens h
 replace h:At w0 Z0 L 69 ⟨[(0,aE 1 x0.2.toNat 0 5),(1,aG [cI x1.1,.ro (.int 3) x1.2.1,.ro (.int 3) x1.2.2])],[(1,oR s79 x0.1),(2,oP 1 (S__P_impl_Recoder_accept_el_b.hd us 0))]⟩ a w:=h
 replace hpre:Q__P_impl_Recoder_accept_el x0 x1:=hpre
 have hT:TabOK Try.prog S__P_impl_Recoder_accept_el_tab:=(.cons S_impl_IsValidPacket_ok (.cons S_impl_NewBasis_ok (.cons S__P_impl_Basis_insert_ok (.cons S__impl_CodedPacket_clone_ok .nil))))
 obtain ⟨hf0,hf1,hpx⟩:=hpre
 have hn0_1:List.length x0.1≤1073741824:=hf0.1.1
 have hn1_2:List.length x1.2.1≤1073741824:=hf1.2.1.1
 have hn1_3:List.length x1.2.2≤1073741824:=hf1.2.2.1
 have hpr:=hpx.2.2
 have hpl:=hpr.1
 have hpi:=hpx.1
 have hpj:=hpx.2.1
 replace h:=at_open (σ':=⟨[(0,aE 1 x0.2.toNat 0 5),(1,aG [cI x1.1,.ro (.int 3) x1.2.1,.ro (.int 3) x1.2.2])],[(1,some (.op s79 x0.1 x0.2.toNat [cI (x0.1.getD x0.2.toNat (0,(0,(0,([],0))))).1,cI (x0.1.getD x0.2.toNat (0,(0,(0,([],0))))).2.1,cI (x0.1.getD x0.2.toNat (0,(0,(0,([],0))))).2.2.1,.sl 3,cI (x0.1.getD x0.2.toNat (0,(0,(0,([],0))))).2.2.2.2])),(2,oP 1 (S__P_impl_Recoder_accept_el_b.hd us 0)),(3,oR s50 (x0.1.getD x0.2.toNat (0,(0,(0,([],0))))).2.2.2.1)]⟩) (ps:=[x0.2.toNat < List.length x0.1]) 1 x0.2.toNat [3] { ts:=[0,1],os:=[1,2,3] } h (by kernel_rfl) ⟨(by first | omega | (simp only [lsA];omega) | (simp<;>omega)),trivial⟩
 refine wp_seq ?_
 refine at_regq [{ ids:=[4] }] { ts:=[0,3,4],os:=[1,2,3,4] } [] gamOK hT h (by kernel_rfl) trivial fun a w h=>then_normal (wp_seq (wp_seq ?_))
 by_cases h1:((List.length (x0.1.getD x0.2.toNat (0,(0,(0,([],0))))).2.2.2.1:Nat):Int)=8
 ·refine at_anyq [{}, {}, {}, {}, {}, { hint := some (aB true) }, {}, {}, {}, {}, {}, {}, {}, {}, {}, {}, {}, {}, {}, {}, {}, {}, {}, {}, {}, {}, {}, {}] { ts := [0, 3, 4, 35], os := [1, 2, 3, 4] } [x0.2.toNat = x0.2.toNat, (AV.p (.c (.v (.bool (decide (((List.length (x0.1.getD x0.2.toNat (0, (0, (0, ([], 0))))).2.2.2.1 : Nat) : Int) = 8))))) = AV.p (.c (.v (.bool true))))] gamOK hT mixed h (by kernel_rfl) ⟨rfl, hint_bool (decide_eq_true h1), trivial⟩ fun a w h => then_normal ?_
  refine at_test true h (by kernel_rfl) (fun hh=>?_) (fun hh=>nomatch hh)
  refine wp_seq ?_
  refine at_regq [] { ts:=[0,3,4],os:=[1,2,3,4] } [] gamOK hT h (by kernel_rfl) trivial fun a w h=>then_normal (wp_ret (then_ret ?_))
  replace h:=at_shut (σ':=⟨[(0,aE 1 x0.2.toNat 0 5),(3,aP 4 0),(4,aB false)],[(1,oR s79 (List.set x0.1 x0.2.toNat (x0.1.getD x0.2.toNat (0,(0,(0,([],0))))))),(2,oP 1 (S__P_impl_Recoder_accept_el_b.hd us 0)),(4,oX 50 [cI x1.1,.ro (.int 3) x1.2.1,.ro (.int 3) x1.2.2])]⟩) (ps:=[]) 1 { ts:=[0,3,4],os:=[1,2,4] } h (by kernel_rfl) trivial
  exact at_returnI (S:=S__P_impl_Recoder_accept_el_b) (x:=(x0,x1,())) [1] [2] (((List.set x0.1 x0.2.toNat (x0.1.getD x0.2.toNat (0,(0,(0,([],0)))))),x0.2),(x1,())) (some (false,())) [S__P_impl_Recoder_accept_el_b.hd us 0=S__P_impl_Recoder_accept_el_b.hd us 0] hio h (by kernel_rfl) ⟨rfl,trivial⟩ (by first | rfl | exact congrArg (fun (z:((List T79)×Int))=>(z,(x1,()))) (show (((List.set x0.1 x0.2.toNat (x0.1.getD x0.2.toNat (0,(0,(0,([],0)))))),x0.2):((List T79)×Int))=elU x0 x1 from by (unfold elU;first | (rw [accU_no (accOK_f (by (first | (left;omega) | (right;left;assumption) | (right;right;left;omega) | (right;right;right;rw [← hie];assumption))))];done) | (rw [accU_yes (accOK_t (by omega) (by assumption) (by omega) (by rw [← hie];assumption))];done)))) (fun z e=>(Option.some.inj e) ▸ (congrArg (fun z=>(z,())) (show (false)=elOK x0 x1 from by (unfold elOK;first | exact (accOK_f (by (first | (left;omega) | (right;left;assumption) | (right;right;left;omega) | (right;right;right;rw [← hie];assumption)))).symm | exact (accOK_t (by omega) (by assumption) (by omega) (by rw [← hie];assumption)).symm))))
 ·rcases Bool.eq_false_or_eq_true (!(validP x1 (x0.1.getD x0.2.toNat (0, (0, (0, ([], 0))))).2.1 (x0.1.getD x0.2.toNat (0, (0, (0, ([], 0))))).2.2.1)) with h2 | h2
  ·have hzh2 : (validP x1 (x0.1.getD x0.2.toNat (0, (0, (0, ([], 0))))).2.1 (x0.1.getD x0.2.toNat (0, (0, (0, ([], 0))))).2.2.1) = false := notT h2
   refine at_anyq [{},{},{},{},{},{ hint:=some (aB false) },{},{},{},{},{},{},{},{},{},{},{},{ hint:=some (aB true) },{},{},{},{},{},{},{},{},{},{}] { ts:=[0,3,4,35],os:=[1,2,3,4] } [x0.2.toNat=x0.2.toNat,(AV.p (.c (.v (.bool (decide (((List.length (x0.1.getD x0.2.toNat (0,(0,(0,([],0))))).2.2.2.1:Nat):Int)=8)))))=AV.p (.c (.v (.bool false)))),x0.2.toNat=x0.2.toNat,x0.2.toNat=x0.2.toNat,Q_impl_IsValidPacket x1 (x0.1.getD x0.2.toNat (0,(0,(0,([],0))))).2.1 (x0.1.getD x0.2.toNat (0,(0,(0,([],0))))).2.2.1,(AV.p (.c (.v (.bool (!(validP x1 (x0.1.getD x0.2.toNat (0,(0,(0,([],0))))).2.1 (x0.1.getD x0.2.toNat (0,(0,(0,([],0))))).2.2.1)))))=AV.p (.c (.v (.bool true))))] gamOK hT mixed h (by kernel_rfl) ⟨rfl,hint_bool (decide_eq_false h1),rfl,rfl,(by exact hf1),hint_bool (h2),trivial⟩ fun a w h=>then_normal ?_
   refine at_test true h (by kernel_rfl) (fun hh=>?_) (fun hh=>nomatch hh)
   refine wp_seq ?_
   refine at_regq [] { ts:=[0,3,4],os:=[1,2,3,4] } [] gamOK hT h (by kernel_rfl) trivial fun a w h=>then_normal (wp_ret (then_ret ?_))
   replace h:=at_shut (σ':=⟨[(0,aE 1 x0.2.toNat 0 5),(3,aP 4 0),(4,aB false)],[(1,oR s79 (List.set x0.1 x0.2.toNat (x0.1.getD x0.2.toNat (0,(0,(0,([],0))))))),(2,oP 1 (S__P_impl_Recoder_accept_el_b.hd us 0)),(4,oX 50 [cI x1.1,.ro (.int 3) x1.2.1,.ro (.int 3) x1.2.2])]⟩) (ps:=[]) 1 { ts:=[0,3,4],os:=[1,2,4] } h (by kernel_rfl) trivial
   exact at_returnI (S:=S__P_impl_Recoder_accept_el_b) (x:=(x0,x1,())) [1] [2] (((List.set x0.1 x0.2.toNat (x0.1.getD x0.2.toNat (0,(0,(0,([],0)))))),x0.2),(x1,())) (some (false,())) [S__P_impl_Recoder_accept_el_b.hd us 0=S__P_impl_Recoder_accept_el_b.hd us 0] hio h (by kernel_rfl) ⟨rfl,trivial⟩ (by first | rfl | exact congrArg (fun (z:((List T79)×Int))=>(z,(x1,()))) (show (((List.set x0.1 x0.2.toNat (x0.1.getD x0.2.toNat (0,(0,(0,([],0)))))),x0.2):((List T79)×Int))=elU x0 x1 from by (unfold elU;first | (rw [accU_no (accOK_f (by (first | (left;omega) | (right;left;assumption) | (right;right;left;omega) | (right;right;right;rw [← hie];assumption))))];done) | (rw [accU_yes (accOK_t (by omega) (by assumption) (by omega) (by rw [← hie];assumption))];done)))) (fun z e=>(Option.some.inj e) ▸ (congrArg (fun z=>(z,())) (show (false)=elOK x0 x1 from by (unfold elOK;first | exact (accOK_f (by (first | (left;omega) | (right;left;assumption) | (right;right;left;omega) | (right;right;right;rw [← hie];assumption)))).symm | exact (accOK_t (by omega) (by assumption) (by omega) (by rw [← hie];assumption)).symm))))
  ·have hzh2 : (validP x1 (x0.1.getD x0.2.toNat (0, (0, (0, ([], 0))))).2.1 (x0.1.getD x0.2.toNat (0, (0, (0, ([], 0))))).2.2.1) = true := notF h2
   have hvh2:=validP_n (notF h2)
   refine at_anyq [{},{},{},{},{},{ hint:=some (aB false) },{},{},{},{},{},{},{},{},{},{},{},{ hint:=some (aB false) },{},{},{},{},{},{},{},{},{},{}] { ts:=[0,3,4,35],os:=[1,2,3,4] } [x0.2.toNat=x0.2.toNat,(AV.p (.c (.v (.bool (decide (((List.length (x0.1.getD x0.2.toNat (0,(0,(0,([],0))))).2.2.2.1:Nat):Int)=8)))))=AV.p (.c (.v (.bool false)))),x0.2.toNat=x0.2.toNat,x0.2.toNat=x0.2.toNat,Q_impl_IsValidPacket x1 (x0.1.getD x0.2.toNat (0,(0,(0,([],0))))).2.1 (x0.1.getD x0.2.toNat (0,(0,(0,([],0))))).2.2.1,(AV.p (.c (.v (.bool (!(validP x1 (x0.1.getD x0.2.toNat (0,(0,(0,([],0))))).2.1 (x0.1.getD x0.2.toNat (0,(0,(0,([],0))))).2.2.1)))))=AV.p (.c (.v (.bool false)))),x0.2.toNat=x0.2.toNat] gamOK hT mixed h (by kernel_rfl) ⟨rfl,hint_bool (decide_eq_false h1),rfl,rfl,(by exact hf1),hint_bool (h2),rfl,trivial⟩ fun a w h=>then_normal ?_
   refine at_test (!decide (x1.1=(x0.1.getD x0.2.toNat (0,(0,(0,([],0))))).1)) h (by kernel_rfl) (fun h3=>?_) (fun h3=>?_)
   ·replace h3 : ¬ (x1.1 = (x0.1.getD x0.2.toNat (0, (0, (0, ([], 0))))).1) := of_decide_eq_false (notT h3)
    refine wp_seq ?_
    refine at_regq [] { ts:=[0,3,4],os:=[1,2,3,4] } [] gamOK hT h (by kernel_rfl) trivial fun a w h=>then_normal (wp_ret (then_ret ?_))
    replace h:=at_shut (σ':=⟨[(0,aE 1 x0.2.toNat 0 5),(3,aP 4 0),(4,aB false)],[(1,oR s79 (List.set x0.1 x0.2.toNat (x0.1.getD x0.2.toNat (0,(0,(0,([],0))))))),(2,oP 1 (S__P_impl_Recoder_accept_el_b.hd us 0)),(4,oX 50 [cI x1.1,.ro (.int 3) x1.2.1,.ro (.int 3) x1.2.2])]⟩) (ps:=[]) 1 { ts:=[0,3,4],os:=[1,2,4] } h (by kernel_rfl) trivial
    exact at_returnI (S:=S__P_impl_Recoder_accept_el_b) (x:=(x0,x1,())) [1] [2] (((List.set x0.1 x0.2.toNat (x0.1.getD x0.2.toNat (0,(0,(0,([],0)))))),x0.2),(x1,())) (some (false,())) [S__P_impl_Recoder_accept_el_b.hd us 0=S__P_impl_Recoder_accept_el_b.hd us 0] hio h (by kernel_rfl) ⟨rfl,trivial⟩ (by first | rfl | exact congrArg (fun (z:((List T79)×Int))=>(z,(x1,()))) (show (((List.set x0.1 x0.2.toNat (x0.1.getD x0.2.toNat (0,(0,(0,([],0)))))),x0.2):((List T79)×Int))=elU x0 x1 from by (unfold elU;first | (rw [accU_no (accOK_f (by (first | (left;omega) | (right;left;assumption) | (right;right;left;omega) | (right;right;right;rw [← hie];assumption))))];done) | (rw [accU_yes (accOK_t (by omega) (by assumption) (by omega) (by rw [← hie];assumption))];done)))) (fun z e=>(Option.some.inj e) ▸ (congrArg (fun z=>(z,())) (show (false)=elOK x0 x1 from by (unfold elOK;first | exact (accOK_f (by (first | (left;omega) | (right;left;assumption) | (right;right;left;omega) | (right;right;right;rw [← hie];assumption)))).symm | exact (accOK_t (by omega) (by assumption) (by omega) (by rw [← hie];assumption)).symm))))
   ·replace h3 : x1.1 = (x0.1.getD x0.2.toNat (0, (0, (0, ([], 0))))).1 := of_decide_eq_true (notF h3)
    refine wp_skip (then_normal (wp_seq ?_))
    refine at_regq [{},{},{},{},{ ids:=[5] },{ ids:=[6] }] { ts:=[0,3,4,5],os:=[1,2,3,4,5,6] } [x0.2.toNat=x0.2.toNat,True] gamOK hT h (by kernel_rfl) ⟨rfl,trivial,trivial⟩ fun a w h=>then_normal (wp_seq (wp_seq ?_))
    refine at_regq [] { ts:=[0,3,4,5,44,45,46],os:=[1,2,3,4,5,6] } [x0.2.toNat=x0.2.toNat] gamOK hT h (by kernel_rfl) ⟨rfl,trivial⟩ fun a w h=>then_normal (wp_block ?_)
    replace h:=at_out (σ':=⟨[(0,aE 1 x0.2.toNat 0 5),(3,aP 4 0),(4,aB false),(5,aP 6 0),(44,aS 3),(45,aI ((List.length (x0.1.getD x0.2.toNat (0,(0,(0,([],0))))).2.2.2.1:Nat):Int)),(46,aI 0)],[(1,some (.op s79 x0.1 x0.2.toNat [cI (x0.1.getD x0.2.toNat (0,(0,(0,([],0))))).1,cI (x0.1.getD x0.2.toNat (0,(0,(0,([],0))))).2.1,cI (x0.1.getD x0.2.toNat (0,(0,(0,([],0))))).2.2.1,.sl 3,cI (x0.1.getD x0.2.toNat (0,(0,(0,([],0))))).2.2.2.2])),(2,oP 1 (S__P_impl_Recoder_accept_el_b.hd us 0)),(3,oR s50 (x0.1.getD x0.2.toNat (0,(0,(0,([],0))))).2.2.2.1),(4,oX 50 [cI x1.1,.ro (.int 3) x1.2.1,.ro (.int 3) x1.2.2]),(5,oR s22 (newBas (x0.1.getD x0.2.toNat (0,(0,(0,([],0))))).2.1).2),(6,oX 95 [cI (newBas (x0.1.getD x0.2.toNat (0,(0,(0,([],0))))).2.1).1,.sl 5])]⟩) { ts:=[0,3,4,5,44,45,46],os:=[1,2,3,4,5,6] } h (by kernel_rfl)
    refine at_loop (fun i:Nat=>(⟨[(0,aE 1 x0.2.toNat 0 5),(3,aP 4 0),(4,aB false),(5,aP 6 0),(44,aS 3),(45,aI ((List.length (x0.1.getD x0.2.toNat (0,(0,(0,([],0))))).2.2.2.1:Nat):Int)),(46,aI ((i:Nat):Int))],[(1,some (.op s79 x0.1 x0.2.toNat [cI (x0.1.getD x0.2.toNat (0,(0,(0,([],0))))).1,cI (x0.1.getD x0.2.toNat (0,(0,(0,([],0))))).2.1,cI (x0.1.getD x0.2.toNat (0,(0,(0,([],0))))).2.2.1,.sl 3,cI (x0.1.getD x0.2.toNat (0,(0,(0,([],0))))).2.2.2.2])),(2,oP 1 (S__P_impl_Recoder_accept_el_b.hd us 0)),(3,oR s50 (x0.1.getD x0.2.toNat (0,(0,(0,([],0))))).2.2.2.1),(4,oX 50 [cI x1.1,.ro (.int 3) x1.2.1,.ro (.int 3) x1.2.2]),(5,oR s22 (LA.insTo (cofs (x0.1.getD x0.2.toNat (0,(0,(0,([],0))))).2.2.2.1) i)),(6,oX 95 [cI (x0.1.getD x0.2.toNat (0,(0,(0,([],0))))).2.1,.sl 5])]⟩:St)) (fun i=>i≤(List.length (x0.1.getD x0.2.toNat (0,(0,(0,([],0))))).2.2.2.1)) (fun i=>(List.length (x0.1.getD x0.2.toNat (0,(0,(0,([],0))))).2.2.2.1) - i) (0) h (st_congr4 (fun (d0:Int) (d1:List (List Int)) (d2:List T50) (d3:Int)=>(⟨[(0,aE 1 x0.2.toNat 0 5),(3,aP 4 0),(4,aB false),(5,aP 6 0),(44,aS 3),(45,aI ((List.length (x0.1.getD x0.2.toNat (0,(0,(0,([],0))))).2.2.2.1:Nat):Int)),(46,aI d3)],[(1,some (.op s79 x0.1 x0.2.toNat [cI (x0.1.getD x0.2.toNat (0,(0,(0,([],0))))).1,cI (x0.1.getD x0.2.toNat (0,(0,(0,([],0))))).2.1,cI (x0.1.getD x0.2.toNat (0,(0,(0,([],0))))).2.2.1,.sl 3,cI (x0.1.getD x0.2.toNat (0,(0,(0,([],0))))).2.2.2.2])),(2,oP 1 (S__P_impl_Recoder_accept_el_b.hd us 0)),(3,oR s50 d2),(4,oX 50 [cI x1.1,.ro (.int 3) x1.2.1,.ro (.int 3) x1.2.2]),(5,oR s22 d1),(6,oX 95 [cI d0,.sl 5])]⟩:St)) (show ((newBas (x0.1.getD x0.2.toNat (0,(0,(0,([],0))))).2.1).1:Int)=(x0.1.getD x0.2.toNat (0,(0,(0,([],0))))).2.1 from by first | with_reducible rfl | (first | rfl | (rw [newBas_at (by omega)];done) | (rw [newBas_at (by omega)];rfl)) | rfl) (show ((newBas (x0.1.getD x0.2.toNat (0,(0,(0,([],0))))).2.1).2:List (List Int))=(LA.insTo (cofs (x0.1.getD x0.2.toNat (0,(0,(0,([],0))))).2.2.2.1) (0)) from by first | with_reducible rfl | (first | rfl | (rw [newBas_at (by omega)];done) | (rw [newBas_at (by omega)];rfl)) | rfl) (show ((x0.1.getD x0.2.toNat (0,(0,(0,([],0))))).2.2.2.1:List T50)=(x0.1.getD x0.2.toNat (0,(0,(0,([],0))))).2.2.2.1 from by first | with_reducible rfl | (first | rfl | (rw [newBas_at (by omega)];done) | (rw [newBas_at (by omega)];rfl)) | rfl) (show (0:Int)=(((0):Nat):Int) from by first | with_reducible rfl | (first | rfl | (rw [newBas_at (by omega)];done) | (rw [newBas_at (by omega)];rfl)) | rfl)) (by omega) ?_
    intro i a w hok0 h
    refine wp_seq ?_
    refine at_regq [] { ts:=[0,3,4,5,44,45,46,47],os:=[1,2,3,4,5,6] } [] gamOK hT h (by kernel_rfl) trivial fun a w h=>then_normal (wp_seq ?_)
    refine at_test (decide (((i:Nat):Int) < ((List.length (x0.1.getD x0.2.toNat (0,(0,(0,([],0))))).2.2.2.1:Nat):Int))) h (by kernel_rfl) (fun h4=>?_) (fun h4=>?_)
    ·replace h4 : ((i : Nat) : Int) < ((List.length (x0.1.getD x0.2.toNat (0, (0, (0, ([], 0))))).2.2.2.1 : Nat) : Int) := of_decide_eq_true h4
     have hrw:=recP_row hpr (show i < (List.length (x0.1.getD x0.2.toNat (0,(0,(0,([],0))))).2.2.2.1) by omega)
     have hbP:basP ((x0.1.getD x0.2.toNat (0,(0,(0,([],0))))).2.1,(LA.insTo (cofs (x0.1.getD x0.2.toNat (0,(0,(0,([],0))))).2.2.2.1) i)):=⟨by omega,recP_red hpr (by omega)⟩
     refine wp_skip (then_normal (wp_seq (wp_block (wp_seq ?_))))
     replace h:=at_open (σ':=⟨[(0,aE 1 x0.2.toNat 0 5),(3,aP 4 0),(4,aB false),(5,aP 6 0),(44,aS 3),(45,aI ((List.length (x0.1.getD x0.2.toNat (0,(0,(0,([],0))))).2.2.2.1:Nat):Int)),(46,aI ((i:Nat):Int)),(47,aB (decide (((i:Nat):Int) < ((List.length (x0.1.getD x0.2.toNat (0,(0,(0,([],0))))).2.2.2.1:Nat):Int))))],[(1,some (.op s79 x0.1 x0.2.toNat [cI (x0.1.getD x0.2.toNat (0,(0,(0,([],0))))).1,cI (x0.1.getD x0.2.toNat (0,(0,(0,([],0))))).2.1,cI (x0.1.getD x0.2.toNat (0,(0,(0,([],0))))).2.2.1,.sl 3,cI (x0.1.getD x0.2.toNat (0,(0,(0,([],0))))).2.2.2.2])),(2,oP 1 (S__P_impl_Recoder_accept_el_b.hd us 0)),(3,some (.op s50 (x0.1.getD x0.2.toNat (0,(0,(0,([],0))))).2.2.2.1 i [cI ((x0.1.getD x0.2.toNat (0,(0,(0,([],0))))).2.2.2.1.getD i (0,([],[]))).1,.sl 7,.sl 8])),(4,oX 50 [cI x1.1,.ro (.int 3) x1.2.1,.ro (.int 3) x1.2.2]),(5,oR s22 (LA.insTo (cofs (x0.1.getD x0.2.toNat (0,(0,(0,([],0))))).2.2.2.1) i)),(6,oX 95 [cI (x0.1.getD x0.2.toNat (0,(0,(0,([],0))))).2.1,.sl 5]),(7,oR (.int 3) ((x0.1.getD x0.2.toNat (0,(0,(0,([],0))))).2.2.2.1.getD i (0,([],[]))).2.1),(8,oR (.int 3) ((x0.1.getD x0.2.toNat (0,(0,(0,([],0))))).2.2.2.1.getD i (0,([],[]))).2.2)]⟩) (ps:=[i < List.length (x0.1.getD x0.2.toNat (0,(0,(0,([],0))))).2.2.2.1]) 3 i [7,8] { ts:=[0,3,4,5,44,45,46,47],os:=[1,2,3,4,5,6,7,8] } h (by kernel_rfl) ⟨(by (have hL0:=(show List.length (x0.1.getD x0.2.toNat (0,(0,(0,([],0))))).2.2.2.1≤1073741824 from ((Sh.fit_getD hf0.1 x0.2.toNat).2.2.2.1).1);first | omega | (simp only [lsA];omega) | (simp<;>omega))),trivial⟩
     refine at_regq [{},{},{ ids:=[9] }] { ts:=[0,3,4,5,7,44,45,46],os:=[1,2,3,4,5,6,7,8,9] } [(0:Int)≤((i:Nat):Int)∧((i:Nat):Int) < ((List.length (x0.1.getD x0.2.toNat (0,(0,(0,([],0))))).2.2.2.1:Nat):Int),i=i] gamOK hT h (by kernel_rfl) ⟨(by refine ⟨?_,?_⟩<;>((have hL0:=(show List.length (x0.1.getD x0.2.toNat (0,(0,(0,([],0))))).2.2.2.1≤1073741824 from ((Sh.fit_getD hf0.1 x0.2.toNat).2.2.2.1).1);first | omega | (simp only [lsA];omega) | (simp<;>omega)))),rfl,trivial⟩ fun a w h=>then_normal ?_
     refine at_regq [{},{},{ ids:=[10] }] { ts:=[0,3,4,5,44,45,46],os:=[1,2,3,4,6,7,8,10] } [Q__P_impl_Basis_insert ((x0.1.getD x0.2.toNat (0,(0,(0,([],0))))).2.1,(LA.insTo (cofs (x0.1.getD x0.2.toNat (0,(0,(0,([],0))))).2.2.2.1) i)) ((x0.1.getD x0.2.toNat (0,(0,(0,([],0))))).2.2.2.1.getD i (0,([],[]))).2.1] gamOK hT h (by kernel_rfl) ⟨(by exact ⟨basP_fit hbP,fitV hrw (by omega),hbP,hrw⟩),trivial⟩ fun a w h=>in_normal (then_normal ?_)
     refine at_regq [{ nw:=true }] { ts:=[0,3,4,5,44,45,46],os:=[1,2,3,4,6,7,8,10] } [I64 (((i:Nat):Int)+1)] gamOK hT h (by kernel_rfl) ⟨⟨by first | omega | (simp only [lsA];omega) | (simp<;>omega),by first | omega | (simp only [lsA];omega) | (simp<;>omega)⟩,trivial⟩ fun a w h=>?_
     replace h:=at_shut (σ':=⟨[(0,aE 1 x0.2.toNat 0 5),(3,aP 4 0),(4,aB false),(5,aP 6 0),(44,aS 3),(45,aI ((List.length (x0.1.getD x0.2.toNat (0,(0,(0,([],0))))).2.2.2.1:Nat):Int)),(46,aI (((i:Nat):Int)+1))],[(1,some (.op s79 x0.1 x0.2.toNat [cI (x0.1.getD x0.2.toNat (0,(0,(0,([],0))))).1,cI (x0.1.getD x0.2.toNat (0,(0,(0,([],0))))).2.1,cI (x0.1.getD x0.2.toNat (0,(0,(0,([],0))))).2.2.1,.sl 3,cI (x0.1.getD x0.2.toNat (0,(0,(0,([],0))))).2.2.2.2])),(2,oP 1 (S__P_impl_Recoder_accept_el_b.hd us 0)),(3,oR s50 (List.set (x0.1.getD x0.2.toNat (0,(0,(0,([],0))))).2.2.2.1 i ((x0.1.getD x0.2.toNat (0,(0,(0,([],0))))).2.2.2.1.getD i (0,([],[]))))),(4,oX 50 [cI x1.1,.ro (.int 3) x1.2.1,.ro (.int 3) x1.2.2]),(6,oX 95 [cI (insU ((x0.1.getD x0.2.toNat (0,(0,(0,([],0))))).2.1,(LA.insTo (cofs (x0.1.getD x0.2.toNat (0,(0,(0,([],0))))).2.2.2.1) i)) ((x0.1.getD x0.2.toNat (0,(0,(0,([],0))))).2.2.2.1.getD i (0,([],[]))).2.1).1,.sl 10]),(10,oR s22 (insU ((x0.1.getD x0.2.toNat (0,(0,(0,([],0))))).2.1,(LA.insTo (cofs (x0.1.getD x0.2.toNat (0,(0,(0,([],0))))).2.2.2.1) i)) ((x0.1.getD x0.2.toNat (0,(0,(0,([],0))))).2.2.2.1.getD i (0,([],[]))).2.1).2)]⟩) (ps:=[]) 3 { ts:=[0,3,4,5,44,45,46],os:=[1,2,3,4,6,10] } h (by kernel_rfl) trivial
     replace h:=at_out (σ':=⟨[(0,aE 1 x0.2.toNat 0 5),(3,aP 4 0),(4,aB false),(5,aP 6 0),(44,aS 3),(45,aI ((List.length (x0.1.getD x0.2.toNat (0,(0,(0,([],0))))).2.2.2.1:Nat):Int)),(46,aI (((i:Nat):Int)+1))],[(1,some (.op s79 x0.1 x0.2.toNat [cI (x0.1.getD x0.2.toNat (0,(0,(0,([],0))))).1,cI (x0.1.getD x0.2.toNat (0,(0,(0,([],0))))).2.1,cI (x0.1.getD x0.2.toNat (0,(0,(0,([],0))))).2.2.1,.sl 3,cI (x0.1.getD x0.2.toNat (0,(0,(0,([],0))))).2.2.2.2])),(2,oP 1 (S__P_impl_Recoder_accept_el_b.hd us 0)),(3,oR s50 (List.set (x0.1.getD x0.2.toNat (0,(0,(0,([],0))))).2.2.2.1 i ((x0.1.getD x0.2.toNat (0,(0,(0,([],0))))).2.2.2.1.getD i (0,([],[]))))),(4,oX 50 [cI x1.1,.ro (.int 3) x1.2.1,.ro (.int 3) x1.2.2]),(5,oR s22 (insU ((x0.1.getD x0.2.toNat (0,(0,(0,([],0))))).2.1,(LA.insTo (cofs (x0.1.getD x0.2.toNat (0,(0,(0,([],0))))).2.2.2.1) i)) ((x0.1.getD x0.2.toNat (0,(0,(0,([],0))))).2.2.2.1.getD i (0,([],[]))).2.1).2),(6,oX 95 [cI (insU ((x0.1.getD x0.2.toNat (0,(0,(0,([],0))))).2.1,(LA.insTo (cofs (x0.1.getD x0.2.toNat (0,(0,(0,([],0))))).2.2.2.1) i)) ((x0.1.getD x0.2.toNat (0,(0,(0,([],0))))).2.2.2.1.getD i (0,([],[]))).2.1).1,.sl 5])]⟩) { ts:=[0,3,4,5,44,45,46],os:=[1,2,3,4,10,6],rn:=[(10,5)] } h (by kernel_rfl)
     exact ⟨i+1,at_eq h (st_congr4 (fun (d0:Int) (d1:List (List Int)) (d2:List T50) (d3:Int)=>(⟨[(0,aE 1 x0.2.toNat 0 5),(3,aP 4 0),(4,aB false),(5,aP 6 0),(44,aS 3),(45,aI ((List.length (x0.1.getD x0.2.toNat (0,(0,(0,([],0))))).2.2.2.1:Nat):Int)),(46,aI d3)],[(1,some (.op s79 x0.1 x0.2.toNat [cI (x0.1.getD x0.2.toNat (0,(0,(0,([],0))))).1,cI (x0.1.getD x0.2.toNat (0,(0,(0,([],0))))).2.1,cI (x0.1.getD x0.2.toNat (0,(0,(0,([],0))))).2.2.1,.sl 3,cI (x0.1.getD x0.2.toNat (0,(0,(0,([],0))))).2.2.2.2])),(2,oP 1 (S__P_impl_Recoder_accept_el_b.hd us 0)),(3,oR s50 d2),(4,oX 50 [cI x1.1,.ro (.int 3) x1.2.1,.ro (.int 3) x1.2.2]),(5,oR s22 d1),(6,oX 95 [cI d0,.sl 5])]⟩:St)) (show ((insU ((x0.1.getD x0.2.toNat (0,(0,(0,([],0))))).2.1,(LA.insTo (cofs (x0.1.getD x0.2.toNat (0,(0,(0,([],0))))).2.2.2.1) i)) ((x0.1.getD x0.2.toNat (0,(0,(0,([],0))))).2.2.2.1.getD i (0,([],[]))).2.1).1:Int)=(x0.1.getD x0.2.toNat (0,(0,(0,([],0))))).2.1 from by first | with_reducible rfl | (rfl) | rfl) (show ((insU ((x0.1.getD x0.2.toNat (0,(0,(0,([],0))))).2.1,(LA.insTo (cofs (x0.1.getD x0.2.toNat (0,(0,(0,([],0))))).2.2.2.1) i)) ((x0.1.getD x0.2.toNat (0,(0,(0,([],0))))).2.2.2.1.getD i (0,([],[]))).2.1).2:List (List Int))=(LA.insTo (cofs (x0.1.getD x0.2.toNat (0,(0,(0,([],0))))).2.2.2.1) (i+1)) from by first | with_reducible rfl | (exact insTo_next (by omega)) | rfl) (show ((List.set (x0.1.getD x0.2.toNat (0,(0,(0,([],0))))).2.2.2.1 i ((x0.1.getD x0.2.toNat (0,(0,(0,([],0))))).2.2.2.1.getD i (0,([],[])))):List T50)=(x0.1.getD x0.2.toNat (0,(0,(0,([],0))))).2.2.2.1 from by first | with_reducible rfl | (exact set_self (by omega)) | rfl) (show (((i:Nat):Int)+1:Int)=(((i+1):Nat):Int) from by first | with_reducible rfl | (omega) | rfl)),(by omega),(by omega)⟩
    ·replace h4 : ¬ (((i : Nat) : Int) < ((List.length (x0.1.getD x0.2.toNat (0, (0, (0, ([], 0))))).2.2.2.1 : Nat) : Int)) := of_decide_eq_false h4
     have hie:i=(List.length (x0.1.getD x0.2.toNat (0,(0,(0,([],0))))).2.2.2.1):=by omega
     have hbP:basP ((x0.1.getD x0.2.toNat (0,(0,(0,([],0))))).2.1,(LA.insTo (cofs (x0.1.getD x0.2.toNat (0,(0,(0,([],0))))).2.2.2.1) i)):=⟨by omega,recP_red hpr (by omega)⟩
     have hpv:=validP_t (p:=x1) (by assumption)
     have hrw:LA.VokB (x0.1.getD x0.2.toNat (0,(0,(0,([],0))))).2.1.toNat x1.2.1:=⟨by have:=hpv.2.1;omega,(validV_t hpv.2.2.2.1).2.1⟩
     refine wp_exit (then_exit (then_exit (in_hit (then_normal (wp_seq (wp_seq ?_))))))
     refine at_regq [{},{},{ ids:=[11] }] { ts:=[0,3,4,57],os:=[1,2,3,4] } [Q__P_impl_Basis_insert ((x0.1.getD x0.2.toNat (0,(0,(0,([],0))))).2.1,(LA.insTo (cofs (x0.1.getD x0.2.toNat (0,(0,(0,([],0))))).2.2.2.1) i)) x1.2.1] gamOK hT h (by kernel_rfl) ⟨(by exact ⟨basP_fit hbP,fitV hrw (by omega),hbP,hrw⟩),trivial⟩ fun a w h=>then_normal ?_
     refine at_test (!(insD ((x0.1.getD x0.2.toNat (0,(0,(0,([],0))))).2.1,(LA.insTo (cofs (x0.1.getD x0.2.toNat (0,(0,(0,([],0))))).2.2.2.1) i)) x1.2.1)) h (by kernel_rfl) (fun h5=>?_) (fun h5=>?_)
     ·replace h5 : (insD ((x0.1.getD x0.2.toNat (0, (0, (0, ([], 0))))).2.1, (LA.insTo (cofs (x0.1.getD x0.2.toNat (0, (0, (0, ([], 0))))).2.2.2.1) i)) x1.2.1) = false := notT h5
      refine wp_seq ?_
      refine at_regq [] { ts:=[0,3,4],os:=[1,2,3,4] } [] gamOK hT h (by kernel_rfl) trivial fun a w h=>then_normal (wp_ret (then_ret ?_))
      replace h:=at_shut (σ':=⟨[(0,aE 1 x0.2.toNat 0 5),(3,aP 4 0),(4,aB false)],[(1,oR s79 (List.set x0.1 x0.2.toNat (x0.1.getD x0.2.toNat (0,(0,(0,([],0))))))),(2,oP 1 (S__P_impl_Recoder_accept_el_b.hd us 0)),(4,oX 50 [cI x1.1,.ro (.int 3) x1.2.1,.ro (.int 3) x1.2.2])]⟩) (ps:=[]) 1 { ts:=[0,3,4],os:=[1,2,4] } h (by kernel_rfl) trivial
      exact at_returnI (S:=S__P_impl_Recoder_accept_el_b) (x:=(x0,x1,())) [1] [2] (((List.set x0.1 x0.2.toNat (x0.1.getD x0.2.toNat (0,(0,(0,([],0)))))),x0.2),(x1,())) (some (false,())) [S__P_impl_Recoder_accept_el_b.hd us 0=S__P_impl_Recoder_accept_el_b.hd us 0] hio h (by kernel_rfl) ⟨rfl,trivial⟩ (by first | rfl | exact congrArg (fun (z:((List T79)×Int))=>(z,(x1,()))) (show (((List.set x0.1 x0.2.toNat (x0.1.getD x0.2.toNat (0,(0,(0,([],0)))))),x0.2):((List T79)×Int))=elU x0 x1 from by (unfold elU;first | (rw [accU_no (accOK_f (by (first | (left;omega) | (right;left;assumption) | (right;right;left;omega) | (right;right;right;rw [← hie];assumption))))];done) | (rw [accU_yes (accOK_t (by omega) (by assumption) (by omega) (by rw [← hie];assumption))];done)))) (fun z e=>(Option.some.inj e) ▸ (congrArg (fun z=>(z,())) (show (false)=elOK x0 x1 from by (unfold elOK;first | exact (accOK_f (by (first | (left;omega) | (right;left;assumption) | (right;right;left;omega) | (right;right;right;rw [← hie];assumption)))).symm | exact (accOK_t (by omega) (by assumption) (by omega) (by rw [← hie];assumption)).symm))))
     ·replace h5 : (insD ((x0.1.getD x0.2.toNat (0, (0, (0, ([], 0))))).2.1, (LA.insTo (cofs (x0.1.getD x0.2.toNat (0, (0, (0, ([], 0))))).2.2.2.1) i)) x1.2.1) = true := notF h5
      refine wp_skip (then_normal (wp_seq ?_))
      refine at_anyq [{},{},{},{},{},{},{ ids:=[12,13] },{ ids:=[14] },{ ids:=[15] },{},{},{}] { ts:=[4],os:=[1,2,15] } [x0.2.toNat=x0.2.toNat,Q__impl_CodedPacket_clone x1,(List.length (x0.1.getD x0.2.toNat (0,(0,(0,([],0))))).2.2.2.1+List.length ([x1]))*56≤140737488355328,x0.2.toNat=x0.2.toNat] gamOK hT mixed h (by kernel_rfl) ⟨rfl,(by exact hf1),(by (have hL0:=(show List.length (x0.1.getD x0.2.toNat (0,(0,(0,([],0))))).2.2.2.1≤1073741824 from ((Sh.fit_getD hf0.1 x0.2.toNat).2.2.2.1).1);first | omega | (simp only [lsA];omega) | (simp<;>omega))),rfl,trivial⟩ fun a w h=>then_normal (wp_seq ?_)
      refine at_regq [] { ts:=[4],os:=[1,2,15] } [] gamOK hT h (by kernel_rfl) trivial fun a w h=>then_normal (wp_ret ?_)
      replace h:=at_shut (σ':=⟨[(4,aB true)],[(1,oR s79 (List.set x0.1 x0.2.toNat ((x0.1.getD x0.2.toNat (0,(0,(0,([],0))))).1,((x0.1.getD x0.2.toNat (0,(0,(0,([],0))))).2.1,((x0.1.getD x0.2.toNat (0,(0,(0,([],0))))).2.2.1,(((x0.1.getD x0.2.toNat (0,(0,(0,([],0))))).2.2.2.1++([x1])),(x0.1.getD x0.2.toNat (0,(0,(0,([],0))))).2.2.2.2)))))),(2,oP 1 (S__P_impl_Recoder_accept_el_b.hd us 0))]⟩) (ps:=[]) 1 { ts:=[4],os:=[1,2] } h (by kernel_rfl) trivial
      exact at_returnI (S:=S__P_impl_Recoder_accept_el_b) (x:=(x0,x1,())) [1] [2] (((List.set x0.1 x0.2.toNat ((x0.1.getD x0.2.toNat (0,(0,(0,([],0))))).1,((x0.1.getD x0.2.toNat (0,(0,(0,([],0))))).2.1,((x0.1.getD x0.2.toNat (0,(0,(0,([],0))))).2.2.1,(((x0.1.getD x0.2.toNat (0,(0,(0,([],0))))).2.2.2.1++([x1])),(x0.1.getD x0.2.toNat (0,(0,(0,([],0))))).2.2.2.2))))),x0.2),(x1,())) (some (true,())) [S__P_impl_Recoder_accept_el_b.hd us 0=S__P_impl_Recoder_accept_el_b.hd us 0] hio h (by kernel_rfl) ⟨rfl,trivial⟩ (by first | rfl | exact congrArg (fun (z:((List T79)×Int))=>(z,(x1,()))) (show (((List.set x0.1 x0.2.toNat ((x0.1.getD x0.2.toNat (0,(0,(0,([],0))))).1,((x0.1.getD x0.2.toNat (0,(0,(0,([],0))))).2.1,((x0.1.getD x0.2.toNat (0,(0,(0,([],0))))).2.2.1,(((x0.1.getD x0.2.toNat (0,(0,(0,([],0))))).2.2.2.1++([x1])),(x0.1.getD x0.2.toNat (0,(0,(0,([],0))))).2.2.2.2))))),x0.2):((List T79)×Int))=elU x0 x1 from by (unfold elU;first | (rw [accU_no (accOK_f (by (first | (left;omega) | (right;left;assumption) | (right;right;left;omega) | (right;right;right;rw [← hie];assumption))))];done) | (rw [accU_yes (accOK_t (by omega) (by assumption) (by omega) (by rw [← hie];assumption))];done)))) (fun z e=>(Option.some.inj e) ▸ (congrArg (fun z=>(z,())) (show (true)=elOK x0 x1 from by (unfold elOK;first | exact (accOK_f (by (first | (left;omega) | (right;left;assumption) | (right;right;left;omega) | (right;right;right;rw [← hie];assumption)))).symm | exact (accOK_t (by omega) (by assumption) (by omega) (by rw [← hie];assumption)).symm))))

abbrev Q__impl_Relay_clone:=(fun (x0:T46)=>Sh.fit s46 x0)
def S__impl_Relay_clone:Sum:={ fid:=49,dom:=[s46],cod:=[s46],dp:=true,fz:=false,pre:=fun x=>Q__impl_Relay_clone x.1,g:=fun x=>(((idD s46) x.1),()) }
def S__impl_Relay_clone_tab:List (Nat×Sum):=[(90,S__impl_Recoder_clone)]
theorem S__impl_Relay_clone_ok:FnOK Try.prog 49 S__impl_Relay_clone:=by
 refine at_enter 25 (fun x=>⟨[(0,aG [cI x.1.1,.ro s79 x.1.2])],[]⟩) Try.func49 rfl (by kernel_rfl) (fun x=>rfl) ?_
 rintro w0 Z0 ⟨x0,u⟩ a w
 revert x0
 intro (x0:T46) hpre hlens h
 replace hpre:Q__impl_Relay_clone x0:=hpre
 have hT:TabOK Try.prog S__impl_Relay_clone_tab:=(.cons S__impl_Recoder_clone_ok .nil)
 have hf0:Sh.fit s46 x0:=hpre
 have hn0_1:List.length x0.2≤1073741824:=hf0.2.1
 refine wp_seq ?_
 refine at_regq [{ ids:=[1] },{ ids:=[2] }] { ts:=[1,2],os:=[1,2] } [] gamOK hT h (by kernel_rfl) trivial fun a w h=>then_normal (wp_seq ?_)
 refine at_regq [{},{},{},{ ids:=[3] }] { ts:=[1,2,3],os:=[1,2,3] } [] gamOK hT h (by kernel_rfl) trivial fun a w h=>then_normal (wp_seq (wp_seq ?_))
 refine at_regq [] { ts:=[2,3,10,11,12],os:=[2,3] } [] gamOK hT h (by kernel_rfl) trivial fun a w h=>then_normal (wp_block ?_)
 replace h:=at_out (σ':=⟨[(2,aP 2 0),(3,aP 3 0),(10,aF s79 x0.2),(11,aI ((List.length x0.2:Nat):Int)),(12,aI 0)],[(2,oX 46 [cI 0,cN]),(3,oX 46 [cI x0.1,.sl 4]),(4,oR s79 ([]:List T79))]⟩) { mt:=[⟨some 3,1,4,true,s79⟩],ts:=[2,3,10,11,12],os:=[2,3,4] } h (by kernel_rfl)
 refine at_loop (fun i:Nat=>(⟨[(2,aP 2 0),(3,aP 3 0),(10,aF s79 x0.2),(11,aI ((List.length x0.2:Nat):Int)),(12,aI ((i:Nat):Int))],[(2,oX 46 [cI 0,cN]),(3,oX 46 [cI x0.1,.sl 4]),(4,oR s79 (List.take i x0.2))]⟩:St)) (fun i=>i≤List.length x0.2) (fun i=>List.length x0.2 - i) (0) h (st_congr2 (fun (d0:List T79) (d1:Int)=>(⟨[(2,aP 2 0),(3,aP 3 0),(10,aF s79 x0.2),(11,aI ((List.length x0.2:Nat):Int)),(12,aI d1)],[(2,oX 46 [cI 0,cN]),(3,oX 46 [cI x0.1,.sl 4]),(4,oR s79 d0)]⟩:St)) (show (([]:List T79):List T79)=(List.take (0) x0.2) from by first | with_reducible rfl | (rfl) | rfl) (show (0:Int)=(((0):Nat):Int) from by first | with_reducible rfl | (rfl) | rfl)) (by omega) ?_
 intro i a w hok0 h
 have hlt0:=len_take_le (xs:=x0.2) i
 refine wp_seq ?_
 refine at_regq [] { ts:=[2,3,10,11,12,13],os:=[2,3,4] } [] gamOK hT h (by kernel_rfl) trivial fun a w h=>then_normal (wp_seq ?_)
 refine at_test (decide (((i:Nat):Int) < ((List.length x0.2:Nat):Int))) h (by kernel_rfl) (fun h1=>?_) (fun h1=>?_)
 ·replace h1 : ((i : Nat) : Int) < ((List.length x0.2 : Nat) : Int) := of_decide_eq_true h1
  refine wp_skip (then_normal (wp_seq (wp_block (wp_seq ?_))))
  refine at_regq [{},{},{ ids:=[5] }] { ts:=[2,3,5,10,11,12],os:=[2,3,4,5] } [(0:Int)≤((i:Nat):Int)∧((i:Nat):Int) < ((List.length x0.2:Nat):Int)] gamOK hT h (by kernel_rfl) ⟨(by refine ⟨?_,?_⟩<;>(first | omega | (simp only [lsA];omega) | (simp<;>omega))),trivial⟩ fun a w h=>then_normal ?_
  refine at_anyq [{},{},{},{ ids:=[6] },{ ids:=[7] },{ ids:=[8] },{},{}] { ts:=[2,3,10,11,12],os:=[2,3,8] } [Q__impl_Recoder_clone (x0.2.getD i (0,(0,(0,([],0))))),(List.length (List.take i x0.2)+List.length ([(x0.2.getD i (0,(0,(0,([],0)))))]))*56≤140737488355328] gamOK hT mixed h (by kernel_rfl) ⟨(by exact (Sh.fit_getD hf0.2 i)),(by (have hL0:=(show List.length (List.take i x0.2)≤1073741824 from ((Sh.fit_take hf0.2 i)).1);first | omega | (simp only [lsA];omega) | (simp<;>omega))),trivial⟩ fun a w h=>in_normal (then_normal ?_)
  refine at_regq [{ nw:=true }] { ts:=[2,3,10,11,12],os:=[2,3,8] } [I64 (((i:Nat):Int)+1)] gamOK hT h (by kernel_rfl) ⟨⟨by first | omega | (simp only [lsA];omega) | (simp<;>omega),by first | omega | (simp only [lsA];omega) | (simp<;>omega)⟩,trivial⟩ fun a w h=>?_
  replace h:=at_out (σ':=⟨[(2,aP 2 0),(3,aP 3 0),(10,aF s79 x0.2),(11,aI ((List.length x0.2:Nat):Int)),(12,aI (((i:Nat):Int)+1))],[(2,oX 46 [cI 0,cN]),(3,oX 46 [cI x0.1,.sl 4]),(4,oR s79 ((List.take i x0.2)++([(x0.2.getD i (0,(0,(0,([],0)))))])))]⟩) { ts:=[2,3,10,11,12],os:=[2,3,8],rn:=[(8,4)] } h (by kernel_rfl)
  exact ⟨i+1,at_eq h (st_congr2 (fun (d0:List T79) (d1:Int)=>(⟨[(2,aP 2 0),(3,aP 3 0),(10,aF s79 x0.2),(11,aI ((List.length x0.2:Nat):Int)),(12,aI d1)],[(2,oX 46 [cI 0,cN]),(3,oX 46 [cI x0.1,.sl 4]),(4,oR s79 d0)]⟩:St)) (show (((List.take i x0.2)++([(x0.2.getD i (0,(0,(0,([],0)))))])):List T79)=(List.take (i+1) x0.2) from by first | with_reducible rfl | (rw [take_snoc (z:=(0,(0,(0,([],0))))) (by omega)]) | rfl) (show (((i:Nat):Int)+1:Int)=(((i+1):Nat):Int) from by first | with_reducible rfl | (omega) | rfl)),(by omega),(by omega)⟩
 ·replace h1 : ¬ (((i : Nat) : Int) < ((List.length x0.2 : Nat) : Int)) := of_decide_eq_false h1
  refine wp_exit (then_exit ?_)
  replace h:=at_out (σ':=⟨[(2,aP 2 0),(3,aP 3 0)],[(2,oX 46 [cI 0,cN]),(3,oX 46 [cI x0.1,.sl 4]),(4,oR s79 (List.take i x0.2))]⟩) { ts:=[2,3],os:=[2,3,4] } h (by kernel_rfl)
  replace h:=at_eq (σ':=⟨[(2,aP 2 0),(3,aP 3 0)],[(2,oX 46 [cI 0,cN]),(3,oX 46 [cI x0.1,.sl 4]),(4,oR s79 x0.2)]⟩) h (st_congr1 (fun (d0:List T79)=>(⟨[(2,aP 2 0),(3,aP 3 0)],[(2,oX 46 [cI 0,cN]),(3,oX 46 [cI x0.1,.sl 4]),(4,oR s79 d0)]⟩:St)) (show ((List.take i x0.2):List T79)=x0.2 from by first | with_reducible rfl | (rw [take_all (by omega)]) | rfl))
  refine then_exit (in_hit (then_normal (wp_seq ?_)))
  refine at_regq [] { ts:=[2],os:=[2,4] } [] gamOK hT h (by kernel_rfl) trivial fun a w h=>then_normal (wp_ret ?_)
  exact at_return (x0,()) [] h (by kernel_rfl) trivial (congrArg (fun z=>(z,())) (show (x0)=(idD s46) x0 from by rfl))

abbrev Q_spec_l31Copy:=(fun (x0:T46)=>Sh.fit s46 x0)
def S_spec_l31Copy:Sum:={ fid:=44,dom:=[s46],cod:=[s46],dp:=false,fz:=false,pre:=fun x=>Q_spec_l31Copy x.1,g:=fun x=>(((idD s46) x.1),()) }
def S_spec_l31Copy_tab:List (Nat×Sum):=[(85,S_spec_l15Copy)]
theorem S_spec_l31Copy_ok:FnOK Try.prog 44 S_spec_l31Copy:=by
 refine at_enter 27 (fun x=>⟨[(0,aG [cI x.1.1,.ro s79 x.1.2])],[]⟩) Try.func44 rfl (by kernel_rfl) (fun x=>rfl) ?_
 rintro w0 Z0 ⟨x0,u⟩ a w
 revert x0
 intro (x0:T46) hpre hlens h
 replace hpre:Q_spec_l31Copy x0:=hpre
 have hT:TabOK Try.prog S_spec_l31Copy_tab:=(.cons S_spec_l15Copy_ok .nil)
 have hf0:Sh.fit s46 x0:=hpre
 have hn0_1:List.length x0.2≤1073741824:=hf0.2.1
 refine wp_seq ?_
 refine at_regq [{ ids:=[1] },{ ids:=[2] }] { ts:=[1,2],os:=[1,2] } [] gamOK hT h (by kernel_rfl) trivial fun a w h=>then_normal (wp_seq ?_)
 refine at_regq [{},{},{},{ ids:=[3] }] { ts:=[1,2,3],os:=[1,2,3] } [] gamOK hT h (by kernel_rfl) trivial fun a w h=>then_normal (wp_seq (wp_seq ?_))
 refine at_regq [] { ts:=[1,2,3,4],os:=[1,2,3] } [] gamOK hT h (by kernel_rfl) trivial fun a w h=>then_normal (wp_block ?_)
 replace h:=at_out (σ':=⟨[(1,aP 1 0),(2,aP 2 0),(3,aP 3 0),(4,aI 0)],[(1,oX 46 [cI x0.1,.ro s79 x0.2]),(2,oX 46 [cI 0,cN]),(3,oX 46 [cI x0.1,.sl 4]),(4,oF s79 ([]:List T79))]⟩) { mt:=[⟨some 3,1,4,false,s79⟩],ts:=[1,2,3,4],os:=[1,2,3,4] } h (by kernel_rfl)
 refine at_loop (fun i:Nat=>(⟨[(1,aP 1 0),(2,aP 2 0),(3,aP 3 0),(4,aI ((i:Nat):Int))],[(1,oX 46 [cI x0.1,.ro s79 x0.2]),(2,oX 46 [cI 0,cN]),(3,oX 46 [cI x0.1,.sl 4]),(4,oF s79 (List.take i x0.2))]⟩:St)) (fun i=>i≤List.length x0.2) (fun i=>List.length x0.2 - i) (0) h (st_congr2 (fun (d0:List T79) (d1:Int)=>(⟨[(1,aP 1 0),(2,aP 2 0),(3,aP 3 0),(4,aI d1)],[(1,oX 46 [cI x0.1,.ro s79 x0.2]),(2,oX 46 [cI 0,cN]),(3,oX 46 [cI x0.1,.sl 4]),(4,oF s79 d0)]⟩:St)) (show (([]:List T79):List T79)=(List.take (0) x0.2) from by first | with_reducible rfl | (rfl) | rfl) (show (0:Int)=(((0):Nat):Int) from by first | with_reducible rfl | (rfl) | rfl)) (by omega) ?_
 intro i a w hok0 h
 have hlt0:=len_take_le (xs:=x0.2) i
 refine wp_seq (wp_seq ?_)
 refine at_regq [] { ts:=[1,2,3,4,12],os:=[1,2,3,4] } [] gamOK hT h (by kernel_rfl) trivial fun a w h=>then_normal ?_
 refine at_test (decide (((i:Nat):Int) < ((List.length x0.2:Nat):Int))) h (by kernel_rfl) (fun h1=>?_) (fun h1=>?_)
 ·replace h1 : ((i : Nat) : Int) < ((List.length x0.2 : Nat) : Int) := of_decide_eq_true h1
  refine wp_skip (then_normal (wp_seq (wp_block ?_)))
  refine at_anyq [{},{},{},{},{},{},{},{ frz:=true },{ ids:=[5],dp:=false },{ ids:=[6],dp:=false },{},{}] { ts:=[1,2,3,4],os:=[1,2,3,6] } [(0:Int)≤((i:Nat):Int)∧((i:Nat):Int) < ((List.length x0.2:Nat):Int),Q_spec_l15Copy (x0.2.getD i (0,(0,(0,([],0))))),(List.length (List.take i x0.2)+List.length ([(x0.2.getD i (0,(0,(0,([],0)))))]))*56≤140737488355328] gamOK hT mixed h (by kernel_rfl) ⟨(by refine ⟨?_,?_⟩<;>(first | omega | (simp only [lsA];omega) | (simp<;>omega))),(by exact (Sh.fit_getD hf0.2 i)),(by (have hL0:=(show List.length (List.take i x0.2)≤1073741824 from ((Sh.fit_take hf0.2 i)).1);first | omega | (simp only [lsA];omega) | (simp<;>omega))),trivial⟩ fun a w h=>in_normal (then_normal ?_)
  refine at_regq [{},{ nw:=true }] { ts:=[1,2,3,4],os:=[1,2,3,6] } [I64 (((i:Nat):Int)+1)] gamOK hT h (by kernel_rfl) ⟨⟨by first | omega | (simp only [lsA];omega) | (simp<;>omega),by first | omega | (simp only [lsA];omega) | (simp<;>omega)⟩,trivial⟩ fun a w h=>?_
  replace h:=at_out (σ':=⟨[(1,aP 1 0),(2,aP 2 0),(3,aP 3 0),(4,aI (((i:Nat):Int)+1))],[(1,oX 46 [cI x0.1,.ro s79 x0.2]),(2,oX 46 [cI 0,cN]),(3,oX 46 [cI x0.1,.sl 4]),(4,oF s79 ((List.take i x0.2)++([(x0.2.getD i (0,(0,(0,([],0)))))])))]⟩) { ts:=[1,2,3,4],os:=[1,2,3,6],rn:=[(6,4)] } h (by kernel_rfl)
  exact ⟨i+1,at_eq h (st_congr2 (fun (d0:List T79) (d1:Int)=>(⟨[(1,aP 1 0),(2,aP 2 0),(3,aP 3 0),(4,aI d1)],[(1,oX 46 [cI x0.1,.ro s79 x0.2]),(2,oX 46 [cI 0,cN]),(3,oX 46 [cI x0.1,.sl 4]),(4,oF s79 d0)]⟩:St)) (show (((List.take i x0.2)++([(x0.2.getD i (0,(0,(0,([],0)))))])):List T79)=(List.take (i+1) x0.2) from by first | with_reducible rfl | (rw [take_snoc (z:=(0,(0,(0,([],0))))) (by omega)]) | rfl) (show (((i:Nat):Int)+1:Int)=(((i+1):Nat):Int) from by first | with_reducible rfl | (omega) | rfl)),(by omega),(by omega)⟩
 ·replace h1 : ¬ (((i : Nat) : Int) < ((List.length x0.2 : Nat) : Int)) := of_decide_eq_false h1
  refine wp_exit (then_exit ?_)
  replace h:=at_out (σ':=⟨[(2,aP 2 0),(3,aP 3 0)],[(2,oX 46 [cI 0,cN]),(3,oX 46 [cI x0.1,.sl 4]),(4,oF s79 (List.take i x0.2))]⟩) { ts:=[2,3],os:=[2,3,4] } h (by kernel_rfl)
  replace h:=at_eq (σ':=⟨[(2,aP 2 0),(3,aP 3 0)],[(2,oX 46 [cI 0,cN]),(3,oX 46 [cI x0.1,.sl 4]),(4,oF s79 x0.2)]⟩) h (st_congr1 (fun (d0:List T79)=>(⟨[(2,aP 2 0),(3,aP 3 0)],[(2,oX 46 [cI 0,cN]),(3,oX 46 [cI x0.1,.sl 4]),(4,oF s79 d0)]⟩:St)) (show ((List.take i x0.2):List T79)=x0.2 from by first | with_reducible rfl | (rw [take_all (by omega)]) | rfl))
  refine then_exit (in_hit (then_normal (wp_seq ?_)))
  refine at_regq [] { ts:=[2],os:=[2,4] } [] gamOK hT h (by kernel_rfl) trivial fun a w h=>then_normal (wp_ret ?_)
  exact at_return (x0,()) [] h (by kernel_rfl) trivial (congrArg (fun z=>(z,())) (show (x0)=(idD s46) x0 from by rfl))

section
open Go.Shelf Go.Lib
set_option maxRecDepth 100000 in
theorem insA95 (w:World) (A:Option Addr) (n c gu m cu:Nat) (hm:0 < m) (hnc:n≤c) (hc:c≤9223372036854775807) (hA:A=none→c=0) (v':Value) (w':World)
    (hrun:∀ ty,(Builtin.append_ #[44,44] ty #[.slice A n c,.slice (some ⟨gu,0,none⟩) m cu]).run Try.prog w=.ok v' w') :
    Calls Try.prog 95 #[.slice A n c,.int .i64 n,.slice (some ⟨gu,0,none⟩) m cu] w fun e w''=>e=.returned v'∧w''=w':=by
  have u34:=run_underlying Try.underlying44
  have hz1:¬ ((m:Int)=0):=by omega
  go_enter Try.func95,Try.ntmps95
  go_wp2_with (at_builtin;refine Lib.wpList_append_run _ rfl _ _ _ _ rfl _ _ rfl rfl _ _ (hrun _) ?_)
  all_goals (go_ret;exact ⟨rfl,rfl⟩)
set_option maxRecDepth 100000 in
theorem insB95 (w:World) (g n c i gu m cu W C:Nat) (hm:0 < m) (hi:i < n) (hnc:n≤c) (hroom:c < n+m) (hbig:n+m≤9223372036854775807) (hC:n+m≤C) (w1 w2 w3:World) (x1 x2:Value)
    (hrun0:∀ ty,(Builtin.append_ #[44,3] ty #[.slice (some ⟨g,0,none⟩) i c,.int .i64 ((n:Int)+(m:Int) - (i:Int))]).run Try.prog w=.ok (.slice (some ⟨W,0,none⟩) (n+m) C) w1)
    (hrun1:∀ ty,(Builtin.copy_ #[44,44] ty #[.slice (some ⟨W,i*5,none⟩) (n+m - i) (C - i),.slice (some ⟨gu,0,none⟩) m cu]).run Try.prog w1=.ok x1 w2)
    (hrun2:∀ ty,(Builtin.copy_ #[44,44] ty #[.slice (some ⟨W,(i+m)*5,none⟩) (n+m - (i+m)) (C - (i+m)),.slice (some ⟨g,i*5,none⟩) (n - i) (c - i)]).run Try.prog w2.drew=.ok x2 w3) :
    Calls Try.prog 95 #[.slice (some ⟨g,0,none⟩) n c,.int .i64 i,.slice (some ⟨gu,0,none⟩) m cu] w fun e w''=>e=.returned (.slice (some ⟨W,0,none⟩) (n+m) C)∧w''=w3:=by
  have u34:=run_underlying Try.underlying44
  have u3:=run_underlying Try.underlying3
  have hz1:¬ ((m:Int)=0):=by omega
  have hz2:¬ ((i:Int)=(n:Int)):=by omega
  have hz3:(c:Int) < (n:Int)+(m:Int):=by omega
  have hw0:IntKind.i64.wrap ((n:Int)+(m:Int))=(n:Int)+(m:Int):=by rw [IntKind.wrap_i64];omega
  have hw2:IntKind.i64.wrap ((n:Int)+(m:Int) - (i:Int))=(n:Int)+(m:Int) - (i:Int):=by rw [IntKind.wrap_i64];omega
  have hw1:IntKind.i64.wrap ((i:Int)+(m:Int))=(i:Int)+(m:Int):=by rw [IntKind.wrap_i64];omega
  have hb1:(0:Int)≤(i:Int)+(m:Int):=by omega
  have hin:i≤n:=by omega
  have hic:i≤c:=by omega
  have hinm:i≤n+m:=by omega
  have htn:((i:Int)+(m:Int)).toNat=i+m:=by omega
  have hb2:¬ (C=i+m):=by omega
  have hb5:¬ (C=i):=by omega
  have hb3:(i:Int)≤(n:Int)+(m:Int):=by omega
  have hb4:¬ (c=i):=by omega
  have mixed:Try.prog.follows .mixedOrders=true:=by kernel_rfl
  go_enter Try.func95,Try.ntmps95
  go_wp2_with (first
    | (at_builtin;refine Lib.wpList_append_run _ rfl _ _ _ _ rfl _ _ rfl rfl _ _ (hrun0 _) ?_)
    | (at_builtin;refine wpList_copy_runI _ rfl _ _ _ _ rfl _ _ rfl rfl (hrun1 _) ?_))
  go_region_law_o (refine step_copy_runI rfl _ _ 44 44 rfl _ _ (by simp [Act.eval,Act.put]) (by simp [Act.eval,Act.put]) (hrun2 _) ?_)
  go_wp2_with (fail)
  go_ret
  exact ⟨rfl,rfl⟩
set_option maxRecDepth 100000 in
theorem insC95 (w:World) (g n c i gu m cu:Nat) (hm:0 < m) (hi:i < n) (hroom:n+m≤c) (hc:c≤9223372036854775807) (hne:gu≠g) (tA tB:TypeId) (kA kB:Nat) (hsa:w.shape? gu=some (tA,kA)) (hsb:w.shape? g=some (tB,kB)) (hkB:kB≠0) (hfa:w.frozen? ⟨gu,0,none⟩=false) (hfe:w.frozen? ⟨gu,kA,none⟩=false)
    (w1 w2:World) (x1 x2:Value)
    (hrun1:∀ ty,(Builtin.copy_ #[44,44] ty #[.slice (some ⟨g,(i+m)*5,none⟩) (n+m - (i+m)) (c - (i+m)),.slice (some ⟨g,i*5,none⟩) (n+m - i) (c - i)]).run Try.prog w.drew=.ok x1 w1)
    (hrun2:∀ ty,(Builtin.copy_ #[44,44] ty #[.slice (some ⟨g,i*5,none⟩) (n+m - i) (c - i),.slice (some ⟨gu,0,none⟩) m cu]).run Try.prog w1=.ok x2 w2) :
    Calls Try.prog 95 #[.slice (some ⟨g,0,none⟩) n c,.int .i64 i,.slice (some ⟨gu,0,none⟩) m cu] w fun e w''=>e=.returned (.slice (some ⟨g,0,none⟩) (n+m) c)∧w''=w2:=by
  have u34:=run_underlying Try.underlying44
  have u3:=run_underlying Try.underlying3
  have hz1:¬ ((m:Int)=0):=by omega
  have hz2:¬ ((i:Int)=(n:Int)):=by omega
  have hz3:¬ ((c:Int) < (n:Int)+(m:Int)):=by omega
  have hw0:IntKind.i64.wrap ((n:Int)+(m:Int))=(n:Int)+(m:Int):=by rw [IntKind.wrap_i64];omega
  have hw1:IntKind.i64.wrap ((i:Int)+(m:Int))=(i:Int)+(m:Int):=by rw [IntKind.wrap_i64];omega
  have hb1:(0:Int)≤(i:Int)+(m:Int):=by omega
  have hb0:(0:Int)≤(n:Int)+(m:Int):=by omega
  have hb6:(n:Int)+(m:Int)≤(c:Int):=by omega
  have hin:i≤n:=by omega
  have hic:i≤c:=by omega
  have hinm:i≤n+m:=by omega
  have htn:((i:Int)+(m:Int)).toNat=i+m:=by omega
  have htn2:((n:Int)+(m:Int)).toNat=n+m:=by omega
  have hb2:¬ (c=i+m):=by omega
  have hb3:(i:Int)≤(n:Int)+(m:Int):=by omega
  have hb4:¬ (c=i):=by omega
  have mixed:Try.prog.follows .mixedOrders=true:=by kernel_rfl
  have hsz:∀ w,(Go.sizeOf 79).run Try.prog w=.ok 5 w:=fun w=>size_run (P:=Try.prog) (t:=79) (n:=5) (by kernel_rfl) w
  have hov:∀ lb cb,(callFunc 135 #[.slice (some ⟨gu,0,none⟩) m cu,.slice (some ⟨g,(i+m)*5,none⟩) lb cb]).run Try.prog w=.ok (.value (.bool false)) w:=fun lb cb=>by
    rw [run_callFunc_extern Try.func135 (by kernel_rfl) (by kernel_rfl) (by kernel_rfl) (e:=Extern.SlicesOverlaps.overlaps #[44,44] #[4]) (by kernel_rfl),
      Lib.run_overlaps_apart w 44 4 79 Try.underlying44 5 hsz ⟨gu,0,none⟩ ⟨g,(i+m)*5,none⟩ m cu lb cb hne tA tB kA kB hsa hsb hkB hfa hfe]
    rfl
  go_enter Try.func95,Try.ntmps95
  go_wp2_with (simp only [hov])
  go_region_law_o (refine step_copy_runI rfl _ _ 44 44 rfl _ _ (by simp [Act.eval,Act.put]) (by simp [Act.eval,Act.put]) (hrun1 _) ?_)
  go_wp2_with (at_builtin;refine wpList_copy_runI _ rfl _ _ _ _ rfl _ _ rfl rfl (hrun2 _) ?_)
  go_ret
  exact ⟨rfl,rfl⟩

theorem insR95:InsRoads Try.prog 95 44 3 5:=⟨insA95,fun w g n c i gu m cu W C h1 h2 h3 h4 h5 h6 w1 w2 w3 x1 x2 a b d=>insB95 w g n c i gu m cu W C h1 h2 h3 h4 h5 h6 w1 w2 w3 x1 x2 a b d,fun w g n c i gu m cu h1 h2 h3 h4 h5 tA tB kA kB a1 a2 a3 a4 a5 w1 w2 x1 x2 b d=>insC95 w g n c i gu m cu h1 h2 h3 h4 h5 tA tB kA kB a1 a2 a3 a4 a5 w1 w2 x1 x2 b d⟩
def D_slices_Insert_S_impl_Recoder_impl_Recoder_ (x0:List T79) (x1:Int) (x2:List T79):List T79:=insAt x0 x1.toNat x2
def S_slices_Insert_S_impl_Recoder_impl_Recoder_:Sum:=insSum 95 44 3 s79 56
theorem S_slices_Insert_S_impl_Recoder_impl_Recoder__ok:FnOK Try.prog 95 S_slices_Insert_S_impl_Recoder_impl_Recoder_:=insert_ok (bytes:=56) s79 insR95 (Elem.of (.agg #[(.int .i64 0),(.int .i64 0),(.int .i64 0),(.slice none 0 0),(.int .i64 0)]) Try.underlying44 (by kernel_rfl) rfl (by decide) (by decide)) Try.underlying3
end

section
open Go.Shelf Go.Lib
set_option maxRecDepth 100000 in
theorem delA96 (w:World) (A:Option Addr) (n c i:Nat) (hi:i≤n) (hnc:n≤c) (hc:c≤9223372036854775807) :
    Calls Try.prog 96 #[.slice A n c,.int .i64 i,.int .i64 i] w fun e w''=>e=.returned (.slice A n c)∧w''=w:=by
  have u34:=run_underlying Try.underlying44
  have h1:(i:Int)≤(n:Int):=by omega
  have h2:(n:Int)≤(c:Int):=by omega
  go_enter Try.func96,Try.ntmps96
  go_wp2_with (fail)
  all_goals (go_ret;exact ⟨rfl,rfl⟩)
set_option maxRecDepth 100000 in
theorem delB96 (w:World) (g n c i j:Nat) (hij:i < j) (hj:j≤n) (hnc:n≤c) (hc:c≤9223372036854775807) (w1 w2:World) (x2:Value)
    (hrun1:∀ ty,(Builtin.append_ #[44,44] ty #[.slice (some ⟨g,0,none⟩) i c,.slice (if c=j then some ⟨g,0,none⟩ else some ⟨g,j*5,none⟩) (n - j) (c - j)]).run Try.prog w.drew=.ok (.slice (some ⟨g,0,none⟩) (i+(n - j)) c) w1)
    (hrun2:∀ ty,(Builtin.clear_ #[44] ty #[.slice (some ⟨g,(i+(n - j))*5,none⟩) (n - (i+(n - j))) (c - (i+(n - j)))]).run Try.prog w1=.ok x2 w2) :
    Calls Try.prog 96 #[.slice (some ⟨g,0,none⟩) n c,.int .i64 i,.int .i64 j] w fun e w''=>e=.returned (.slice (some ⟨g,0,none⟩) (i+(n - j)) c)∧w''=w2:=by
  have u34:=run_underlying Try.underlying44
  have h1:(j:Int)≤(n:Int):=by omega
  have h2:(n:Int)≤(c:Int):=by omega
  have h3:(i:Int)≤(j:Int):=by omega
  have h4:¬ ((i:Int)=(j:Int)):=by omega
  have h5:i≤c:=by omega
  have h6:j≤n:=hj
  have h7:¬ (c=i+(n - j)):=by omega
  have h8:i+(n - j)≤n:=by omega
  have h9:n≤c:=hnc
  have mixed:Try.prog.follows .mixedOrders=true:=by kernel_rfl
  go_enter Try.func96,Try.ntmps96
  go_wp2_with (fail)
  all_goals go_region_law_o (refine step_append_runI rfl _ _ 44 44 rfl _ _ (by simp [Act.eval,Act.put]) (by simp [Act.eval,Act.put]) (hrun1 _) ?_)
  all_goals go_wp2_with (at_builtin;refine wpList_clear_runI _ rfl _ _ rfl _ rfl (hrun2 _) ?_)
  all_goals (go_ret;exact ⟨rfl,rfl⟩)

theorem delR96:DelRoads Try.prog 96 44 5:=⟨delA96,fun w g n c i j h1 h2 h3 h4 w1 w2 x2 b d=>delB96 w g n c i j h1 h2 h3 h4 w1 w2 x2 b d⟩
def D_slices_Delete_S_impl_Recoder_impl_Recoder_ (x0:List T79) (x1 x2:Int):List T79:=delAt x0 x1.toNat x2.toNat
def S_slices_Delete_S_impl_Recoder_impl_Recoder_:Sum:=delSum 96 44 3 3 s79
theorem S_slices_Delete_S_impl_Recoder_impl_Recoder__ok:FnOK Try.prog 96 S_slices_Delete_S_impl_Recoder_impl_Recoder_:=delete_ok (bytes:=56) s79 delR96 (Elem.of (.agg #[(.int .i64 0),(.int .i64 0),(.int .i64 0),(.slice none 0 0),(.int .i64 0)]) Try.underlying44 (by kernel_rfl) rfl (by decide) (by decide)) (by kernel_rfl)
end

abbrev Q__P_impl_Relay_receive:=(fun (x0:T46) (x1:T50)=>Sh.fit s46 x0∧Sh.fit s50 x1∧rcvP x0)
def S__P_impl_Relay_receive:Sum:={ fid:=51,dom:=[s46,s50],cod:=[(.bool 4)],dp:=true,fz:=false,pre:=fun x=>Q__P_impl_Relay_receive x.1 x.2.1,g:=fun x=>((rcvD x.1 x.2.1),()),kinds:=[(.bx 46 0),.rd],upd:=fun x=>(rcvU x.1 x.2.1,(x.2.1,())) }
def S__P_impl_Relay_receive_tab:List (Nat×Sum):=[(92,S__impl_Relay_recoderAt),(100007,S__P_impl_Recoder_accept_el),(94,S_impl_NewRecoder),(93,S__P_impl_Recoder_accept),(95,S_slices_Insert_S_impl_Recoder_impl_Recoder_),(96,S_slices_Delete_S_impl_Recoder_impl_Recoder_)]
theorem S__P_impl_Relay_receive_ok:FnOK Try.prog 51 S__P_impl_Relay_receive:=by
 refine at_enterI 72 [1,2] [3] (fun us x=>⟨[(0,aP 1 0),(1,aG [cI x.2.1.1,.ro (.int 3) x.2.1.2.1,.ro (.int 3) x.2.1.2.2])],[(1,oX 46 [cI x.1.1,.sl 2]),(2,oR s79 x.1.2),(3,oP 1 (S__P_impl_Relay_receive.hd us 0))]⟩) Try.func51 rfl (by kernel_rfl) (fun us x=>rfl) ?_
 rintro w0 Z0 us ⟨x0,x1,u⟩ L a w
 revert x0 x1
 intro (x0:T46) (x1:T50) hio hpre hlens h
 replace h:At w0 Z0 L 72 ⟨[(0,aP 1 0),(1,aG [cI x1.1,.ro (.int 3) x1.2.1,.ro (.int 3) x1.2.2])],[(1,oX 46 [cI x0.1,.sl 2]),(2,oR s79 x0.2),(3,oP 1 (S__P_impl_Relay_receive.hd us 0))]⟩ a w:=h
 replace hpre:Q__P_impl_Relay_receive x0 x1:=hpre
 have hT:TabOK Try.prog S__P_impl_Relay_receive_tab:=(.cons S__impl_Relay_recoderAt_ok (.cons S__P_impl_Recoder_accept_el_ok (.cons S_impl_NewRecoder_ok (.cons S__P_impl_Recoder_accept_ok (.cons S_slices_Insert_S_impl_Recoder_impl_Recoder__ok (.cons S_slices_Delete_S_impl_Recoder_impl_Recoder__ok .nil))))))
 obtain ⟨hf0,hf1,hpx⟩:=hpre
 have hn0_1:List.length x0.2≤1073741824:=hf0.2.1
 have hn1_2:List.length x1.2.1≤1073741824:=hf1.2.1.1
 have hn1_3:List.length x1.2.2≤1073741824:=hf1.2.2.1
 have hpl:=hpx.1
 have hb1:(D__impl_Relay_recoderAt x0 x1.1).1=((bsK (fun x=>x.1) (0,(0,(0,([],0)))) x0.2 x1.1:Nat):Int):=rfl
 have hbl:=bsK_le (fun x=>x.1) (0,(0,(0,([],0)))) x0.2 x1.1
 have hba:rcA x0 x1=bsK (fun x=>x.1) (0,(0,(0,([],0)))) x0.2 x1.1:=rfl
 have hil:List.length (rcI x0 x1)=List.length x0.2+1:=ins_len1 x0.2 (rcA x0 x1) (accU (rcN x1) x1)
 refine wp_seq ?_
 refine at_regq [{ ids:=[4] }] { ts:=[0,3,4],os:=[1,2,3,4] } [] gamOK hT h (by kernel_rfl) trivial fun a w h=>then_normal (wp_seq ?_)
 refine at_anyq [{},{},{},{},{},{},{},{},{},{},{}] { ts:=[0,3,4,5,6],os:=[1,2,3,4] } [Q__impl_Relay_recoderAt x0 x1.1] gamOK hT mixed h (by kernel_rfl) ⟨(by exact hf0),trivial⟩ fun a w h=>then_normal (wp_seq (wp_seq ?_))
 refine at_regq [] { ts:=[0,3,4,5,18],os:=[1,2,3,4] } [] gamOK hT h (by kernel_rfl) trivial fun a w h=>then_normal ?_
 refine at_test ((D__impl_Relay_recoderAt x0 x1.1).2) h (by kernel_rfl) (fun h1=>?_) (fun h1=>?_)
 ·have hb2 := fndK_t (f := fun x => x.1) (z := (0, (0, (0, ([], 0))))) (xs := x0.2) (v := x1.1) (by first | exact h1 | exact notF h1)
  refine wp_seq ?_
  refine at_anyq [{},{},{},{},{},{},{},{ key:=some 100007 },{}] { ts:=[0,3,4,5],os:=[1,2,3,4] } [(0:Int)≤(D__impl_Relay_recoderAt x0 x1.1).1∧(D__impl_Relay_recoderAt x0 x1.1).1 < ((List.length x0.2:Nat):Int),S__P_impl_Recoder_accept_el_b.pre ((x0.2,((((D__impl_Relay_recoderAt x0 x1.1).1).toNat:Nat):Int)),x1,())] gamOK hT mixed h (by kernel_rfl) ⟨(by refine ⟨?_,?_⟩<;>(first | omega | (simp only [lsA];omega) | (simp<;>omega))),(by first | exact ⟨⟨hf0.2,trivial⟩,hf1,Int.natCast_nonneg _,Int.ofNat_lt.2 hb2.1,hpx.2 _ hb2.1⟩ | exact ⟨newRec_fit _ _ _,hf1,recP_new _ _ _⟩),trivial⟩ fun a w h=>then_normal (wp_ret (then_ret ?_))
  exact at_returnI (S:=S__P_impl_Relay_receive) (x:=(x0,x1,())) [1,2] [3] ((x0.1,(elU (x0.2,((((D__impl_Relay_recoderAt x0 x1.1).1).toNat:Nat):Int)) x1).1),(x1,())) (some ((elOK (x0.2,((((D__impl_Relay_recoderAt x0 x1.1).1).toNat:Nat):Int)) x1),())) [S__P_impl_Relay_receive.hd us 0=S__P_impl_Relay_receive.hd us 0] hio h (by kernel_rfl) ⟨rfl,trivial⟩ (by first | rfl | exact congrArg (fun (z:T46)=>(z,(x1,()))) (show ((x0.1,(elU (x0.2,((((D__impl_Relay_recoderAt x0 x1.1).1).toNat:Nat):Int)) x1).1):T46)=rcvU x0 x1 from by (first | exact (rcvU_f (r:=x0) (p:=x1) (by assumption)).symm | exact (rcvU_n (r:=x0) (p:=x1) (by assumption) (rcB_n (.inl (by assumption)))).symm | exact (rcvU_n (r:=x0) (p:=x1) (by assumption) (rcB_n (.inr ⟨by omega,by omega⟩))).symm | exact (rcvU_d (r:=x0) (p:=x1) (by assumption) (rcB_y (by assumption) (.inr (by omega))) (by omega)).symm | exact (rcvU_i (r:=x0) (p:=x1) (by assumption) (rcB_y (by assumption) (.inl (by omega))) (by omega)).symm))) (fun z e=>(Option.some.inj e) ▸ (congrArg (fun z=>(z,())) (show ((elOK (x0.2,((((D__impl_Relay_recoderAt x0 x1.1).1).toNat:Nat):Int)) x1))=rcvD x0 x1 from by (first | exact (rcvD_f (r:=x0) (p:=x1) (by assumption)).symm | exact (rcvD_n (r:=x0) (p:=x1) (by assumption) (rcB_n (.inl (by assumption)))).symm | exact (rcvD_n (r:=x0) (p:=x1) (by assumption) (rcB_n (.inr ⟨by omega,by omega⟩))).symm | exact (rcvD_n (r:=x0) (p:=x1) (by assumption) (rcB_y (by assumption) (by first | (left;omega) | (right;omega)))).symm))))
 ·refine wp_skip (then_normal (wp_seq ?_))
  refine at_regq [{},{},{},{},{},{},{},{},{ ids:=[5] },{ ids:=[6] }] { ts:=[0,3,4,5,7],os:=[1,2,3,4,5,6] } [True] gamOK hT h (by kernel_rfl) ⟨trivial,trivial⟩ fun a w h=>then_normal (wp_seq ?_)
  refine at_regq [] { ts:=[0,3,4,5,7,8],os:=[1,2,3,4,5,6] } [] gamOK hT h (by kernel_rfl) trivial fun a w h=>then_normal (wp_seq (wp_seq ?_))
  rcases Bool.eq_false_or_eq_true (!(accOK (newRec x1.1 ((List.length x1.2.1:Nat):Int) ((List.length x1.2.2:Nat):Int)) x1)) with h2 | h2
  ·have hzh2 : (accOK (newRec x1.1 ((List.length x1.2.1 : Nat) : Int) ((List.length x1.2.2 : Nat) : Int)) x1) = false := notT h2
   refine at_regq [{},{ ids:=[7] },{ hint:=some (aB true) }] { ts:=[0,4,5,7,8,51],os:=[1,2,3,6,7] } [Q__P_impl_Recoder_accept (newRec x1.1 ((List.length x1.2.1:Nat):Int) ((List.length x1.2.2:Nat):Int)) x1,(AV.p (.c (.v (.bool (!(accOK (newRec x1.1 ((List.length x1.2.1:Nat):Int) ((List.length x1.2.2:Nat):Int)) x1)))))=AV.p (.c (.v (.bool true))))] gamOK hT h (by kernel_rfl) ⟨(by first | exact ⟨⟨hf0.2,trivial⟩,hf1,Int.natCast_nonneg _,Int.ofNat_lt.2 hb2.1,hpx.2 _ hb2.1⟩ | exact ⟨newRec_fit _ _ _,hf1,recP_new _ _ _⟩),hint_bool (h2),trivial⟩ fun a w h=>then_normal ?_
   refine at_test true h (by kernel_rfl) (fun hh=>?_) (fun hh=>nomatch hh)
   refine wp_seq ?_
   refine at_regq [] { ts:=[0,4,5,7,8],os:=[1,2,3,6,7] } [] gamOK hT h (by kernel_rfl) trivial fun a w h=>then_normal (wp_ret (then_ret ?_))
   exact at_returnI (S:=S__P_impl_Relay_receive) (x:=(x0,x1,())) [1,2] [3] (x0,(x1,())) (some (false,())) [S__P_impl_Relay_receive.hd us 0=S__P_impl_Relay_receive.hd us 0] hio h (by kernel_rfl) ⟨rfl,trivial⟩ (by first | rfl | exact congrArg (fun (z:T46)=>(z,(x1,()))) (show (x0:T46)=rcvU x0 x1 from by (first | exact (rcvU_f (r:=x0) (p:=x1) (by assumption)).symm | exact (rcvU_n (r:=x0) (p:=x1) (by assumption) (rcB_n (.inl (by assumption)))).symm | exact (rcvU_n (r:=x0) (p:=x1) (by assumption) (rcB_n (.inr ⟨by omega,by omega⟩))).symm | exact (rcvU_d (r:=x0) (p:=x1) (by assumption) (rcB_y (by assumption) (.inr (by omega))) (by omega)).symm | exact (rcvU_i (r:=x0) (p:=x1) (by assumption) (rcB_y (by assumption) (.inl (by omega))) (by omega)).symm))) (fun z e=>(Option.some.inj e) ▸ (congrArg (fun z=>(z,())) (show (false)=rcvD x0 x1 from by (first | exact (rcvD_f (r:=x0) (p:=x1) (by assumption)).symm | exact (rcvD_n (r:=x0) (p:=x1) (by assumption) (rcB_n (.inl (by assumption)))).symm | exact (rcvD_n (r:=x0) (p:=x1) (by assumption) (rcB_n (.inr ⟨by omega,by omega⟩))).symm | exact (rcvD_n (r:=x0) (p:=x1) (by assumption) (rcB_y (by assumption) (by first | (left;omega) | (right;omega)))).symm))))
  ·have hzh2 : (accOK (newRec x1.1 ((List.length x1.2.1 : Nat) : Int) ((List.length x1.2.2 : Nat) : Int)) x1) = true := notF h2
   by_cases h3:((List.length x0.2:Nat):Int)=4
   ·refine at_regq [{}, { ids := [7] }, { hint := some (aB false) }, {}, { hint := some (aB true) }] { ts := [0, 4, 5, 7, 8, 51], os := [1, 2, 3, 6, 7] } [Q__P_impl_Recoder_accept (newRec x1.1 ((List.length x1.2.1 : Nat) : Int) ((List.length x1.2.2 : Nat) : Int)) x1, (AV.p (.c (.v (.bool (!(accOK (newRec x1.1 ((List.length x1.2.1 : Nat) : Int) ((List.length x1.2.2 : Nat) : Int)) x1))))) = AV.p (.c (.v (.bool false)))), (AV.p (.c (.v (.bool (decide (((List.length x0.2 : Nat) : Int) = 4))))) = AV.p (.c (.v (.bool true))))] gamOK hT h (by kernel_rfl) ⟨(by first | exact ⟨⟨hf0.2, trivial⟩, hf1, Int.natCast_nonneg _, Int.ofNat_lt.2 hb2.1, hpx.2 _ hb2.1⟩ | exact ⟨newRec_fit _ _ _, hf1, recP_new _ _ _⟩), hint_bool (h2), hint_bool (decide_eq_true h3), trivial⟩ fun a w h => then_normal ?_
    refine at_test (decide ((D__impl_Relay_recoderAt x0 x1.1).1=0)) h (by kernel_rfl) (fun h4=>?_) (fun h4=>?_)
    ·replace h4 : (D__impl_Relay_recoderAt x0 x1.1).1 = 0 := of_decide_eq_true h4
     refine wp_seq ?_
     refine at_regq [] { ts:=[0,4,5,7,8],os:=[1,2,3,6,7] } [] gamOK hT h (by kernel_rfl) trivial fun a w h=>then_normal (wp_ret (then_ret ?_))
     exact at_returnI (S:=S__P_impl_Relay_receive) (x:=(x0,x1,())) [1,2] [3] (x0,(x1,())) (some (false,())) [S__P_impl_Relay_receive.hd us 0=S__P_impl_Relay_receive.hd us 0] hio h (by kernel_rfl) ⟨rfl,trivial⟩ (by first | rfl | exact congrArg (fun (z:T46)=>(z,(x1,()))) (show (x0:T46)=rcvU x0 x1 from by (first | exact (rcvU_f (r:=x0) (p:=x1) (by assumption)).symm | exact (rcvU_n (r:=x0) (p:=x1) (by assumption) (rcB_n (.inl (by assumption)))).symm | exact (rcvU_n (r:=x0) (p:=x1) (by assumption) (rcB_n (.inr ⟨by omega,by omega⟩))).symm | exact (rcvU_d (r:=x0) (p:=x1) (by assumption) (rcB_y (by assumption) (.inr (by omega))) (by omega)).symm | exact (rcvU_i (r:=x0) (p:=x1) (by assumption) (rcB_y (by assumption) (.inl (by omega))) (by omega)).symm))) (fun z e=>(Option.some.inj e) ▸ (congrArg (fun z=>(z,())) (show (false)=rcvD x0 x1 from by (first | exact (rcvD_f (r:=x0) (p:=x1) (by assumption)).symm | exact (rcvD_n (r:=x0) (p:=x1) (by assumption) (rcB_n (.inl (by assumption)))).symm | exact (rcvD_n (r:=x0) (p:=x1) (by assumption) (rcB_n (.inr ⟨by omega,by omega⟩))).symm | exact (rcvD_n (r:=x0) (p:=x1) (by assumption) (rcB_y (by assumption) (by first | (left;omega) | (right;omega)))).symm))))
    ·replace h4 : ¬ ((D__impl_Relay_recoderAt x0 x1.1).1 = 0) := of_decide_eq_false h4
     refine wp_skip (then_normal (wp_seq ?_))
     refine at_anyq [{},{},{},{},{},{},{},{ ids:=[8] },{ ids:=[9] },{},{},{}] { ts:=[0,4,8],os:=[1,3,9] } [(fun (x0:List T79) (x1:Int) (x2:List T79)=>(0≤x1∧x1≤((List.length x0:Nat):Int))∧0 < List.length x2∧(List.length x0+List.length x2)*56≤140737488355328) x0.2 (D__impl_Relay_recoderAt x0 x1.1).1 ([(accU (newRec x1.1 ((List.length x1.2.1:Nat):Int) ((List.length x1.2.2:Nat):Int)) x1)])] gamOK hT mixed h (by kernel_rfl) ⟨(by exact ⟨⟨by omega,by omega⟩,by simp,by simp;omega⟩),trivial⟩ fun a w h=>then_normal (wp_seq (wp_seq ?_))
     refine at_regq [{ hint:=some (aB true) }] { ts:=[0,4,63],os:=[1,3,9] } [(AV.p (.c (.v (.bool (decide (((List.length x0.2:Nat):Int)=4)))))=AV.p (.c (.v (.bool true))))] gamOK hT h (by kernel_rfl) ⟨hint_bool (decide_eq_true h3),trivial⟩ fun a w h=>then_normal ?_
     refine at_test true h (by kernel_rfl) (fun hh=>?_) (fun hh=>nomatch hh)
     refine at_regq [{},{},{},{},{},{ ids:=[10] }] { ts:=[4],os:=[1,3,10] } [(fun (x0:List T79) (x1 x2:Int)=>0≤x1∧x1≤x2∧x2≤((List.length x0:Nat):Int)) (D_slices_Insert_S_impl_Recoder_impl_Recoder_ x0.2 (D__impl_Relay_recoderAt x0 x1.1).1 ([(accU (newRec x1.1 ((List.length x1.2.1:Nat):Int) ((List.length x1.2.2:Nat):Int)) x1)])) 0 1] gamOK hT h (by kernel_rfl) ⟨(by exact ⟨by omega,by omega,by first | omega | (show (1:Int)≤((List.length (rcI x0 x1):Nat):Int);omega)⟩),trivial⟩ fun a w h=>then_normal (wp_seq ?_)
     refine at_regq [] { ts:=[4],os:=[1,3,10] } [] gamOK hT h (by kernel_rfl) trivial fun a w h=>then_normal (wp_ret ?_)
     exact at_returnI (S:=S__P_impl_Relay_receive) (x:=(x0,x1,())) [1,2] [3] ((x0.1,(D_slices_Delete_S_impl_Recoder_impl_Recoder_ (D_slices_Insert_S_impl_Recoder_impl_Recoder_ x0.2 (D__impl_Relay_recoderAt x0 x1.1).1 ([(accU (newRec x1.1 ((List.length x1.2.1:Nat):Int) ((List.length x1.2.2:Nat):Int)) x1)])) 0 1)),(x1,())) (some (true,())) [S__P_impl_Relay_receive.hd us 0=S__P_impl_Relay_receive.hd us 0] hio h (by kernel_rfl) ⟨rfl,trivial⟩ (by first | rfl | exact congrArg (fun (z:T46)=>(z,(x1,()))) (show ((x0.1,(D_slices_Delete_S_impl_Recoder_impl_Recoder_ (D_slices_Insert_S_impl_Recoder_impl_Recoder_ x0.2 (D__impl_Relay_recoderAt x0 x1.1).1 ([(accU (newRec x1.1 ((List.length x1.2.1:Nat):Int) ((List.length x1.2.2:Nat):Int)) x1)])) 0 1)):T46)=rcvU x0 x1 from by (first | exact (rcvU_f (r:=x0) (p:=x1) (by assumption)).symm | exact (rcvU_n (r:=x0) (p:=x1) (by assumption) (rcB_n (.inl (by assumption)))).symm | exact (rcvU_n (r:=x0) (p:=x1) (by assumption) (rcB_n (.inr ⟨by omega,by omega⟩))).symm | exact (rcvU_d (r:=x0) (p:=x1) (by assumption) (rcB_y (by assumption) (.inr (by omega))) (by omega)).symm | exact (rcvU_i (r:=x0) (p:=x1) (by assumption) (rcB_y (by assumption) (.inl (by omega))) (by omega)).symm))) (fun z e=>(Option.some.inj e) ▸ (congrArg (fun z=>(z,())) (show (true)=rcvD x0 x1 from by (first | exact (rcvD_f (r:=x0) (p:=x1) (by assumption)).symm | exact (rcvD_n (r:=x0) (p:=x1) (by assumption) (rcB_n (.inl (by assumption)))).symm | exact (rcvD_n (r:=x0) (p:=x1) (by assumption) (rcB_n (.inr ⟨by omega,by omega⟩))).symm | exact (rcvD_n (r:=x0) (p:=x1) (by assumption) (rcB_y (by assumption) (by first | (left;omega) | (right;omega)))).symm))))
   ·refine at_regq [{}, { ids := [7] }, { hint := some (aB false) }, {}, { hint := some (aB false) }] { ts := [0, 4, 5, 7, 8, 51], os := [1, 2, 3, 6, 7] } [Q__P_impl_Recoder_accept (newRec x1.1 ((List.length x1.2.1 : Nat) : Int) ((List.length x1.2.2 : Nat) : Int)) x1, (AV.p (.c (.v (.bool (!(accOK (newRec x1.1 ((List.length x1.2.1 : Nat) : Int) ((List.length x1.2.2 : Nat) : Int)) x1))))) = AV.p (.c (.v (.bool false)))), (AV.p (.c (.v (.bool (decide (((List.length x0.2 : Nat) : Int) = 4))))) = AV.p (.c (.v (.bool false))))] gamOK hT h (by kernel_rfl) ⟨(by first | exact ⟨⟨hf0.2, trivial⟩, hf1, Int.natCast_nonneg _, Int.ofNat_lt.2 hb2.1, hpx.2 _ hb2.1⟩ | exact ⟨newRec_fit _ _ _, hf1, recP_new _ _ _⟩), hint_bool (h2), hint_bool (decide_eq_false h3), trivial⟩ fun a w h => then_normal ?_
    refine at_test false h (by kernel_rfl) (fun hh=>nomatch hh) (fun hh=>?_)
    refine wp_skip (then_normal (wp_seq ?_))
    refine at_anyq [{},{},{},{},{},{},{},{ ids:=[8] },{ ids:=[9] },{},{},{}] { ts:=[0,4,8],os:=[1,3,9] } [(fun (x0:List T79) (x1:Int) (x2:List T79)=>(0≤x1∧x1≤((List.length x0:Nat):Int))∧0 < List.length x2∧(List.length x0+List.length x2)*56≤140737488355328) x0.2 (D__impl_Relay_recoderAt x0 x1.1).1 ([(accU (newRec x1.1 ((List.length x1.2.1:Nat):Int) ((List.length x1.2.2:Nat):Int)) x1)])] gamOK hT mixed h (by kernel_rfl) ⟨(by exact ⟨⟨by omega,by omega⟩,by simp,by simp;omega⟩),trivial⟩ fun a w h=>then_normal (wp_seq (wp_seq ?_))
    refine at_regq [{ hint:=some (aB false) }] { ts:=[0,4,63],os:=[1,3,9] } [(AV.p (.c (.v (.bool (decide (((List.length x0.2:Nat):Int)=4)))))=AV.p (.c (.v (.bool false))))] gamOK hT h (by kernel_rfl) ⟨hint_bool (decide_eq_false h3),trivial⟩ fun a w h=>then_normal ?_
    refine at_test false h (by kernel_rfl) (fun hh=>nomatch hh) (fun hh=>?_)
    refine wp_skip (then_normal (wp_seq ?_))
    refine at_regq [] { ts:=[4],os:=[1,3,9] } [] gamOK hT h (by kernel_rfl) trivial fun a w h=>then_normal (wp_ret ?_)
    exact at_returnI (S:=S__P_impl_Relay_receive) (x:=(x0,x1,())) [1,2] [3] ((x0.1,(D_slices_Insert_S_impl_Recoder_impl_Recoder_ x0.2 (D__impl_Relay_recoderAt x0 x1.1).1 ([(accU (newRec x1.1 ((List.length x1.2.1:Nat):Int) ((List.length x1.2.2:Nat):Int)) x1)]))),(x1,())) (some (true,())) [S__P_impl_Relay_receive.hd us 0=S__P_impl_Relay_receive.hd us 0] hio h (by kernel_rfl) ⟨rfl,trivial⟩ (by first | rfl | exact congrArg (fun (z:T46)=>(z,(x1,()))) (show ((x0.1,(D_slices_Insert_S_impl_Recoder_impl_Recoder_ x0.2 (D__impl_Relay_recoderAt x0 x1.1).1 ([(accU (newRec x1.1 ((List.length x1.2.1:Nat):Int) ((List.length x1.2.2:Nat):Int)) x1)]))):T46)=rcvU x0 x1 from by (first | exact (rcvU_f (r:=x0) (p:=x1) (by assumption)).symm | exact (rcvU_n (r:=x0) (p:=x1) (by assumption) (rcB_n (.inl (by assumption)))).symm | exact (rcvU_n (r:=x0) (p:=x1) (by assumption) (rcB_n (.inr ⟨by omega,by omega⟩))).symm | exact (rcvU_d (r:=x0) (p:=x1) (by assumption) (rcB_y (by assumption) (.inr (by omega))) (by omega)).symm | exact (rcvU_i (r:=x0) (p:=x1) (by assumption) (rcB_y (by assumption) (.inl (by omega))) (by omega)).symm))) (fun z e=>(Option.some.inj e) ▸ (congrArg (fun z=>(z,())) (show (true)=rcvD x0 x1 from by (first | exact (rcvD_f (r:=x0) (p:=x1) (by assumption)).symm | exact (rcvD_n (r:=x0) (p:=x1) (by assumption) (rcB_n (.inl (by assumption)))).symm | exact (rcvD_n (r:=x0) (p:=x1) (by assumption) (rcB_n (.inr ⟨by omega,by omega⟩))).symm | exact (rcvD_n (r:=x0) (p:=x1) (by assumption) (rcB_y (by assumption) (by first | (left;omega) | (right;omega)))).symm))))

abbrev Q_impl_RelayReceive:=(fun (x0:T46) (x1:T50)=>Sh.fit s46 x0∧Sh.fit s50 x1)
def S_impl_RelayReceive:Sum:={ fid:=17,dom:=[s46,s50],cod:=[s46,(.bool 4)],dp:=true,fz:=false,pre:=fun x=>Q_impl_RelayReceive x.1 x.2.1,g:=fun x=>((rcvL x.1 x.2.1).1,((rcvL x.1 x.2.1).2,())) }
def S_impl_RelayReceive_tab:List (Nat×Sum):=[(49,S__impl_Relay_clone),(50,S_impl_IsValidRelay),(51,S__P_impl_Relay_receive)]
theorem S_impl_RelayReceive_ok:FnOK Try.prog 17 S_impl_RelayReceive:=by
 refine at_enter 18 (fun x=>⟨[(0,aG [cI x.1.1,.ro s79 x.1.2]),(1,aG [cI x.2.1.1,.ro (.int 3) x.2.1.2.1,.ro (.int 3) x.2.1.2.2])],[]⟩) Try.func17 rfl (by kernel_rfl) (fun x=>rfl) ?_
 rintro w0 Z0 ⟨x0,x1,u⟩ a w
 revert x0 x1
 intro (x0:T46) (x1:T50) hpre hlens h
 replace hpre:Q_impl_RelayReceive x0 x1:=hpre
 have hT:TabOK Try.prog S_impl_RelayReceive_tab:=(.cons S__impl_Relay_clone_ok (.cons S_impl_IsValidRelay_ok (.cons S__P_impl_Relay_receive_ok .nil)))
 obtain ⟨hf0,hf1⟩:=hpre
 have hn0_1:List.length x0.2≤1073741824:=hf0.2.1
 have hn1_2:List.length x1.2.1≤1073741824:=hf1.2.1.1
 have hn1_3:List.length x1.2.2≤1073741824:=hf1.2.2.1
 refine wp_seq ?_
 refine at_regq [{ ids:=[1] },{ ids:=[2] },{ ids:=[3] }] { ts:=[2,3,4,5],os:=[1,2,3] } [] gamOK hT h (by kernel_rfl) trivial fun a w h=>then_normal (wp_seq ?_)
 refine at_regq [{},{ ids:=[4] },{ ids:=[5] }] { ts:=[2,3,4,5,6],os:=[1,2,3,4,5] } [Q__impl_Relay_clone x0] gamOK hT h (by kernel_rfl) ⟨(by exact hf0),trivial⟩ fun a w h=>then_normal (wp_seq ?_)
 rcases Bool.eq_false_or_eq_true ((validL x0)) with h1 | h1
 ·refine at_regq [{}, { hint := some (aB true) }, {}, {}, { ids := [6] }] { ts := [4, 5, 6, 7], os := [3, 5, 6] } [Q_impl_IsValidRelay x0, (AV.p (.c (.v (.bool ((validL x0))))) = AV.p (.c (.v (.bool true)))), Q__P_impl_Relay_receive x0 x1] gamOK hT h (by kernel_rfl) ⟨(by exact hf0), hint_bool (h1), (by exact ⟨hf0, hf1, rcvP_of (by assumption)⟩), trivial⟩ fun a w h => then_normal (wp_seq ?_)
  refine at_regq [] { ts:=[4,5],os:=[3,6] } [] gamOK hT h (by kernel_rfl) trivial fun a w h=>then_normal (wp_ret ?_)
  exact at_return ((rcvU x0 x1),((rcvD x0 x1),())) [] h (by kernel_rfl) trivial (congrArg (fun z=>(z.1,z.2,())) (show (((rcvU x0 x1),(rcvD x0 x1)))=rcvL x0 x1 from by (first | exact rcvL_n (by assumption) | exact rcvL_y (by assumption) | (refine Eq.trans (Prod.ext rfl (Eq.symm (by assumption))) (rcvL_y (by assumption))))))
 ·refine at_regq [{}, { hint := some (aB false) }] { ts := [4, 5, 6, 7], os := [3, 4, 5] } [Q_impl_IsValidRelay x0, (AV.p (.c (.v (.bool ((validL x0))))) = AV.p (.c (.v (.bool false))))] gamOK hT h (by kernel_rfl) ⟨(by exact hf0), hint_bool (h1), trivial⟩ fun a w h => then_normal (wp_seq ?_)
  refine at_regq [] { ts:=[4,5],os:=[3,4] } [] gamOK hT h (by kernel_rfl) trivial fun a w h=>then_normal (wp_ret ?_)
  exact at_return (x0,(false,())) [] h (by kernel_rfl) trivial (congrArg (fun z=>(z.1,z.2,())) (show ((x0,false))=rcvL x0 x1 from by (first | exact rcvL_n (by assumption) | exact rcvL_y (by assumption) | (refine Eq.trans (Prod.ext rfl (Eq.symm (by assumption))) (rcvL_y (by assumption))))))

end Go.Proofs.Ytamibfjeldfphaa
