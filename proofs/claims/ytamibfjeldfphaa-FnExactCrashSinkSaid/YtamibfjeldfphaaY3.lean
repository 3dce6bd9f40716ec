/- The law FnExactCrashSink returns true for every input and leaves its arguments as they were. No condition. -/
import Derived.Test.YtamibfjeldfphaaY2
import Derived.Test.YtamibfjeldfphaaLA
import Derived.Test.YtamibfjeldfphaaProg
import Derived.Test.YtamibfjeldfphaaRows
import Derived.Test.YtamibfjeldfphaaFX
namespace Go.Proofs.Ytamibfjeldfphaa
open Go.RowKit
set_option linter.unusedVariables false
set_option linter.unusedSimpArgs false
def S_spec_l14Range:Sum:={ fid:=88,dom:=[(.int 3),(.int 3),(.int 3)],cod:=[(.bool 4)],dp:=true,fz:=false,pre:=fun x=>True,g:=fun x=>((isFmt x.1 x.2.1 x.2.2.1),()) }
def S_spec_l14Range_tab:List (Nat×Sum):=[(59,S_spec_l1In)]
theorem S_spec_l14Range_ok:FnOK Try.prog 88 S_spec_l14Range:=by
 refine at_enter 17 (fun x=>⟨[(0,aI x.1),(1,aI x.2.1),(2,aI x.2.2.1)],[]⟩) Try.func88 rfl (by kernel_rfl) (fun x=>rfl) ?_
 rintro w0 Z0 ⟨x0,x1,x2,u⟩ a w
 revert x0 x1 x2
 intro (x0:Int) (x1:Int) (x2:Int) hpre hlens h
 have hT:TabOK Try.prog S_spec_l14Range_tab:=(.cons S_spec_l1In_ok .nil)
 refine wp_seq ?_
 refine at_regq [] { ts:=[0,1,2,6],os:=[] } [] gamOK hT h (by kernel_rfl) trivial fun a w h=>then_normal (wp_seq ?_)
 rcases Bool.eq_false_or_eq_true ((inR x0 0 1000000000000)) with h1 | h1
 ·have hvh1 := inR_t h1
  rcases Bool.eq_false_or_eq_true ((inR x1 1 8)) with h2 | h2
  ·have hvh2 := inR_t h2
   refine at_regq [{},{ hint:=some (aB true) },{},{},{ hint:=some (aB true) }] { ts:=[6],os:=[] } [True,(AV.p (.c (.v (.bool ((inR x0 0 1000000000000)))))=AV.p (.c (.v (.bool true)))),True,(AV.p (.c (.v (.bool ((inR x1 1 8)))))=AV.p (.c (.v (.bool true)))),True] gamOK hT h (by kernel_rfl) ⟨trivial,hint_bool (h1),trivial,hint_bool (h2),trivial,trivial⟩ fun a w h=>then_normal (wp_ret ?_)
   exact at_return ((inR x2 1 16),()) [] h (by kernel_rfl) trivial (congrArg (fun z=>(z,())) (show ((inR x2 1 16))=isFmt x0 x1 x2 from by first | rfl | (unfold isFmt;rw [if_pos h1,if_pos h2];done) | (unfold isFmt;simp_all)))
  ·have hvh2 := inR_f h2
   refine at_regq [{},{ hint:=some (aB true) },{},{},{ hint:=some (aB false) }] { ts:=[6],os:=[] } [True,(AV.p (.c (.v (.bool ((inR x0 0 1000000000000)))))=AV.p (.c (.v (.bool true)))),True,(AV.p (.c (.v (.bool ((inR x1 1 8)))))=AV.p (.c (.v (.bool false))))] gamOK hT h (by kernel_rfl) ⟨trivial,hint_bool (h1),trivial,hint_bool (h2),trivial⟩ fun a w h=>then_normal (wp_ret ?_)
   exact at_return (false,()) [] h (by kernel_rfl) trivial (congrArg (fun z=>(z,())) (show (false)=isFmt x0 x1 x2 from by first | rfl | (unfold isFmt;rw [if_pos h1,if_neg (neT h2)];done) | (unfold isFmt;simp_all)))
 ·have hvh1 := inR_f h1
  refine at_regq [{},{ hint:=some (aB false) }] { ts:=[6],os:=[] } [True,(AV.p (.c (.v (.bool ((inR x0 0 1000000000000)))))=AV.p (.c (.v (.bool false))))] gamOK hT h (by kernel_rfl) ⟨trivial,hint_bool (h1),trivial⟩ fun a w h=>then_normal (wp_ret ?_)
  exact at_return (false,()) [] h (by kernel_rfl) trivial (congrArg (fun z=>(z,())) (show (false)=isFmt x0 x1 x2 from by first | rfl | (unfold isFmt;rw [if_neg (neT h1)];done) | (unfold isFmt;simp_all)))

def cmpI (a b:Int):Int:=if a < b then -1 else if b < a then 1 else 0
theorem cmpI_lt {a b:Int}:cmpI a b < 0↔a < b:=by
 unfold cmpI;split
 ·rename_i h;exact ⟨fun _=>h,fun _=>by decide⟩
 ·rename_i h; split
  ·exact ⟨fun h1=>absurd h1 (by decide),fun h1=>absurd h1 h⟩
  ·exact ⟨fun h1=>absurd h1 (by decide),fun h1=>absurd h1 h⟩
theorem cmpI_eq {a b:Int}:cmpI a b=0↔a=b:=by
 unfold cmpI;split
 ·exact ⟨fun h1=>absurd h1 (by decide),fun h1=>by omega⟩
 ·split
  ·exact ⟨fun h1=>absurd h1 (by decide),fun h1=>by omega⟩
  ·exact ⟨fun _=>by omega,fun _=>rfl⟩
section
variable {α:Type}
def ltK (f:α→Int) (z:α) (xs:List α) (v:Int) (k:Nat):Bool:=decide (f (xs.getD k z) < v)
def srtK (f:α→Int) (z:α) (xs:List α):Prop:=∀ a b,a < b→b < xs.length→f (xs.getD a z) < f (xs.getD b z)
def bsK (f:α→Int) (z:α) (xs:List α) (v:Int):Nat:=bsF (ltK f z xs v) 0 xs.length
def fndK (f:α→Int) (z:α) (xs:List α) (v:Int):Bool:=decide (bsK f z xs v < xs.length∧f (xs.getD (bsK f z xs v) z)=v)
theorem bsK_le (f:α→Int) (z:α) (xs:List α) (v:Int):bsK f z xs v≤xs.length:=(bsF_bd _ xs.length 0 xs.length (by omega) (by omega)).2
theorem bsK_spec {f:α→Int} {z:α} {xs:List α} (hs:srtK f z xs) (v:Int):(∀ a,a < bsK f z xs v→f (xs.getD a z) < v)∧∀ a,bsK f z xs v≤a→a < xs.length→v≤f (xs.getD a z):=by
 have hm:∀ a b,a≤b→b < xs.length→ltK f z xs v b=true→ltK f z xs v a=true:=fun a b hab hb hp=>by
  unfold ltK at hp ⊢
  rw [decide_eq_true_iff] at hp ⊢
  by_cases e:a=b
  ·rw [e];exact hp
  ·have:=hs a b (by omega) hb;omega
 obtain ⟨h1,h2⟩:=bsF_first hm xs.length 0 xs.length (by omega) (by omega) (Nat.le_refl _) (fun a ha=>by omega) (fun a ha hn=>by omega)
 exact ⟨fun a ha=>of_decide_eq_true (h1 a ha),fun a ha hn=>by have:=of_decide_eq_false (h2 a ha hn);omega⟩
theorem bsK_at {f:α→Int} {z:α} {xs:List α} {v:Int} {i:Nat} (hs:srtK f z xs) (hi:i < xs.length) (he:f (xs.getD i z)=v):bsK f z xs v=i:=by
 obtain ⟨h1,h2⟩:=bsK_spec hs v
 rcases Nat.lt_trichotomy (bsK f z xs v) i with h | h | h
 ·have := h2 _ (Nat.le_refl _) (by omega)
  have:=hs _ _ h hi
  omega
 ·exact h
 ·have:=h1 _ h;omega
theorem fndK_at {f:α→Int} {z:α} {xs:List α} {v:Int} {i:Nat} (hs:srtK f z xs) (hi:i < xs.length) (he:f (xs.getD i z)=v):fndK f z xs v=true:=by
 unfold fndK;rw [bsK_at hs hi he];exact decide_eq_true ⟨hi,he⟩
theorem fnd_eq {f:α→Int} {z:α} {xs:List α} {v:Int} {q:Nat} (h:q < xs.length):decide (cmpI (f (xs.getD q z)) v=0)=decide (q < xs.length∧f (xs.getD q z)=v):=by rw [decide_eq_decide,cmpI_eq];exact ⟨fun e=>⟨h,e⟩,fun e=>e.2⟩
theorem fnd_no {f:α→Int} {z:α} {xs:List α} {v:Int} {q:Nat} (h:¬ q < xs.length):false=decide (q < xs.length∧f (xs.getD q z)=v):=(decide_eq_false fun e=>h e.1).symm
theorem fndK_none {f:α→Int} {z:α} {xs:List α} {v:Int} (h:∀ i,i < xs.length→f (xs.getD i z)≠v):fndK f z xs v=false:=decide_eq_false fun e=>h _ e.1 e.2
theorem fndK_t {f:α→Int} {z:α} {xs:List α} {v:Int} (h:fndK f z xs v=true):bsK f z xs v < xs.length∧f (xs.getD (bsK f z xs v) z)=v:=of_decide_eq_true h
theorem srt_of {f:α→Int} {z:α} {xs:List α} (h:∀ i,i+1 < xs.length→f (xs.getD i z) < f (xs.getD (i+1) z)):srtK f z xs:=by
 intro a b hab hb
 obtain ⟨d,rfl⟩:∃ d,b=a+1+d:=⟨b - a - 1,by omega⟩
 induction d with
 | zero=>exact h a (by omega)
 | succ d ih=>have h1:=ih (by omega) (by omega);have h2:=h (a+1+d) (by omega);have e:a+1+d+1=a+1+(d+1):=(by omega);rw [e] at h2;omega
def ordB (f:α→Int) (z:α) (xs:List α) (i:Nat):Bool:=decide (i=0) || decide (f (xs.getD (i - 1) z) < f (xs.getD i z))
theorem ordB_t {f:α→Int} {z:α} {xs:List α} {i:Nat} (h:i=0∨f (xs.getD (((i:Nat):Int) - 1).toNat z) < f (xs.getD i z)):ordB f z xs i=true:=by
 have e:(((i:Nat):Int) - 1).toNat=i - 1:=by omega
 rw [e] at h
 unfold ordB;rw [Bool.or_eq_true,decide_eq_true_iff,decide_eq_true_iff];exact h
theorem ordB_f {f:α→Int} {z:α} {xs:List α} {i:Nat} (h:0 < i∧f (xs.getD i z)≤f (xs.getD (((i:Nat):Int) - 1).toNat z)):ordB f z xs i=false:=by
 have e:(((i:Nat):Int) - 1).toNat=i - 1:=by omega
 rw [e] at h
 unfold ordB;rw [Bool.or_eq_false_iff,decide_eq_false_iff_not,decide_eq_false_iff_not];omega
theorem srt_ord {f:α→Int} {z:α} {xs:List α} (h:∀ i,i < xs.length→ordB f z xs i=true):srtK f z xs:=srt_of fun i hi=>by
 have:=h (i+1) hi
 unfold ordB at this
 rw [Bool.or_eq_true,decide_eq_true_iff,decide_eq_true_iff] at this
 rcases this with h | h
 ·omega
 ·exact h
end
def S_cmp_Compare_int_:Sum:={ fid:=121,dom:=[(.int 3),(.int 3)],cod:=[(.int 3)],dp:=true,fz:=false,pre:=fun x=>True,g:=fun x=>((cmpI x.1 x.2.1),()) }
def S_cmp_Compare_int__tab:List (Nat×Sum):=[(144,S_cmp_isNaN_int_)]
theorem S_cmp_Compare_int__ok:FnOK Try.prog 121 S_cmp_Compare_int_:=by
 refine at_enter 20 (fun x=>⟨[(0,aI x.1),(1,aI x.2.1)],[]⟩) Try.func121 rfl (by kernel_rfl) (fun x=>rfl) ?_
 rintro w0 Z0 ⟨x0,x1,u⟩ a w
 revert x0 x1
 intro (x0:Int) (x1:Int) hpre hlens h
 have hT:TabOK Try.prog S_cmp_Compare_int__tab:=(.cons S_cmp_isNaN_int__ok .nil)
 refine wp_seq ?_
 refine at_regq [] { ts:=[0,1,4],os:=[] } [] gamOK hT h (by kernel_rfl) trivial fun a w h=>then_normal (wp_seq ?_)
 refine at_regq [] { ts:=[0,1,4,5],os:=[] } [True] gamOK hT h (by kernel_rfl) ⟨trivial,trivial⟩ fun a w h=>then_normal (wp_seq ?_)
 refine at_regq [] { ts:=[0,1,4,5,6],os:=[] } [True] gamOK hT h (by kernel_rfl) ⟨trivial,trivial⟩ fun a w h=>then_normal (wp_seq (wp_seq ?_))
 refine at_regq [] { ts:=[0,1,4,6,11],os:=[] } [] gamOK hT h (by kernel_rfl) trivial fun a w h=>then_normal ?_
 refine at_test ((D_cmp_isNaN_int_ x0)) h (by kernel_rfl) (fun h1=>?_) (fun h1=>?_)
 ·refine wp_seq (wp_seq ?_)
  refine at_regq [] { ts:=[0,1,4,6,12],os:=[] } [] gamOK hT h (by kernel_rfl) trivial fun a w h=>then_normal ?_
  refine at_test ((D_cmp_isNaN_int_ x1)) h (by kernel_rfl) (fun h2=>?_) (fun h2=>?_)
  ·refine wp_seq ?_
   refine at_regq [] { ts:=[0,1,4,6],os:=[] } [] gamOK hT h (by kernel_rfl) trivial fun a w h=>then_normal (wp_ret (then_ret (then_ret ?_)))
   exact at_return (0,()) [] h (by kernel_rfl) trivial (congrArg (fun z=>(z,())) (show (0)=cmpI x0 x1 from by (unfold cmpI;simp_all [D_cmp_isNaN_int_];try omega)))
  ·refine wp_skip (then_normal (wp_seq ?_))
   refine at_regq [] { ts:=[0,1,4,6],os:=[] } [] gamOK hT h (by kernel_rfl) trivial fun a w h=>then_normal (wp_ret (then_ret ?_))
   exact at_return ((-1),()) [] h (by kernel_rfl) trivial (congrArg (fun z=>(z,())) (show ((-1))=cmpI x0 x1 from by (unfold cmpI;simp_all [D_cmp_isNaN_int_];try omega)))
 ·refine wp_skip (then_normal (wp_seq (wp_seq ?_)))
  refine at_regq [] { ts:=[0,1,4,13],os:=[] } [] gamOK hT h (by kernel_rfl) trivial fun a w h=>then_normal ?_
  refine at_test ((D_cmp_isNaN_int_ x1)) h (by kernel_rfl) (fun h3=>?_) (fun h3=>?_)
  ·refine wp_seq ?_
   refine at_regq [] { ts:=[0,1,4],os:=[] } [] gamOK hT h (by kernel_rfl) trivial fun a w h=>then_normal (wp_ret (then_ret ?_))
   exact at_return (1,()) [] h (by kernel_rfl) trivial (congrArg (fun z=>(z,())) (show (1)=cmpI x0 x1 from by (unfold cmpI;simp_all [D_cmp_isNaN_int_];try omega)))
  ·refine wp_skip (then_normal (wp_seq (wp_seq ?_)))
   refine at_regq [] { ts:=[0,1,4,16],os:=[] } [] gamOK hT h (by kernel_rfl) trivial fun a w h=>then_normal ?_
   refine at_test (decide (x0 < x1)) h (by kernel_rfl) (fun h4=>?_) (fun h4=>?_)
   ·replace h4 : x0 < x1 := of_decide_eq_true h4
    refine wp_seq ?_
    refine at_regq [] { ts:=[0,1,4],os:=[] } [] gamOK hT h (by kernel_rfl) trivial fun a w h=>then_normal (wp_ret (then_ret ?_))
    exact at_return ((-1),()) [] h (by kernel_rfl) trivial (congrArg (fun z=>(z,())) (show ((-1))=cmpI x0 x1 from by (unfold cmpI;simp_all [D_cmp_isNaN_int_];try omega)))
   ·replace h4 : ¬ (x0 < x1) := of_decide_eq_false h4
    refine wp_skip (then_normal (wp_seq (wp_seq ?_)))
    refine at_regq [] { ts:=[4,19],os:=[] } [] gamOK hT h (by kernel_rfl) trivial fun a w h=>then_normal ?_
    refine at_test (decide (x0 > x1)) h (by kernel_rfl) (fun h5=>?_) (fun h5=>?_)
    ·replace h5 : x0 > x1 := of_decide_eq_true h5
     refine wp_seq ?_
     refine at_regq [] { ts:=[4],os:=[] } [] gamOK hT h (by kernel_rfl) trivial fun a w h=>then_normal (wp_ret (then_ret ?_))
     exact at_return (1,()) [] h (by kernel_rfl) trivial (congrArg (fun z=>(z,())) (show (1)=cmpI x0 x1 from by (unfold cmpI;simp_all [D_cmp_isNaN_int_];try omega)))
    ·replace h5 : ¬ (x0 > x1) := of_decide_eq_false h5
     refine wp_skip (then_normal (wp_seq ?_))
     refine at_regq [] { ts:=[4],os:=[] } [] gamOK hT h (by kernel_rfl) trivial fun a w h=>then_normal (wp_ret ?_)
     exact at_return (0,()) [] h (by kernel_rfl) trivial (congrArg (fun z=>(z,())) (show (0)=cmpI x0 x1 from by (unfold cmpI;simp_all [D_cmp_isNaN_int_];try omega)))

def validD (x0:T97):Bool:=(if (isFmt x0.1 x0.2.1 x0.2.2.1)=true then (if (validB x0.2.2.2)=true then (if x0.2.2.2.1=x0.2.1+x0.2.2.1 then (if (List.all x0.2.2.2.2 (fun r=>decide (LA.leadS r < x0.2.1)))=true then true else false) else false) else false) else false)
abbrev Q_impl_IsValidDecoder:=(fun (x0:T97)=>Sh.fit s97 x0)
def S_impl_IsValidDecoder:Sum:={ fid:=74,dom:=[s97],cod:=[(.bool 4)],dp:=true,fz:=false,pre:=fun x=>Q_impl_IsValidDecoder x.1,g:=fun x=>((validD x.1),()) }
def S_impl_IsValidDecoder_tab:List (Nat×Sum):=[(114,S_impl_isFormat),(115,S_impl_IsValidBasis),(116,S_impl_LeadingIndex)]
theorem S_impl_IsValidDecoder_ok:FnOK Try.prog 74 S_impl_IsValidDecoder:=by
 refine at_enter 44 (fun x=>⟨[(0,aG [cI x.1.1,cI x.1.2.1,cI x.1.2.2.1,cI x.1.2.2.2.1,.ro s22 x.1.2.2.2.2])],[]⟩) Try.func74 rfl (by kernel_rfl) (fun x=>rfl) ?_
 rintro w0 Z0 ⟨x0,u⟩ a w
 revert x0
 intro (x0:T97) hpre hlens h
 replace hpre:Q_impl_IsValidDecoder x0:=hpre
 have hT:TabOK Try.prog S_impl_IsValidDecoder_tab:=(.cons S_impl_isFormat_ok (.cons S_impl_IsValidBasis_ok (.cons S_impl_LeadingIndex_ok .nil)))
 have hf0:Sh.fit s97 x0:=hpre
 have hn0_1:List.length x0.2.2.2.2≤1073741824:=hf0.2.2.2.2.1
 refine wp_seq ?_
 refine at_regq [{ ids:=[1] }] { ts:=[1,2],os:=[1] } [] gamOK hT h (by kernel_rfl) trivial fun a w h=>then_normal (wp_seq (wp_seq ?_))
 rcases Bool.eq_false_or_eq_true (!(isFmt x0.1 x0.2.1 x0.2.2.1)) with h1 | h1
 ·have hzh1 : (isFmt x0.1 x0.2.1 x0.2.2.1) = false := notT h1
  refine at_regq [{},{},{},{},{},{},{},{ hint:=some (aB true) }] { ts:=[1,2,29],os:=[1] } [True,(AV.p (.c (.v (.bool (!(isFmt x0.1 x0.2.1 x0.2.2.1)))))=AV.p (.c (.v (.bool true))))] gamOK hT h (by kernel_rfl) ⟨trivial,hint_bool (h1),trivial⟩ fun a w h=>then_normal ?_
  refine at_test true h (by kernel_rfl) (fun hh=>?_) (fun hh=>nomatch hh)
  refine wp_seq ?_
  refine at_regq [] { ts:=[1,2],os:=[1] } [] gamOK hT h (by kernel_rfl) trivial fun a w h=>then_normal (wp_ret (then_ret ?_))
  exact at_return (false,()) [] h (by kernel_rfl) trivial (congrArg (fun z=>(z,())) (show (false)=validD x0 from by first | rfl | (unfold validD;rw [if_neg (neT (notT h1))])))
 ·have hzh1 : (isFmt x0.1 x0.2.1 x0.2.2.1) = true := notF h1
  have hvh1:=isFmt_t (notF h1)
  rcases Bool.eq_false_or_eq_true (!(validB x0.2.2.2)) with h2 | h2
  ·have hzh2 : (validB x0.2.2.2) = false := notT h2
   refine at_regq [{},{},{},{},{},{},{},{ hint:=some (aB false) },{},{},{},{},{ hint:=some (aB true) }] { ts:=[1,2,29],os:=[1] } [True,(AV.p (.c (.v (.bool (!(isFmt x0.1 x0.2.1 x0.2.2.1)))))=AV.p (.c (.v (.bool false)))),Q_impl_IsValidBasis x0.2.2.2,(AV.p (.c (.v (.bool (!(validB x0.2.2.2)))))=AV.p (.c (.v (.bool true))))] gamOK hT h (by kernel_rfl) ⟨trivial,hint_bool (h1),(by exact hf0.2.2.2),hint_bool (h2),trivial⟩ fun a w h=>then_normal ?_
   refine at_test true h (by kernel_rfl) (fun hh=>?_) (fun hh=>nomatch hh)
   refine wp_seq ?_
   refine at_regq [] { ts:=[1,2],os:=[1] } [] gamOK hT h (by kernel_rfl) trivial fun a w h=>then_normal (wp_ret (then_ret ?_))
   exact at_return (false,()) [] h (by kernel_rfl) trivial (congrArg (fun z=>(z,())) (show (false)=validD x0 from by first | rfl | (unfold validD;rw [if_pos (notF h1),if_neg (neT (notT h2))])))
  ·have hzh2 : (validB x0.2.2.2) = true := notF h2
   have hvh2:=validB_t (notF h2)
   refine at_regq [{},{},{},{},{},{},{},{ hint:=some (aB false) },{},{},{},{},{ hint:=some (aB false) },{},{},{},{},{},{},{},{},{},{ nw:=true }] { ts:=[1,2,29],os:=[1] } [True,(AV.p (.c (.v (.bool (!(isFmt x0.1 x0.2.1 x0.2.2.1)))))=AV.p (.c (.v (.bool false)))),Q_impl_IsValidBasis x0.2.2.2,(AV.p (.c (.v (.bool (!(validB x0.2.2.2)))))=AV.p (.c (.v (.bool false)))),I64 (x0.2.1+x0.2.2.1)] gamOK hT h (by kernel_rfl) ⟨trivial,hint_bool (h1),(by exact hf0.2.2.2),hint_bool (h2),⟨by first | omega | (simp only [lsA];omega) | (simp<;>omega),by first | omega | (simp only [lsA];omega) | (simp<;>omega)⟩,trivial⟩ fun a w h=>then_normal ?_
   refine at_test (!decide (x0.2.2.2.1=x0.2.1+x0.2.2.1)) h (by kernel_rfl) (fun h3=>?_) (fun h3=>?_)
   ·replace h3 : ¬ (x0.2.2.2.1 = x0.2.1 + x0.2.2.1) := of_decide_eq_false (notT h3)
    refine wp_seq ?_
    refine at_regq [] { ts:=[1,2],os:=[1] } [] gamOK hT h (by kernel_rfl) trivial fun a w h=>then_normal (wp_ret (then_ret ?_))
    exact at_return (false,()) [] h (by kernel_rfl) trivial (congrArg (fun z=>(z,())) (show (false)=validD x0 from by first | rfl | (unfold validD;rw [if_pos (notF h1),if_pos (notF h2),if_neg h3])))
   ·replace h3 : x0.2.2.2.1 = x0.2.1 + x0.2.2.1 := of_decide_eq_true (notF h3)
    refine wp_skip (then_normal (wp_seq (wp_seq ?_)))
    refine at_regq [] { ts:=[1,2,32,33,34],os:=[1] } [] gamOK hT h (by kernel_rfl) trivial fun a w h=>then_normal (wp_block ?_)
    replace h:=at_out (σ':=⟨[(1,aP 1 0),(2,aB false),(32,aF s22 x0.2.2.2.2),(33,aI ((List.length x0.2.2.2.2:Nat):Int)),(34,aI 0)],[(1,oX 97 [cI x0.1,cI x0.2.1,cI x0.2.2.1,cI x0.2.2.2.1,.ro s22 x0.2.2.2.2])]⟩) { ts:=[1,2,32,33,34],os:=[1] } h (by kernel_rfl)
    refine at_loop (fun i:Nat=>(⟨[(1,aP 1 0),(2,aB false),(32,aF s22 x0.2.2.2.2),(33,aI ((List.length x0.2.2.2.2:Nat):Int)),(34,aI ((i:Nat):Int))],[(1,oX 97 [cI x0.1,cI x0.2.1,cI x0.2.2.1,cI x0.2.2.2.1,.ro s22 x0.2.2.2.2])]⟩:St)) (fun i=>(i≤List.length x0.2.2.2.2∧allTo1 (fun r=>decide (LA.leadS r < x0.2.1)) x0.2.2.2.2 [] i)) (fun i=>List.length x0.2.2.2.2 - i) (0) h (st_congr1 (fun (d0:Int)=>(⟨[(1,aP 1 0),(2,aB false),(32,aF s22 x0.2.2.2.2),(33,aI ((List.length x0.2.2.2.2:Nat):Int)),(34,aI d0)],[(1,oX 97 [cI x0.1,cI x0.2.1,cI x0.2.2.1,cI x0.2.2.2.1,.ro s22 x0.2.2.2.2])]⟩:St)) (show (0:Int)=(((0):Nat):Int) from by first | with_reducible rfl | (rfl) | rfl)) (by exact ⟨Nat.zero_le _,allTo1_zero⟩) ?_
    intro i a w hok0 h
    refine wp_seq ?_
    refine at_regq [] { ts:=[1,2,32,33,34,35],os:=[1] } [] gamOK hT h (by kernel_rfl) trivial fun a w h=>then_normal (wp_seq ?_)
    refine at_test (decide (((i:Nat):Int) < ((List.length x0.2.2.2.2:Nat):Int))) h (by kernel_rfl) (fun h4=>?_) (fun h4=>?_)
    ·replace h4 : ((i : Nat) : Int) < ((List.length x0.2.2.2.2 : Nat) : Int) := of_decide_eq_true h4
     refine wp_skip (then_normal (wp_seq (wp_block (wp_seq ?_))))
     refine at_regq [] { ts:=[1,2,4,32,33,34],os:=[1] } [(0:Int)≤((i:Nat):Int)∧((i:Nat):Int) < ((List.length x0.2.2.2.2:Nat):Int)] gamOK hT h (by kernel_rfl) ⟨(by refine ⟨?_,?_⟩<;>(first | omega | (simp only [lsA];omega) | (simp<;>omega))),trivial⟩ fun a w h=>then_normal (wp_seq ?_)
     refine at_anyq [{},{},{},{},{}] { ts:=[1,2,32,33,34,42],os:=[1] } [Q_impl_LeadingIndex (x0.2.2.2.2.getD i [])] gamOK hT mixed h (by kernel_rfl) ⟨(by exact Sh.fit_getD hf0.2.2.2.2 i),trivial⟩ fun a w h=>then_normal ?_
     refine at_test (decide ((LA.leadS (x0.2.2.2.2.getD i []))≥x0.2.1)) h (by kernel_rfl) (fun h5=>?_) (fun h5=>?_)
     ·replace h5 : (LA.leadS (x0.2.2.2.2.getD i [])) ≥ x0.2.1 := of_decide_eq_true h5
      refine wp_seq ?_
      refine at_regq [] { ts:=[1,2,32,33,34],os:=[1] } [] gamOK hT h (by kernel_rfl) trivial fun a w h=>then_normal (wp_ret (in_ret (then_ret ?_)))
      have hs6:(List.all x0.2.2.2.2 (fun r=>decide (LA.leadS r < x0.2.1)))=false:=by exact all_at (z:=[]) (i:=i) (by omega) (by exact decide_eq_false (by omega))
      refine then_ret (in_ret (then_ret ?_))
      exact at_return (false,()) [] h (by kernel_rfl) trivial (congrArg (fun z=>(z,())) (show (false)=validD x0 from by first | rfl | (unfold validD;rw [if_pos (notF h1),if_pos (notF h2),if_pos h3,if_neg (neT hs6)])))
     ·replace h5 : ¬ ((LA.leadS (x0.2.2.2.2.getD i [])) ≥ x0.2.1) := of_decide_eq_false h5
      refine wp_skip (in_normal (then_normal ?_))
      refine at_regq [{ nw:=true }] { ts:=[1,2,32,33,34],os:=[1] } [I64 (((i:Nat):Int)+1)] gamOK hT h (by kernel_rfl) ⟨⟨by first | omega | (simp only [lsA];omega) | (simp<;>omega),by first | omega | (simp only [lsA];omega) | (simp<;>omega)⟩,trivial⟩ fun a w h=>?_
      replace h:=at_out (σ':=⟨[(1,aP 1 0),(2,aB false),(32,aF s22 x0.2.2.2.2),(33,aI ((List.length x0.2.2.2.2:Nat):Int)),(34,aI (((i:Nat):Int)+1))],[(1,oX 97 [cI x0.1,cI x0.2.1,cI x0.2.2.1,cI x0.2.2.2.1,.ro s22 x0.2.2.2.2])]⟩) { ts:=[1,2,32,33,34],os:=[1] } h (by kernel_rfl)
      exact ⟨i+1,at_eq h (st_congr1 (fun (d0:Int)=>(⟨[(1,aP 1 0),(2,aB false),(32,aF s22 x0.2.2.2.2),(33,aI ((List.length x0.2.2.2.2:Nat):Int)),(34,aI d0)],[(1,oX 97 [cI x0.1,cI x0.2.1,cI x0.2.2.1,cI x0.2.2.2.1,.ro s22 x0.2.2.2.2])]⟩:St)) (show (((i:Nat):Int)+1:Int)=(((i+1):Nat):Int) from by first | with_reducible rfl | (omega) | rfl)),(by exact ⟨by omega,allTo1_succ hok0.2 (by exact decide_eq_true (by omega))⟩),(by omega)⟩
    ·replace h4 : ¬ (((i : Nat) : Int) < ((List.length x0.2.2.2.2 : Nat) : Int)) := of_decide_eq_false h4
     refine wp_exit (then_exit ?_)
     have hs7:(List.all x0.2.2.2.2 (fun r=>decide (LA.leadS r < x0.2.1)))=true:=by exact all_of (z:=[]) (i:=i) (by omega) hok0.2
     refine then_exit (in_hit (then_normal (wp_seq ?_)))
     refine at_regq [] { ts:=[2],os:=[] } [] gamOK hT h (by kernel_rfl) trivial fun a w h=>then_normal (wp_ret ?_)
     exact at_return (true,()) [] h (by kernel_rfl) trivial (congrArg (fun z=>(z,())) (show (true)=validD x0 from by first | rfl | (unfold validD;rw [if_pos (notF h1),if_pos (notF h2),if_pos h3,if_pos hs7])))
theorem validD_t {d:T97} (h:validD d=true):((0≤d.1∧d.1≤1000000000000)∧(1≤d.2.1∧d.2.1≤8)∧(1≤d.2.2.1∧d.2.2.1≤16))∧basP d.2.2.2∧d.2.2.2.1=d.2.1+d.2.2.1∧∀ r∈d.2.2.2.2,LA.leadS r < d.2.1:=by
 unfold validD at h
 split at h
 ·split at h
  ·split at h
   ·split at h
    ·rename_i h1 h2 h3 h4
     exact ⟨isFmt_t h1,validB_t h2,h3,fun r hr=>of_decide_eq_true (List.all_eq_true.1 h4 r hr)⟩
    ·cases h
   ·cases h
  ·cases h
 ·cases h

abbrev Q_spec_IsValidDecoder:=(fun (x0:T97)=>Sh.fit s97 x0)
def S_spec_IsValidDecoder:Sum:={ fid:=61,dom:=[s97],cod:=[(.bool 4)],dp:=true,fz:=false,pre:=fun x=>Q_spec_IsValidDecoder x.1,g:=fun x=>((validD x.1),()) }
def S_spec_IsValidDecoder_tab:List (Nat×Sum):=[(88,S_spec_l14Range),(104,S_spec_IsValidBasis),(105,S_spec_LeadingIndex)]
theorem S_spec_IsValidDecoder_ok:FnOK Try.prog 61 S_spec_IsValidDecoder:=by
 refine at_enter 47 (fun x=>⟨[(0,aG [cI x.1.1,cI x.1.2.1,cI x.1.2.2.1,cI x.1.2.2.2.1,.ro s22 x.1.2.2.2.2])],[]⟩) Try.func61 rfl (by kernel_rfl) (fun x=>rfl) ?_
 rintro w0 Z0 ⟨x0,u⟩ a w
 revert x0
 intro (x0:T97) hpre hlens h
 replace hpre:Q_spec_IsValidDecoder x0:=hpre
 have hT:TabOK Try.prog S_spec_IsValidDecoder_tab:=(.cons S_spec_l14Range_ok (.cons S_spec_IsValidBasis_ok (.cons S_spec_LeadingIndex_ok .nil)))
 have hf0:Sh.fit s97 x0:=hpre
 have hn0_1:List.length x0.2.2.2.2≤1073741824:=hf0.2.2.2.2.1
 refine wp_seq ?_
 refine at_regq [{ ids:=[1] }] { ts:=[1,2],os:=[1] } [] gamOK hT h (by kernel_rfl) trivial fun a w h=>then_normal (wp_seq (wp_seq ?_))
 rcases Bool.eq_false_or_eq_true (!(isFmt x0.1 x0.2.1 x0.2.2.1)) with h1 | h1
 ·have hzh1 : (isFmt x0.1 x0.2.1 x0.2.2.1) = false := notT h1
  refine at_regq [{},{},{},{},{},{},{},{ hint:=some (aB true) }] { ts:=[1,2,28],os:=[1] } [True,(AV.p (.c (.v (.bool (!(isFmt x0.1 x0.2.1 x0.2.2.1)))))=AV.p (.c (.v (.bool true))))] gamOK hT h (by kernel_rfl) ⟨trivial,hint_bool (h1),trivial⟩ fun a w h=>then_normal ?_
  refine at_test true h (by kernel_rfl) (fun hh=>?_) (fun hh=>nomatch hh)
  refine wp_seq ?_
  refine at_regq [] { ts:=[1,2],os:=[1] } [] gamOK hT h (by kernel_rfl) trivial fun a w h=>then_normal (wp_ret (then_ret ?_))
  exact at_return (false,()) [] h (by kernel_rfl) trivial (congrArg (fun z=>(z,())) (show (false)=validD x0 from by first | rfl | (unfold validD;rw [if_neg (neT (notT h1))];done) | (unfold validD;(repeat (first | rfl | split))<;>(first | rfl | omega | (simp_all [-List.all_eq_true,-List.any_eq_true,-List.all_eq_false,-List.any_eq_false,validBS_eq];done) | (simp_all [-List.all_eq_true,-List.any_eq_true,-List.all_eq_false,-List.any_eq_false,validBS_eq];omega) | (exfalso;simp_all [-List.all_eq_true,-List.any_eq_true,-List.all_eq_false,-List.any_eq_false,validBS_eq];omega)))))
 ·have hzh1 : (isFmt x0.1 x0.2.1 x0.2.2.1) = true := notF h1
  have hvh1:=isFmt_t (notF h1)
  rcases Bool.eq_false_or_eq_true (!(validBS x0.2.2.2)) with h2 | h2
  ·have hzh2 : (validBS x0.2.2.2) = false := notT h2
   refine at_regq [{},{},{},{},{},{},{},{ hint:=some (aB false) },{},{},{},{},{ hint:=some (aB true) }] { ts:=[1,2,28],os:=[1] } [True,(AV.p (.c (.v (.bool (!(isFmt x0.1 x0.2.1 x0.2.2.1)))))=AV.p (.c (.v (.bool false)))),Q_spec_IsValidBasis x0.2.2.2,(AV.p (.c (.v (.bool (!(validBS x0.2.2.2)))))=AV.p (.c (.v (.bool true))))] gamOK hT h (by kernel_rfl) ⟨trivial,hint_bool (h1),(by exact hf0.2.2.2),hint_bool (h2),trivial⟩ fun a w h=>then_normal ?_
   refine at_test true h (by kernel_rfl) (fun hh=>?_) (fun hh=>nomatch hh)
   refine wp_seq ?_
   refine at_regq [] { ts:=[1,2],os:=[1] } [] gamOK hT h (by kernel_rfl) trivial fun a w h=>then_normal (wp_ret (then_ret ?_))
   exact at_return (false,()) [] h (by kernel_rfl) trivial (congrArg (fun z=>(z,())) (show (false)=validD x0 from by first | rfl | (unfold validD;rw [if_pos (notF h1),if_neg (neT (notT h2))];done) | (unfold validD;(repeat (first | rfl | split))<;>(first | rfl | omega | (simp_all [-List.all_eq_true,-List.any_eq_true,-List.all_eq_false,-List.any_eq_false,validBS_eq];done) | (simp_all [-List.all_eq_true,-List.any_eq_true,-List.all_eq_false,-List.any_eq_false,validBS_eq];omega) | (exfalso;simp_all [-List.all_eq_true,-List.any_eq_true,-List.all_eq_false,-List.any_eq_false,validBS_eq];omega)))))
  ·have hzh2 : (validBS x0.2.2.2) = true := notF h2
   have hvh2:=validBS_t (notF h2)
   refine at_regq [{},{},{},{},{},{},{},{ hint:=some (aB false) },{},{},{},{},{ hint:=some (aB false) },{},{},{},{},{},{},{},{},{},{ nw:=true }] { ts:=[1,2,28],os:=[1] } [True,(AV.p (.c (.v (.bool (!(isFmt x0.1 x0.2.1 x0.2.2.1)))))=AV.p (.c (.v (.bool false)))),Q_spec_IsValidBasis x0.2.2.2,(AV.p (.c (.v (.bool (!(validBS x0.2.2.2)))))=AV.p (.c (.v (.bool false)))),I64 (x0.2.1+x0.2.2.1)] gamOK hT h (by kernel_rfl) ⟨trivial,hint_bool (h1),(by exact hf0.2.2.2),hint_bool (h2),⟨by first | omega | (simp only [lsA];omega) | (simp<;>omega),by first | omega | (simp only [lsA];omega) | (simp<;>omega)⟩,trivial⟩ fun a w h=>then_normal ?_
   refine at_test (!decide (x0.2.2.2.1=x0.2.1+x0.2.2.1)) h (by kernel_rfl) (fun h3=>?_) (fun h3=>?_)
   ·replace h3 : ¬ (x0.2.2.2.1 = x0.2.1 + x0.2.2.1) := of_decide_eq_false (notT h3)
    refine wp_seq ?_
    refine at_regq [] { ts:=[1,2],os:=[1] } [] gamOK hT h (by kernel_rfl) trivial fun a w h=>then_normal (wp_ret (then_ret ?_))
    exact at_return (false,()) [] h (by kernel_rfl) trivial (congrArg (fun z=>(z,())) (show (false)=validD x0 from by first | rfl | (unfold validD;rw [if_pos (notF h1),if_pos (notF h2),if_neg h3];done) | (unfold validD;(repeat (first | rfl | split))<;>(first | rfl | omega | (simp_all [-List.all_eq_true,-List.any_eq_true,-List.all_eq_false,-List.any_eq_false,validBS_eq];done) | (simp_all [-List.all_eq_true,-List.any_eq_true,-List.all_eq_false,-List.any_eq_false,validBS_eq];omega) | (exfalso;simp_all [-List.all_eq_true,-List.any_eq_true,-List.all_eq_false,-List.any_eq_false,validBS_eq];omega)))))
   ·replace h3 : x0.2.2.2.1 = x0.2.1 + x0.2.2.1 := of_decide_eq_true (notF h3)
    refine wp_skip (then_normal (wp_seq (wp_seq ?_)))
    refine at_regq [] { ts:=[1,2,3],os:=[1] } [] gamOK hT h (by kernel_rfl) trivial fun a w h=>then_normal (wp_block ?_)
    replace h:=at_out (σ':=⟨[(1,aP 1 0),(2,aB false),(3,aI 0)],[(1,oX 97 [cI x0.1,cI x0.2.1,cI x0.2.2.1,cI x0.2.2.2.1,.ro s22 x0.2.2.2.2])]⟩) { ts:=[1,2,3],os:=[1] } h (by kernel_rfl)
    refine at_loop (fun i:Nat=>(⟨[(1,aP 1 0),(2,aB false),(3,aI ((i:Nat):Int))],[(1,oX 97 [cI x0.1,cI x0.2.1,cI x0.2.2.1,cI x0.2.2.2.1,.ro s22 x0.2.2.2.2])]⟩:St)) (fun i=>(i≤List.length x0.2.2.2.2∧allTo1 (fun r=>decide (LA.leadS r < x0.2.1)) x0.2.2.2.2 [] i)) (fun i=>List.length x0.2.2.2.2 - i) (0) h (st_congr1 (fun (d0:Int)=>(⟨[(1,aP 1 0),(2,aB false),(3,aI d0)],[(1,oX 97 [cI x0.1,cI x0.2.1,cI x0.2.2.1,cI x0.2.2.2.1,.ro s22 x0.2.2.2.2])]⟩:St)) (show (0:Int)=(((0):Nat):Int) from by first | with_reducible rfl | (rfl) | rfl)) (by exact ⟨Nat.zero_le _,allTo1_zero⟩) ?_
    intro i a w hok0 h
    refine wp_seq (wp_seq ?_)
    refine at_regq [] { ts:=[1,2,3,34],os:=[1] } [] gamOK hT h (by kernel_rfl) trivial fun a w h=>then_normal ?_
    refine at_test (decide (((i:Nat):Int) < ((List.length x0.2.2.2.2:Nat):Int))) h (by kernel_rfl) (fun h4=>?_) (fun h4=>?_)
    ·replace h4 : ((i : Nat) : Int) < ((List.length x0.2.2.2.2 : Nat) : Int) := of_decide_eq_true h4
     refine wp_skip (then_normal (wp_seq (wp_block (wp_seq ?_))))
     refine at_anyq [{},{},{},{},{},{},{},{},{},{}] { ts:=[1,2,3,46],os:=[1] } [(0:Int)≤((i:Nat):Int)∧((i:Nat):Int) < ((List.length x0.2.2.2.2:Nat):Int),Q_spec_LeadingIndex (x0.2.2.2.2.getD i [])] gamOK hT mixed h (by kernel_rfl) ⟨(by refine ⟨?_,?_⟩<;>(first | omega | (simp only [lsA];omega) | (simp<;>omega))),(by exact Sh.fit_getD hf0.2.2.2.2 i),trivial⟩ fun a w h=>then_normal ?_
     refine at_test (decide ((LA.leadS (x0.2.2.2.2.getD i []))≥x0.2.1)) h (by kernel_rfl) (fun h5=>?_) (fun h5=>?_)
     ·replace h5 : (LA.leadS (x0.2.2.2.2.getD i [])) ≥ x0.2.1 := of_decide_eq_true h5
      refine wp_seq ?_
      refine at_regq [] { ts:=[1,2,3],os:=[1] } [] gamOK hT h (by kernel_rfl) trivial fun a w h=>then_normal (wp_ret (in_ret (then_ret ?_)))
      have hs6:(List.all x0.2.2.2.2 (fun r=>decide (LA.leadS r < x0.2.1)))=false:=by exact all_at (z:=[]) (i:=i) (by omega) (by exact decide_eq_false (by omega))
      refine then_ret (in_ret (then_ret ?_))
      exact at_return (false,()) [] h (by kernel_rfl) trivial (congrArg (fun z=>(z,())) (show (false)=validD x0 from by first | rfl | (unfold validD;rw [if_pos (notF h1),if_pos (notF h2),if_pos h3,if_neg (neT hs6)];done) | (unfold validD;(repeat (first | rfl | split))<;>(first | rfl | omega | (simp_all [-List.all_eq_true,-List.any_eq_true,-List.all_eq_false,-List.any_eq_false,validBS_eq];done) | (simp_all [-List.all_eq_true,-List.any_eq_true,-List.all_eq_false,-List.any_eq_false,validBS_eq];omega) | (exfalso;simp_all [-List.all_eq_true,-List.any_eq_true,-List.all_eq_false,-List.any_eq_false,validBS_eq];omega)))))
     ·replace h5 : ¬ ((LA.leadS (x0.2.2.2.2.getD i [])) ≥ x0.2.1) := of_decide_eq_false h5
      refine wp_skip (in_normal (then_normal ?_))
      refine at_regq [{},{ nw:=true }] { ts:=[1,2,3],os:=[1] } [I64 (((i:Nat):Int)+1)] gamOK hT h (by kernel_rfl) ⟨⟨by first | omega | (simp only [lsA];omega) | (simp<;>omega),by first | omega | (simp only [lsA];omega) | (simp<;>omega)⟩,trivial⟩ fun a w h=>?_
      replace h:=at_out (σ':=⟨[(1,aP 1 0),(2,aB false),(3,aI (((i:Nat):Int)+1))],[(1,oX 97 [cI x0.1,cI x0.2.1,cI x0.2.2.1,cI x0.2.2.2.1,.ro s22 x0.2.2.2.2])]⟩) { ts:=[1,2,3],os:=[1] } h (by kernel_rfl)
      exact ⟨i+1,at_eq h (st_congr1 (fun (d0:Int)=>(⟨[(1,aP 1 0),(2,aB false),(3,aI d0)],[(1,oX 97 [cI x0.1,cI x0.2.1,cI x0.2.2.1,cI x0.2.2.2.1,.ro s22 x0.2.2.2.2])]⟩:St)) (show (((i:Nat):Int)+1:Int)=(((i+1):Nat):Int) from by first | with_reducible rfl | (omega) | rfl)),(by exact ⟨by omega,allTo1_succ hok0.2 (by exact decide_eq_true (by omega))⟩),(by omega)⟩
    ·replace h4 : ¬ (((i : Nat) : Int) < ((List.length x0.2.2.2.2 : Nat) : Int)) := of_decide_eq_false h4
     refine wp_exit (then_exit ?_)
     have hs7:(List.all x0.2.2.2.2 (fun r=>decide (LA.leadS r < x0.2.1)))=true:=by exact all_of (z:=[]) (i:=i) (by omega) hok0.2
     refine then_exit (in_hit (then_normal (wp_seq ?_)))
     refine at_regq [] { ts:=[2],os:=[] } [] gamOK hT h (by kernel_rfl) trivial fun a w h=>then_normal (wp_ret ?_)
     exact at_return (true,()) [] h (by kernel_rfl) trivial (congrArg (fun z=>(z,())) (show (true)=validD x0 from by first | rfl | (unfold validD;rw [if_pos (notF h1),if_pos (notF h2),if_pos h3,if_pos hs7];done) | (unfold validD;(repeat (first | rfl | split))<;>(first | rfl | omega | (simp_all [-List.all_eq_true,-List.any_eq_true,-List.all_eq_false,-List.any_eq_false,validBS_eq];done) | (simp_all [-List.all_eq_true,-List.any_eq_true,-List.all_eq_false,-List.any_eq_false,validBS_eq];omega) | (exfalso;simp_all [-List.all_eq_true,-List.any_eq_true,-List.all_eq_false,-List.any_eq_false,validBS_eq];omega)))))

def complD (x0:T97):Bool:=decide (((List.length x0.2.2.2.2:Nat):Int)=x0.2.1)
abbrev Q__impl_Decoder_complete:=(fun (x0:T97)=>Sh.fit s97 x0)
def S__impl_Decoder_complete:Sum:={ fid:=75,dom:=[s97],cod:=[(.bool 4)],dp:=true,fz:=false,pre:=fun x=>Q__impl_Decoder_complete x.1,g:=fun x=>((complD x.1),()) }
def S__impl_Decoder_complete_tab:List (Nat×Sum):=[]
theorem S__impl_Decoder_complete_ok:FnOK Try.prog 75 S__impl_Decoder_complete:=by
 refine at_enter 10 (fun x=>⟨[(0,aG [cI x.1.1,cI x.1.2.1,cI x.1.2.2.1,cI x.1.2.2.2.1,.ro s22 x.1.2.2.2.2])],[]⟩) Try.func75 rfl (by kernel_rfl) (fun x=>rfl) ?_
 rintro w0 Z0 ⟨x0,u⟩ a w
 revert x0
 intro (x0:T97) hpre hlens h
 replace hpre:Q__impl_Decoder_complete x0:=hpre
 have hT:TabOK Try.prog S__impl_Decoder_complete_tab:=.nil
 have hf0:Sh.fit s97 x0:=hpre
 have hn0_1:List.length x0.2.2.2.2≤1073741824:=hf0.2.2.2.2.1
 refine wp_seq ?_
 refine at_regq [{ ids:=[1] }] { ts:=[1,2],os:=[1] } [] gamOK hT h (by kernel_rfl) trivial fun a w h=>then_normal (wp_seq ?_)
 refine at_regq [] { ts:=[2],os:=[] } [] gamOK hT h (by kernel_rfl) trivial fun a w h=>then_normal (wp_ret ?_)
 exact at_return (decide (((List.length x0.2.2.2.2:Nat):Int)=x0.2.1),()) [] h (by kernel_rfl) trivial (congrArg (fun z=>(z,())) (show (decide (((List.length x0.2.2.2.2:Nat):Int)=x0.2.1))=complD x0 from by rfl))

def D_spec_MissingDegrees (x0:T97):Int:=(if (validD x0)=true then x0.2.1 - ((List.length x0.2.2.2.2:Nat):Int) else 0)
abbrev Q_spec_MissingDegrees:=(fun (x0:T97)=>Sh.fit s97 x0)
def S_spec_MissingDegrees:Sum:={ fid:=106,dom:=[s97],cod:=[(.int 3)],dp:=true,fz:=false,pre:=fun x=>Q_spec_MissingDegrees x.1,g:=fun x=>((D_spec_MissingDegrees x.1),()) }
def S_spec_MissingDegrees_tab:List (Nat×Sum):=[(61,S_spec_IsValidDecoder)]
theorem S_spec_MissingDegrees_ok:FnOK Try.prog 106 S_spec_MissingDegrees:=by
 refine at_enter 13 (fun x=>⟨[(0,aG [cI x.1.1,cI x.1.2.1,cI x.1.2.2.1,cI x.1.2.2.2.1,.ro s22 x.1.2.2.2.2])],[]⟩) Try.func106 rfl (by kernel_rfl) (fun x=>rfl) ?_
 rintro w0 Z0 ⟨x0,u⟩ a w
 revert x0
 intro (x0:T97) hpre hlens h
 replace hpre:Q_spec_MissingDegrees x0:=hpre
 have hT:TabOK Try.prog S_spec_MissingDegrees_tab:=(.cons S_spec_IsValidDecoder_ok .nil)
 have hf0:Sh.fit s97 x0:=hpre
 have hn0_1:List.length x0.2.2.2.2≤1073741824:=hf0.2.2.2.2.1
 refine wp_seq ?_
 refine at_regq [{ ids:=[1] }] { ts:=[1,2],os:=[1] } [] gamOK hT h (by kernel_rfl) trivial fun a w h=>then_normal (wp_seq (wp_seq ?_))
 refine at_regq [] { ts:=[1,2,5],os:=[1] } [Q_spec_IsValidDecoder x0] gamOK hT h (by kernel_rfl) ⟨(by exact hf0),trivial⟩ fun a w h=>then_normal ?_
 refine at_test (!(validD x0)) h (by kernel_rfl) (fun h1=>?_) (fun h1=>?_)
 ·replace h1 : (validD x0) = false := notT h1
  refine wp_seq ?_
  refine at_regq [] { ts:=[1,2],os:=[1] } [] gamOK hT h (by kernel_rfl) trivial fun a w h=>then_normal (wp_ret (then_ret ?_))
  exact at_return (0,()) [] h (by kernel_rfl) trivial (congrArg (fun z=>(z,())) (show (0)=D_spec_MissingDegrees x0 from by first | rfl | (unfold D_spec_MissingDegrees;rw [if_neg (neT h1)])))
 ·replace h1 : (validD x0) = true := notF h1
  have hvh1:=validD_t h1
  refine wp_skip (then_normal (wp_seq ?_))
  refine at_regq [{},{},{},{},{},{},{ nw:=true }] { ts:=[2],os:=[] } [I64 (x0.2.1 - ((List.length x0.2.2.2.2:Nat):Int))] gamOK hT h (by kernel_rfl) ⟨⟨by first | omega | (simp only [lsA];omega) | (simp<;>omega),by first | omega | (simp only [lsA];omega) | (simp<;>omega)⟩,trivial⟩ fun a w h=>then_normal (wp_ret ?_)
  exact at_return (x0.2.1 - ((List.length x0.2.2.2.2:Nat):Int),()) [] h (by kernel_rfl) trivial (congrArg (fun z=>(z,())) (show (x0.2.1 - ((List.length x0.2.2.2.2:Nat):Int))=D_spec_MissingDegrees x0 from by first | rfl | (unfold D_spec_MissingDegrees;rw [if_pos h1])))

def D_spec_IsComplete:=(fun d=>validD d && complD d)
abbrev Q_spec_IsComplete:=(fun (x0:T97)=>Sh.fit s97 x0)
def S_spec_IsComplete:Sum:={ fid:=62,dom:=[s97],cod:=[(.bool 4)],dp:=true,fz:=false,pre:=fun x=>Q_spec_IsComplete x.1,g:=fun x=>((D_spec_IsComplete x.1),()) }
def S_spec_IsComplete_tab:List (Nat×Sum):=[(61,S_spec_IsValidDecoder),(106,S_spec_MissingDegrees)]
theorem S_spec_IsComplete_ok:FnOK Try.prog 62 S_spec_IsComplete:=by
 refine at_enter 10 (fun x=>⟨[(0,aG [cI x.1.1,cI x.1.2.1,cI x.1.2.2.1,cI x.1.2.2.2.1,.ro s22 x.1.2.2.2.2])],[]⟩) Try.func62 rfl (by kernel_rfl) (fun x=>rfl) ?_
 rintro w0 Z0 ⟨x0,u⟩ a w
 revert x0
 intro (x0:T97) hpre hlens h
 replace hpre:Q_spec_IsComplete x0:=hpre
 have hT:TabOK Try.prog S_spec_IsComplete_tab:=(.cons S_spec_IsValidDecoder_ok (.cons S_spec_MissingDegrees_ok .nil))
 have hf0:Sh.fit s97 x0:=hpre
 have hn0_1:List.length x0.2.2.2.2≤1073741824:=hf0.2.2.2.2.1
 refine wp_seq ?_
 refine at_regq [{ ids:=[1] }] { ts:=[1,2],os:=[1] } [] gamOK hT h (by kernel_rfl) trivial fun a w h=>then_normal (wp_seq ?_)
 rcases Bool.eq_false_or_eq_true ((validD x0)) with h1 | h1
 ·have hvh1 := validD_t h1
  refine at_regq [{},{ hint:=some (aB true) }] { ts:=[2],os:=[] } [Q_spec_IsValidDecoder x0,(AV.p (.c (.v (.bool ((validD x0)))))=AV.p (.c (.v (.bool true)))),Q_spec_MissingDegrees x0] gamOK hT h (by kernel_rfl) ⟨(by exact hf0),hint_bool (h1),(by exact hf0),trivial⟩ fun a w h=>then_normal (wp_ret ?_)
  exact at_return (decide ((D_spec_MissingDegrees x0)=0),()) [] h (by kernel_rfl) trivial (congrArg (fun z=>(z,())) (show (decide ((D_spec_MissingDegrees x0)=0))=D_spec_IsComplete x0 from by unfold D_spec_IsComplete;(first | (rw [show validD x0=false by assumption];rfl) | (rw [show validD x0=true by assumption];unfold D_spec_MissingDegrees complD;rw [if_pos (by assumption),Bool.true_and,decide_eq_decide];omega))))
 ·refine at_regq [{}, { hint := some (aB false) }] { ts := [2], os := [] } [Q_spec_IsValidDecoder x0, (AV.p (.c (.v (.bool ((validD x0))))) = AV.p (.c (.v (.bool false))))] gamOK hT h (by kernel_rfl) ⟨(by exact hf0), hint_bool (h1), trivial⟩ fun a w h => then_normal (wp_ret ?_)
  exact at_return (false,()) [] h (by kernel_rfl) trivial (congrArg (fun z=>(z,())) (show (false)=D_spec_IsComplete x0 from by unfold D_spec_IsComplete;(first | (rw [show validD x0=false by assumption];rfl) | (rw [show validD x0=true by assumption];unfold D_spec_MissingDegrees complD;rw [if_pos (by assumption),Bool.true_and,decide_eq_decide];omega))))

def fitsS (x0:T31) (x1:Int) (x2:Int) (x3:Int):Bool:=(if (inR x1 0 (((List.length x0.2.2.1:Nat):Int) - 1))=true then (if x2=(x0.2.2.1.getD ((x1).toNat) 0) then decide (x3=x0.2.1) else false) else false)
abbrev Q__impl_Sink_fits:=(fun (x0:T31) (x1:Int) (x2:Int) (x3:Int)=>Sh.fit s31 x0)
def S__impl_Sink_fits:Sum:={ fid:=76,dom:=[s31,(.int 3),(.int 3),(.int 3)],cod:=[(.bool 4)],dp:=true,fz:=false,pre:=fun x=>Q__impl_Sink_fits x.1 x.2.1 x.2.2.1 x.2.2.2.1,g:=fun x=>((fitsS x.1 x.2.1 x.2.2.1 x.2.2.2.1),()) }
def S__impl_Sink_fits_tab:List (Nat×Sum):=[(73,S_impl_InRange)]
theorem S__impl_Sink_fits_ok:FnOK Try.prog 76 S__impl_Sink_fits:=by
 refine at_enter 30 (fun x=>⟨[(0,aG [cI x.1.1,cI x.1.2.1,.ro (.int 3) x.1.2.2.1,.ro s97 x.1.2.2.2.1,.ro s68 x.1.2.2.2.2.1,cI x.1.2.2.2.2.2]),(1,aI x.2.1),(2,aI x.2.2.1),(3,aI x.2.2.2.1)],[]⟩) Try.func76 rfl (by kernel_rfl) (fun x=>rfl) ?_
 rintro w0 Z0 ⟨x0,x1,x2,x3,u⟩ a w
 revert x0 x1 x2 x3
 intro (x0:T31) (x1:Int) (x2:Int) (x3:Int) hpre hlens h
 replace hpre:Q__impl_Sink_fits x0 x1 x2 x3:=hpre
 have hT:TabOK Try.prog S__impl_Sink_fits_tab:=(.cons S_impl_InRange_ok .nil)
 have hf0:Sh.fit s31 x0:=hpre
 have hn0_1:List.length x0.2.2.1≤1073741824:=hf0.2.2.1.1
 have hn0_2:List.length x0.2.2.2.1≤1073741824:=hf0.2.2.2.1.1
 have hn0_3:List.length x0.2.2.2.2.1≤1073741824:=hf0.2.2.2.2.1.1
 refine wp_seq ?_
 refine at_regq [{ ids:=[1] }] { ts:=[1,2,3,4,8],os:=[1] } [] gamOK hT h (by kernel_rfl) trivial fun a w h=>then_normal (wp_seq ?_)
 rcases Bool.eq_false_or_eq_true ((inR x1 0 (((List.length x0.2.2.1:Nat):Int) - 1))) with h1 | h1
 ·have hvh1 := inR_t h1
  by_cases h2:x2=(x0.2.2.1.getD ((x1).toNat) 0)
  ·refine at_regq [{}, {}, {}, {}, { nw := true }, { hint := some (aB true) }, {}, {}, {}, {}, {}, {}, {}, { hint := some (aB true) }] { ts := [8], os := [] } [I64 (((List.length x0.2.2.1 : Nat) : Int) - 1), True, (AV.p (.c (.v (.bool ((inR x1 0 (((List.length x0.2.2.1 : Nat) : Int) - 1)))))) = AV.p (.c (.v (.bool true)))), (0 : Int) ≤ x1 ∧ x1 < ((List.length x0.2.2.1 : Nat) : Int), (AV.p (.c (.v (.bool (decide (x2 = (x0.2.2.1.getD ((x1).toNat) 0)))))) = AV.p (.c (.v (.bool true))))] gamOK hT h (by kernel_rfl) ⟨⟨by first | omega | (simp only [lsA]; omega) | (simp <;> omega), by first | omega | (simp only [lsA]; omega) | (simp <;> omega)⟩, trivial, hint_bool (h1), (by refine ⟨?_, ?_⟩ <;> (first | omega | (simp only [lsA]; omega) | (simp <;> omega))), hint_bool (decide_eq_true h2), trivial⟩ fun a w h => then_normal (wp_ret ?_)
   exact at_return (decide (x3=x0.2.1),()) [] h (by kernel_rfl) trivial (congrArg (fun z=>(z,())) (show (decide (x3=x0.2.1))=fitsS x0 x1 x2 x3 from by first | rfl | (unfold fitsS;rw [if_pos h1,if_pos h2])))
  ·refine at_regq [{}, {}, {}, {}, { nw := true }, { hint := some (aB true) }, {}, {}, {}, {}, {}, {}, {}, { hint := some (aB false) }] { ts := [8], os := [] } [I64 (((List.length x0.2.2.1 : Nat) : Int) - 1), True, (AV.p (.c (.v (.bool ((inR x1 0 (((List.length x0.2.2.1 : Nat) : Int) - 1)))))) = AV.p (.c (.v (.bool true)))), (0 : Int) ≤ x1 ∧ x1 < ((List.length x0.2.2.1 : Nat) : Int), (AV.p (.c (.v (.bool (decide (x2 = (x0.2.2.1.getD ((x1).toNat) 0)))))) = AV.p (.c (.v (.bool false))))] gamOK hT h (by kernel_rfl) ⟨⟨by first | omega | (simp only [lsA]; omega) | (simp <;> omega), by first | omega | (simp only [lsA]; omega) | (simp <;> omega)⟩, trivial, hint_bool (h1), (by refine ⟨?_, ?_⟩ <;> (first | omega | (simp only [lsA]; omega) | (simp <;> omega))), hint_bool (decide_eq_false h2), trivial⟩ fun a w h => then_normal (wp_ret ?_)
   exact at_return (false,()) [] h (by kernel_rfl) trivial (congrArg (fun z=>(z,())) (show (false)=fitsS x0 x1 x2 x3 from by first | rfl | (unfold fitsS;rw [if_pos h1,if_neg h2])))
 ·have hvh1 := inR_f h1
  refine at_regq [{},{},{},{},{ nw:=true },{ hint:=some (aB false) }] { ts:=[8],os:=[] } [I64 (((List.length x0.2.2.1:Nat):Int) - 1),True,(AV.p (.c (.v (.bool ((inR x1 0 (((List.length x0.2.2.1:Nat):Int) - 1))))))=AV.p (.c (.v (.bool false))))] gamOK hT h (by kernel_rfl) ⟨⟨by first | omega | (simp only [lsA];omega) | (simp<;>omega),by first | omega | (simp only [lsA];omega) | (simp<;>omega)⟩,trivial,hint_bool (h1),trivial⟩ fun a w h=>then_normal (wp_ret ?_)
  exact at_return (false,()) [] h (by kernel_rfl) trivial (congrArg (fun z=>(z,())) (show (false)=fitsS x0 x1 x2 x3 from by first | rfl | (unfold fitsS;rw [if_neg (neT h1)])))
theorem allN_and {P Q:Nat→Bool}:∀ {n:Nat},allN (fun i=>P i && Q i) n=(allN P n && allN Q n)
 | 0=>rfl
 | n + 1 => by
  simp only [allN];rw [allN_and (n:=n)]
  cases allN P n<;>cases allN Q n<;>cases P n<;>cases Q n<;>rfl
def decB (s:T31) (i:Nat):Bool:=(validD (s.2.2.2.1.getD i (0,(0,(0,(0,[]))))) && (!complD (s.2.2.2.1.getD i (0,(0,(0,(0,[]))))) && fitsS s (s.2.2.2.1.getD i (0,(0,(0,(0,[]))))).1 (s.2.2.2.1.getD i (0,(0,(0,(0,[]))))).2.1 (s.2.2.2.1.getD i (0,(0,(0,(0,[]))))).2.2.1)) && ordB (fun x=>x.1) (0,(0,(0,(0,[])))) s.2.2.2.1 i
def genB (s:T31) (i:Nat):Bool:=(validG (s.2.2.2.2.1.getD i (0,[])) && fitsS s (s.2.2.2.2.1.getD i (0,[])).1 ((List.length (s.2.2.2.2.1.getD i (0,[])).2:Nat):Int) (colsOf (s.2.2.2.2.1.getD i (0,[])).2)) && ordB (fun x=>x.1) (0,[]) s.2.2.2.2.1 i
def opnB (s:T31) (j:Nat):Bool:=!fndK (fun x=>x.1) (0,(0,(0,(0,[])))) s.2.2.2.1 (s.2.2.2.2.1.getD j (0,[])).1
def clsB (s:T31) (i:Nat):Bool:=!(s.2.2.2.2.1.any fun g=>decide (g.1=(s.2.2.2.1.getD i (0,(0,(0,(0,[]))))).1))
def headS (s:T31):Bool:=inR s.1 0 7 && (inR s.2.1 1 16 && (D_spec_l30Sizes s.2.2.1 && (decide (List.length s.2.2.2.1≤4) && inR s.2.2.2.2.2 0 ((List.length s.2.2.2.2.1:Nat):Int))))
def validS (s:T31):Bool:=headS s && (allN (decB s) (List.length s.2.2.2.1) && (allN (genB s) (List.length s.2.2.2.2.1) && allN (opnB s) (List.length s.2.2.2.2.1)))
theorem opnB_t {s:T31} {j:Nat} (h:fndK (fun x=>x.1) (0,(0,(0,(0,[])))) s.2.2.2.1 (s.2.2.2.2.1.getD j (0,[])).1=false):opnB s j=true:=by unfold opnB;rw [h];rfl
theorem opnB_f {s:T31} {j:Nat} (h:fndK (fun x=>x.1) (0,(0,(0,(0,[])))) s.2.2.2.1 (s.2.2.2.2.1.getD j (0,[])).1=true):opnB s j=false:=by unfold opnB;rw [h];rfl
theorem clsB_t {s:T31} {i:Nat} (h:(s.2.2.2.2.1.any fun g=>decide (g.1=(s.2.2.2.1.getD i (0,(0,(0,(0,[]))))).1))=false):clsB s i=true:=by unfold clsB;rw [h];rfl
theorem isC_f {d:T97} (h:(validD d && complD d)=false) (hv:validD d=true):complD d=false:=by rw [hv,Bool.true_and] at h;exact h
theorem decB_t {s:T31} {i:Nat} (h1:validD (s.2.2.2.1.getD i (0,(0,(0,(0,[])))))=true) (h2:complD (s.2.2.2.1.getD i (0,(0,(0,(0,[])))))=false) (h3:fitsS s (s.2.2.2.1.getD i (0,(0,(0,(0,[]))))).1 (s.2.2.2.1.getD i (0,(0,(0,(0,[]))))).2.1 (s.2.2.2.1.getD i (0,(0,(0,(0,[]))))).2.2.1=true) (h4:i=0∨(s.2.2.2.1.getD (((i:Nat):Int) - 1).toNat (0,(0,(0,(0,[]))))).1 < (s.2.2.2.1.getD i (0,(0,(0,(0,[]))))).1):decB s i=true:=by
 unfold decB;rw [h1,h2,h3,ordB_t h4];rfl
theorem decB_f {s:T31} {i:Nat} (h:validD (s.2.2.2.1.getD i (0,(0,(0,(0,[])))))=false∨complD (s.2.2.2.1.getD i (0,(0,(0,(0,[])))))=true∨fitsS s (s.2.2.2.1.getD i (0,(0,(0,(0,[]))))).1 (s.2.2.2.1.getD i (0,(0,(0,(0,[]))))).2.1 (s.2.2.2.1.getD i (0,(0,(0,(0,[]))))).2.2.1=false∨(0 < i∧(s.2.2.2.1.getD i (0,(0,(0,(0,[]))))).1≤(s.2.2.2.1.getD (((i:Nat):Int) - 1).toNat (0,(0,(0,(0,[]))))).1)):decB s i=false:=by
 unfold decB
 rcases h with h | h | h | h
 ·rw [h];rfl
 ·rw [h];simp
 ·rw [h];simp
 ·rw [ordB_f h,Bool.and_false]
theorem genB_t {s:T31} {i:Nat} (h1:validG (s.2.2.2.2.1.getD i (0,[]))=true) (h3:fitsS s (s.2.2.2.2.1.getD i (0,[])).1 ((List.length (s.2.2.2.2.1.getD i (0,[])).2:Nat):Int) (colsOf (s.2.2.2.2.1.getD i (0,[])).2)=true) (h4:i=0∨(s.2.2.2.2.1.getD (((i:Nat):Int) - 1).toNat (0,[])).1 < (s.2.2.2.2.1.getD i (0,[])).1):genB s i=true:=by
 unfold genB;rw [h1,h3,ordB_t h4];rfl
theorem genB_f {s:T31} {i:Nat} (h:validG (s.2.2.2.2.1.getD i (0,[]))=false∨fitsS s (s.2.2.2.2.1.getD i (0,[])).1 ((List.length (s.2.2.2.2.1.getD i (0,[])).2:Nat):Int) (colsOf (s.2.2.2.2.1.getD i (0,[])).2)=false∨(0 < i∧(s.2.2.2.2.1.getD i (0,[])).1≤(s.2.2.2.2.1.getD (((i:Nat):Int) - 1).toNat (0,[])).1)):genB s i=false:=by
 unfold genB
 rcases h with h | h | h
 ·rw [h];rfl
 ·rw [h];simp
 ·rw [ordB_f h,Bool.and_false]
theorem and_t {a b:Bool} (ha:a=true) (hb:b=true):(a && b)=true:=by rw [ha,hb];rfl
theorem and_f {a b:Bool} (h:a=false∨b=false):(a && b)=false:=by rcases h with h | h<;>rw [h]<;>simp
theorem dec_srt {s:T31} (h:allN (decB s) (List.length s.2.2.2.1)=true):srtK (fun x=>x.1) (0,(0,(0,(0,[])))) s.2.2.2.1:=srt_ord fun i hi=>by
 have:=allN_iff.1 h i hi
 unfold decB at this;rw [Bool.and_eq_true] at this;exact this.2
theorem gen_srt {s:T31} (h:allN (genB s) (List.length s.2.2.2.2.1)=true):srtK (fun x=>x.1) (0,[]) s.2.2.2.2.1:=srt_ord fun i hi=>by
 have:=allN_iff.1 h i hi
 unfold genB at this;rw [Bool.and_eq_true] at this;exact this.2
theorem opn_cls {s:T31} (h:allN (decB s) (List.length s.2.2.2.1)=true):allN (opnB s) (List.length s.2.2.2.2.1)=allN (clsB s) (List.length s.2.2.2.1):=by
 rw [Bool.eq_iff_iff,allN_iff,allN_iff]
 constructor
 ·intro ho i hi
  unfold clsB;rw [Bool.not_eq_true'];rw [Bool.eq_false_iff];intro ha
  obtain ⟨g,hg,he⟩:=List.any_eq_true.1 ha
  obtain ⟨j,hj,rfl⟩:=List.getElem_of_mem hg
  have h1:=ho j hj
  unfold opnB at h1
  rw [getD_of_lt hj,fndK_at (dec_srt h) hi (of_decide_eq_true he).symm] at h1
  cases h1
 ·intro hc j hj
  unfold opnB;rw [Bool.not_eq_true'];rw [Bool.eq_false_iff];intro hf
  obtain ⟨h1,h2⟩:=fndK_t hf
  have h3:=hc _ h1
  unfold clsB at h3
  rw [Bool.not_eq_true',List.any_eq_false] at h3
  exact h3 _ (getD_mem (z:=(0,[])) hj) (decide_eq_true h2.symm)
theorem newSink_w (a b:Int) (l:List Int):(newSink a b l).2.1=0↔(inR a 0 7 && (inR b 1 16 && D_spec_l30Sizes l))=false:=by
 unfold newSink D_spec_l30Sizes
 by_cases h1:inR a 0 7=true
 ·by_cases h2 : inR b 1 16 = true
  ·have hb := inR_t h2
   rw [if_pos h1,if_pos h2,h1,h2]
   simp only [Bool.true_and]
   (repeat' split)<;>simp_all [D_slices_ContainsFunc_S_int_int__NewSink_1,any_not]<;>omega
  ·rw [if_pos h1,if_neg h2];simp [h2]
 ·rw [if_neg h1];simp [h1]
theorem headS_y {s:T31} (h1:¬ (newSink s.1 s.2.1 s.2.2.1).2.1=0) (h2:List.length s.2.2.2.1≤4) (h3:inR s.2.2.2.2.2 0 ((List.length s.2.2.2.2.1:Nat):Int)=true):headS s=true:=by
 rw [newSink_w,Bool.not_eq_false,Bool.and_eq_true,Bool.and_eq_true] at h1
 unfold headS;rw [h1.1,h1.2.1,h1.2.2,decide_eq_true h2,h3];rfl
theorem headS_n {s:T31} (h:(newSink s.1 s.2.1 s.2.2.1).2.1=0∨¬ List.length s.2.2.2.1≤4∨inR s.2.2.2.2.2 0 ((List.length s.2.2.2.2.1:Nat):Int)=false):headS s=false:=by
 unfold headS
 rcases h with h | h | h
 ·rw [newSink_w] at h
  revert h
  cases inR s.1 0 7<;>cases inR s.2.1 1 16<;>cases D_spec_l30Sizes s.2.2.1<;>simp
 ·rw [decide_eq_false h];simp
 ·rw [h];simp
theorem headS_y2 {s:T31} (h0:inR s.1 0 7=true) (h1:inR s.2.1 1 16=true) (h4:D_spec_l30Sizes s.2.2.1=true) (h2:List.length s.2.2.2.1≤4) (h3:inR s.2.2.2.2.2 0 ((List.length s.2.2.2.2.1:Nat):Int)=true):headS s=true:=by
 unfold headS;rw [h0,h1,h4,decide_eq_true h2,h3];rfl
theorem headS_n2 {s:T31} (h:inR s.1 0 7=false∨inR s.2.1 1 16=false∨D_spec_l30Sizes s.2.2.1=false∨¬ List.length s.2.2.2.1≤4∨inR s.2.2.2.2.2 0 ((List.length s.2.2.2.2.1:Nat):Int)=false):headS s=false:=by
 unfold headS
 rcases h with h | h | h | h | h
 ·rw [h];simp
 ·rw [h];simp
 ·rw [h];simp
 ·rw [decide_eq_false h];simp
 ·rw [h];simp
theorem validS_impl {s:T31} (h:allN (decB s) (List.length s.2.2.2.1)=true) (h0:headS s=true):allN (fun j=>genB s j && opnB s j) (List.length s.2.2.2.2.1)=validS s:=by
 unfold validS;rw [h,h0,allN_and];rfl
theorem validS_spec {s:T31} (h:allN (fun i=>decB s i && clsB s i) (List.length s.2.2.2.1)=true) (h0:headS s=true):allN (genB s) (List.length s.2.2.2.2.1)=validS s:=by
 rw [allN_and,Bool.and_eq_true] at h
 unfold validS;rw [h.1,h0,opn_cls h.1,h.2,Bool.and_true];rfl
theorem validS_no {s:T31} (h:headS s=false∨allN (decB s) (List.length s.2.2.2.1)=false∨allN (fun i=>decB s i && clsB s i) (List.length s.2.2.2.1)=false):false=validS s:=by
 unfold validS
 rcases h with h | h | h
 ·rw [h];rfl
 ·rw [h];simp
 ·rw [allN_and] at h
  cases hd:allN (decB s) (List.length s.2.2.2.1) with
  | false=>simp
  | true=>rw [hd,Bool.true_and] at h;rw [opn_cls hd,h];simp
theorem validS_t {s:T31} (h:validS s=true):headS s=true∧allN (decB s) (List.length s.2.2.2.1)=true∧allN (genB s) (List.length s.2.2.2.2.1)=true∧allN (opnB s) (List.length s.2.2.2.2.1)=true:=by
 unfold validS at h
 rw [Bool.and_eq_true,Bool.and_eq_true,Bool.and_eq_true] at h
 exact h

abbrev Q_spec_l30Fits:=(fun (x0:T31) (x1:Int) (x2:Int) (x3:Int)=>Sh.fit s31 x0)
def S_spec_l30Fits:Sum:={ fid:=63,dom:=[s31,(.int 3),(.int 3),(.int 3)],cod:=[(.bool 4)],dp:=true,fz:=false,pre:=fun x=>Q_spec_l30Fits x.1 x.2.1 x.2.2.1 x.2.2.2.1,g:=fun x=>((fitsS x.1 x.2.1 x.2.2.1 x.2.2.2.1),()) }
def S_spec_l30Fits_tab:List (Nat×Sum):=[(59,S_spec_l1In)]
theorem S_spec_l30Fits_ok:FnOK Try.prog 63 S_spec_l30Fits:=by
 refine at_enter 30 (fun x=>⟨[(0,aG [cI x.1.1,cI x.1.2.1,.ro (.int 3) x.1.2.2.1,.ro s97 x.1.2.2.2.1,.ro s68 x.1.2.2.2.2.1,cI x.1.2.2.2.2.2]),(1,aI x.2.1),(2,aI x.2.2.1),(3,aI x.2.2.2.1)],[]⟩) Try.func63 rfl (by kernel_rfl) (fun x=>rfl) ?_
 rintro w0 Z0 ⟨x0,x1,x2,x3,u⟩ a w
 revert x0 x1 x2 x3
 intro (x0:T31) (x1:Int) (x2:Int) (x3:Int) hpre hlens h
 replace hpre:Q_spec_l30Fits x0 x1 x2 x3:=hpre
 have hT:TabOK Try.prog S_spec_l30Fits_tab:=(.cons S_spec_l1In_ok .nil)
 have hf0:Sh.fit s31 x0:=hpre
 have hn0_1:List.length x0.2.2.1≤1073741824:=hf0.2.2.1.1
 have hn0_2:List.length x0.2.2.2.1≤1073741824:=hf0.2.2.2.1.1
 have hn0_3:List.length x0.2.2.2.2.1≤1073741824:=hf0.2.2.2.2.1.1
 refine wp_seq ?_
 refine at_regq [{ ids:=[1] }] { ts:=[1,2,3,4,8],os:=[1] } [] gamOK hT h (by kernel_rfl) trivial fun a w h=>then_normal (wp_seq ?_)
 rcases Bool.eq_false_or_eq_true ((inR x1 0 (((List.length x0.2.2.1:Nat):Int) - 1))) with h1 | h1
 ·have hvh1 := inR_t h1
  by_cases h2:(x0.2.2.1.getD ((x1).toNat) 0)=x2
  ·refine at_regq [{}, {}, {}, {}, { nw := true }, { hint := some (aB true) }, {}, {}, {}, {}, {}, {}, {}, { hint := some (aB true) }] { ts := [8], os := [] } [I64 (((List.length x0.2.2.1 : Nat) : Int) - 1), True, (AV.p (.c (.v (.bool ((inR x1 0 (((List.length x0.2.2.1 : Nat) : Int) - 1)))))) = AV.p (.c (.v (.bool true)))), (0 : Int) ≤ x1 ∧ x1 < ((List.length x0.2.2.1 : Nat) : Int), (AV.p (.c (.v (.bool (decide ((x0.2.2.1.getD ((x1).toNat) 0) = x2))))) = AV.p (.c (.v (.bool true))))] gamOK hT h (by kernel_rfl) ⟨⟨by first | omega | (simp only [lsA]; omega) | (simp <;> omega), by first | omega | (simp only [lsA]; omega) | (simp <;> omega)⟩, trivial, hint_bool (h1), (by refine ⟨?_, ?_⟩ <;> (first | omega | (simp only [lsA]; omega) | (simp <;> omega))), hint_bool (decide_eq_true h2), trivial⟩ fun a w h => then_normal (wp_ret ?_)
   exact at_return (decide (x3=x0.2.1),()) [] h (by kernel_rfl) trivial (congrArg (fun z=>(z,())) (show (decide (x3=x0.2.1))=fitsS x0 x1 x2 x3 from by first | rfl | (unfold fitsS;rw [if_pos h1,if_pos h2];done) | (unfold fitsS;(simp_all;try (intro e;exact absurd e.symm (by assumption))))))
  ·refine at_regq [{}, {}, {}, {}, { nw := true }, { hint := some (aB true) }, {}, {}, {}, {}, {}, {}, {}, { hint := some (aB false) }] { ts := [8], os := [] } [I64 (((List.length x0.2.2.1 : Nat) : Int) - 1), True, (AV.p (.c (.v (.bool ((inR x1 0 (((List.length x0.2.2.1 : Nat) : Int) - 1)))))) = AV.p (.c (.v (.bool true)))), (0 : Int) ≤ x1 ∧ x1 < ((List.length x0.2.2.1 : Nat) : Int), (AV.p (.c (.v (.bool (decide ((x0.2.2.1.getD ((x1).toNat) 0) = x2))))) = AV.p (.c (.v (.bool false))))] gamOK hT h (by kernel_rfl) ⟨⟨by first | omega | (simp only [lsA]; omega) | (simp <;> omega), by first | omega | (simp only [lsA]; omega) | (simp <;> omega)⟩, trivial, hint_bool (h1), (by refine ⟨?_, ?_⟩ <;> (first | omega | (simp only [lsA]; omega) | (simp <;> omega))), hint_bool (decide_eq_false h2), trivial⟩ fun a w h => then_normal (wp_ret ?_)
   exact at_return (false,()) [] h (by kernel_rfl) trivial (congrArg (fun z=>(z,())) (show (false)=fitsS x0 x1 x2 x3 from by first | rfl | (unfold fitsS;rw [if_pos h1,if_neg h2];done) | (unfold fitsS;(simp_all;try (intro e;exact absurd e.symm (by assumption))))))
 ·have hvh1 := inR_f h1
  refine at_regq [{},{},{},{},{ nw:=true },{ hint:=some (aB false) }] { ts:=[8],os:=[] } [I64 (((List.length x0.2.2.1:Nat):Int) - 1),True,(AV.p (.c (.v (.bool ((inR x1 0 (((List.length x0.2.2.1:Nat):Int) - 1))))))=AV.p (.c (.v (.bool false))))] gamOK hT h (by kernel_rfl) ⟨⟨by first | omega | (simp only [lsA];omega) | (simp<;>omega),by first | omega | (simp only [lsA];omega) | (simp<;>omega)⟩,trivial,hint_bool (h1),trivial⟩ fun a w h=>then_normal (wp_ret ?_)
  exact at_return (false,()) [] h (by kernel_rfl) trivial (congrArg (fun z=>(z,())) (show (false)=fitsS x0 x1 x2 x3 from by first | rfl | (unfold fitsS;rw [if_neg (neT h1)];done) | (unfold fitsS;(simp_all;try (intro e;exact absurd e.symm (by assumption))))))

def D__impl_Sink_decoderAt_1:=(fun (x:T97) (g:Int)=>cmpI x.1 g)
abbrev Q__impl_Sink_decoderAt_1:=(fun (x0:T97) (x1:Int)=>Sh.fit s97 x0)
def S__impl_Sink_decoderAt_1:Sum:={ fid:=120,dom:=[s97,(.int 3)],cod:=[(.int 3)],dp:=true,fz:=false,pre:=fun x=>Q__impl_Sink_decoderAt_1 x.1 x.2.1,g:=fun x=>((D__impl_Sink_decoderAt_1 x.1 x.2.1),()) }
def S__impl_Sink_decoderAt_1_tab:List (Nat×Sum):=[(121,S_cmp_Compare_int_)]
theorem S__impl_Sink_decoderAt_1_ok:FnOK Try.prog 120 S__impl_Sink_decoderAt_1:=by
 refine at_enter 9 (fun x=>⟨[(0,aG [cI x.1.1,cI x.1.2.1,cI x.1.2.2.1,cI x.1.2.2.2.1,.ro s22 x.1.2.2.2.2]),(1,aI x.2.1)],[]⟩) Try.func120 rfl (by kernel_rfl) (fun x=>rfl) ?_
 rintro w0 Z0 ⟨x0,x1,u⟩ a w
 revert x0 x1
 intro (x0:T97) (x1:Int) hpre hlens h
 replace hpre:Q__impl_Sink_decoderAt_1 x0 x1:=hpre
 have hT:TabOK Try.prog S__impl_Sink_decoderAt_1_tab:=(.cons S_cmp_Compare_int__ok .nil)
 have hf0:Sh.fit s97 x0:=hpre
 have hn0_1:List.length x0.2.2.2.2≤1073741824:=hf0.2.2.2.2.1
 refine wp_seq ?_
 refine at_regq [{ ids:=[1] }] { ts:=[1,2,4],os:=[1] } [] gamOK hT h (by kernel_rfl) trivial fun a w h=>then_normal (wp_seq ?_)
 refine at_regq [] { ts:=[4],os:=[] } [True] gamOK hT h (by kernel_rfl) ⟨trivial,trivial⟩ fun a w h=>then_normal (wp_ret ?_)
 exact at_return ((cmpI x0.1 x1),()) [] h (by kernel_rfl) trivial (congrArg (fun z=>(z,())) (show ((cmpI x0.1 x1))=D__impl_Sink_decoderAt_1 x0 x1 from by unfold D__impl_Sink_decoderAt_1;rfl))

def D_slices_BinarySearchFunc_S_impl_Decoder_impl_Decoder_int__decoderAt_1:=(fun (xs:List T97) (v:Int) (_:Unit)=>(((bsK (fun x=>x.1) (0,(0,(0,(0,[])))) xs v:Nat):Int),fndK (fun x=>x.1) (0,(0,(0,(0,[])))) xs v))
abbrev Q_slices_BinarySearchFunc_S_impl_Decoder_impl_Decoder_int__decoderAt_1:=(fun (x0:(List T97)) (x1:Int) (x2:Unit)=>Sh.fit s28 x0)
def S_slices_BinarySearchFunc_S_impl_Decoder_impl_Decoder_int__decoderAt_1:Sum:={ fid:=119,dom:=[s28,(.int 3),(.fn0 120)],cod:=[(.int 3),(.bool 4)],dp:=true,fz:=false,pre:=fun x=>Q_slices_BinarySearchFunc_S_impl_Decoder_impl_Decoder_int__decoderAt_1 x.1 x.2.1 x.2.2.1,g:=fun x=>((D_slices_BinarySearchFunc_S_impl_Decoder_impl_Decoder_int__decoderAt_1 x.1 x.2.1 x.2.2.1).1,((D_slices_BinarySearchFunc_S_impl_Decoder_impl_Decoder_int__decoderAt_1 x.1 x.2.1 x.2.2.1).2,())) }
def S_slices_BinarySearchFunc_S_impl_Decoder_impl_Decoder_int__decoderAt_1_tab:List (Nat×Sum):=[(120,S__impl_Sink_decoderAt_1)]
theorem S_slices_BinarySearchFunc_S_impl_Decoder_impl_Decoder_int__decoderAt_1_ok:FnOK Try.prog 119 S_slices_BinarySearchFunc_S_impl_Decoder_impl_Decoder_int__decoderAt_1:=by
 refine at_enter 49 (fun x=>⟨[(0,aF s97 x.1),(1,aI x.2.1),(2,.p (.c (.cl 120 .cnil)))],[]⟩) Try.func119 rfl (by kernel_rfl) (fun x=>rfl) ?_
 rintro w0 Z0 ⟨x0,x1,x2,u⟩ a w
 revert x0 x1 x2
 intro (x0:(List T97)) (x1:Int) (x2:Unit) hpre hlens h
 replace hpre:Q_slices_BinarySearchFunc_S_impl_Decoder_impl_Decoder_int__decoderAt_1 x0 x1 x2:=hpre
 have hT:TabOK Try.prog S_slices_BinarySearchFunc_S_impl_Decoder_impl_Decoder_int__decoderAt_1_tab:=(.cons S__impl_Sink_decoderAt_1_ok .nil)
 have hf0:Sh.fit s28 x0:=hpre
 have hn0_1:List.length x0≤1073741824:=hf0.1
 refine wp_seq ?_
 refine at_regq [] { ts:=[0,1,2,6,7],os:=[] } [] gamOK hT h (by kernel_rfl) trivial fun a w h=>then_normal (wp_seq ?_)
 refine at_regq [] { ts:=[0,1,2,6,7,8],os:=[] } [] gamOK hT h (by kernel_rfl) trivial fun a w h=>then_normal (wp_seq ?_)
 refine at_regq [] { ts:=[0,1,2,6,7,8,9,10],os:=[] } [] gamOK hT h (by kernel_rfl) trivial fun a w h=>then_normal (wp_seq (wp_block ?_))
 replace h:=at_out (σ':=⟨[(0,aF s97 x0),(1,aI x1),(2,.p (.c (.cl 120 .cnil))),(6,aI 0),(7,aB false),(8,aI ((List.length x0:Nat):Int)),(9,aI 0),(10,aI ((List.length x0:Nat):Int))],[]⟩) { ts:=[0,1,2,6,7,8,9,10],os:=[] } h (by kernel_rfl)
 refine at_loop (fun q:(Nat×Nat)=>(⟨[(0,aF s97 x0),(1,aI x1),(2,.p (.c (.cl 120 .cnil))),(6,aI 0),(7,aB false),(8,aI ((List.length x0:Nat):Int)),(9,aI ((q.1:Nat):Int)),(10,aI ((q.2:Nat):Int))],[]⟩:St)) (fun q=>(q.1≤q.2∧q.2≤List.length x0∧bsF (ltK (fun x=>x.1) (0,(0,(0,(0,[])))) x0 x1) q.1 q.2=bsF (ltK (fun x=>x.1) (0,(0,(0,(0,[])))) x0 x1) 0 (List.length x0))) (fun q=>q.2 - q.1) ((0,List.length x0)) h (st_congr2 (fun (d0:Int) (d1:Int)=>(⟨[(0,aF s97 x0),(1,aI x1),(2,.p (.c (.cl 120 .cnil))),(6,aI 0),(7,aB false),(8,aI ((List.length x0:Nat):Int)),(9,aI d0),(10,aI d1)],[]⟩:St)) (show (0:Int)=((((0,List.length x0)).1:Nat):Int) from by first | with_reducible rfl | (rfl) | rfl) (show (((List.length x0:Nat):Int):Int)=((((0,List.length x0)).2:Nat):Int) from by first | with_reducible rfl | (rfl) | rfl)) (by exact ⟨Nat.zero_le _,Nat.le_refl _,rfl⟩) ?_
 intro q a w hok0 h
 refine wp_seq (wp_seq ?_)
 refine at_regq [] { ts:=[0,1,2,6,7,8,9,10,17],os:=[] } [] gamOK hT h (by kernel_rfl) trivial fun a w h=>then_normal ?_
 refine at_test (decide (((q.1:Nat):Int) < ((q.2:Nat):Int))) h (by kernel_rfl) (fun h1=>?_) (fun h1=>?_)
 ·replace h1 : ((q.1 : Nat) : Int) < ((q.2 : Nat) : Int) := of_decide_eq_true h1
  refine wp_skip (then_normal (wp_block (wp_seq ?_)))
  refine at_regq [{},{},{ nw:=true },{},{},{ hint:=some (aI (((q.1+q.2) / 2:Nat):Int)) }] { ts:=[0,1,2,6,7,8,9,10,11],os:=[] } [I64 (((q.1:Nat):Int)+((q.2:Nat):Int)),(0:Int)≤1,(AV.p (.c (.v (.int .i64 (IntKind.i64.wrap ((Int.fdiv (IntKind.u64.wrap (((q.1:Nat):Int)+((q.2:Nat):Int))) (2 ^ (min (1:Int).toNat (IntKind.u64).bits))))))))=AV.p (.c (.v (.int .i64 ((((q.1+q.2) / 2:Nat):Int))))))] gamOK hT h (by kernel_rfl) ⟨⟨by first | omega | (simp only [lsA];omega) | (simp<;>omega),by first | omega | (simp only [lsA];omega) | (simp<;>omega)⟩,(by first | omega | (simp only [lsA];omega) | (simp<;>omega)),hint_int (by exact half_eq (by omega)),trivial⟩ fun a w h=>then_normal (wp_seq ?_)
  refine at_regq [] { ts:=[0,1,2,6,7,8,9,10,11,31],os:=[] } [(0:Int)≤(((q.1+q.2) / 2:Nat):Int)∧(((q.1+q.2) / 2:Nat):Int) < ((List.length x0:Nat):Int),Q__impl_Sink_decoderAt_1 (x0.getD ((q.1+q.2) / 2) (0,(0,(0,(0,[]))))) x1] gamOK hT h (by kernel_rfl) ⟨(by refine ⟨?_,?_⟩<;>(first | omega | (simp only [lsA];omega) | (simp<;>omega))),(by exact (Sh.fit_getD hf0 ((q.1+q.2) / 2))),trivial⟩ fun a w h=>then_normal ?_
  refine at_test (decide ((D__impl_Sink_decoderAt_1 (x0.getD ((q.1+q.2) / 2) (0,(0,(0,(0,[]))))) x1) < 0)) h (by kernel_rfl) (fun h2=>?_) (fun h2=>?_)
  ·replace h2 : (D__impl_Sink_decoderAt_1 (x0.getD ((q.1 + q.2) / 2) (0, (0, (0, (0, []))))) x1) < 0 := of_decide_eq_true h2
   refine at_regq [{},{ nw:=true }] { ts:=[0,1,2,6,7,8,9,10],os:=[] } [I64 ((((q.1+q.2) / 2:Nat):Int)+1)] gamOK hT h (by kernel_rfl) ⟨⟨by first | omega | (simp only [lsA];omega) | (simp<;>omega),by first | omega | (simp only [lsA];omega) | (simp<;>omega)⟩,trivial⟩ fun a w h=>in_normal ?_
   replace h:=at_out (σ':=⟨[(0,aF s97 x0),(1,aI x1),(2,.p (.c (.cl 120 .cnil))),(6,aI 0),(7,aB false),(8,aI ((List.length x0:Nat):Int)),(9,aI ((((q.1+q.2) / 2:Nat):Int)+1)),(10,aI ((q.2:Nat):Int))],[]⟩) { ts:=[0,1,2,6,7,8,9,10],os:=[] } h (by kernel_rfl)
   exact ⟨((q.1+q.2) / 2+1,q.2),at_eq h (st_congr2 (fun (d0:Int) (d1:Int)=>(⟨[(0,aF s97 x0),(1,aI x1),(2,.p (.c (.cl 120 .cnil))),(6,aI 0),(7,aB false),(8,aI ((List.length x0:Nat):Int)),(9,aI d0),(10,aI d1)],[]⟩:St)) (show ((((q.1+q.2) / 2:Nat):Int)+1:Int)=(((((q.1+q.2) / 2+1,q.2)).1:Nat):Int) from by first | with_reducible rfl | (dsimp only;omega) | rfl) (show (((q.2:Nat):Int):Int)=(((((q.1+q.2) / 2+1,q.2)).2:Nat):Int) from by first | with_reducible rfl | (dsimp only;omega) | rfl)),(by dsimp only;first | (refine ⟨by omega,by omega,?_⟩;exact (bsF_up (by omega) (show ltK (fun x=>x.1) (0,(0,(0,(0,[])))) x0 x1 _=true from decide_eq_true (cmpI_lt.1 (by assumption)))).symm.trans hok0.2.2) | (refine ⟨by omega,by omega,?_⟩;exact (bsF_down (by omega) (show ltK (fun x=>x.1) (0,(0,(0,(0,[])))) x0 x1 _=false from decide_eq_false (fun e=>absurd (cmpI_lt.2 e) (by assumption)))).symm.trans hok0.2.2)),(by dsimp only;omega)⟩
  ·replace h2 : ¬ ((D__impl_Sink_decoderAt_1 (x0.getD ((q.1 + q.2) / 2) (0, (0, (0, (0, []))))) x1) < 0) := of_decide_eq_false h2
   refine at_regq [] { ts:=[0,1,2,6,7,8,9,10],os:=[] } [] gamOK hT h (by kernel_rfl) trivial fun a w h=>in_normal ?_
   replace h:=at_out (σ':=⟨[(0,aF s97 x0),(1,aI x1),(2,.p (.c (.cl 120 .cnil))),(6,aI 0),(7,aB false),(8,aI ((List.length x0:Nat):Int)),(9,aI ((q.1:Nat):Int)),(10,aI (((q.1+q.2) / 2:Nat):Int))],[]⟩) { ts:=[0,1,2,6,7,8,9,10],os:=[] } h (by kernel_rfl)
   exact ⟨(q.1,(q.1+q.2) / 2),at_eq h (st_congr2 (fun (d0:Int) (d1:Int)=>(⟨[(0,aF s97 x0),(1,aI x1),(2,.p (.c (.cl 120 .cnil))),(6,aI 0),(7,aB false),(8,aI ((List.length x0:Nat):Int)),(9,aI d0),(10,aI d1)],[]⟩:St)) (show (((q.1:Nat):Int):Int)=((((q.1,(q.1+q.2) / 2)).1:Nat):Int) from by first | with_reducible rfl | (dsimp only;omega) | rfl) (show ((((q.1+q.2) / 2:Nat):Int):Int)=((((q.1,(q.1+q.2) / 2)).2:Nat):Int) from by first | with_reducible rfl | (dsimp only;omega) | rfl)),(by dsimp only;first | (refine ⟨by omega,by omega,?_⟩;exact (bsF_up (by omega) (show ltK (fun x=>x.1) (0,(0,(0,(0,[])))) x0 x1 _=true from decide_eq_true (cmpI_lt.1 (by assumption)))).symm.trans hok0.2.2) | (refine ⟨by omega,by omega,?_⟩;exact (bsF_down (by omega) (show ltK (fun x=>x.1) (0,(0,(0,(0,[])))) x0 x1 _=false from decide_eq_false (fun e=>absurd (cmpI_lt.2 e) (by assumption)))).symm.trans hok0.2.2)),(by dsimp only;omega)⟩
 ·replace h1 : ¬ (((q.1 : Nat) : Int) < ((q.2 : Nat) : Int)) := of_decide_eq_false h1
  refine wp_exit (then_exit (then_exit (in_hit (then_normal (wp_seq ?_)))))
  by_cases h3:((q.1:Nat):Int) < ((List.length x0:Nat):Int)
  ·refine at_regq [{}, {}, {}, { hint := some (aB true) }] { ts := [6, 7], os := [] } [(AV.p (.c (.v (.bool (decide (((q.1 : Nat) : Int) < ((List.length x0 : Nat) : Int)))))) = AV.p (.c (.v (.bool true)))), (0 : Int) ≤ ((q.1 : Nat) : Int) ∧ ((q.1 : Nat) : Int) < ((List.length x0 : Nat) : Int), Q__impl_Sink_decoderAt_1 (x0.getD q.1 (0, (0, (0, (0, []))))) x1] gamOK hT h (by kernel_rfl) ⟨hint_bool (decide_eq_true h3), (by refine ⟨?_, ?_⟩ <;> (first | omega | (simp only [lsA]; omega) | (simp <;> omega))), (by exact (Sh.fit_getD hf0 q.1)), trivial⟩ fun a w h => then_normal (wp_ret ?_)
   exact at_return (((q.1:Nat):Int),(decide ((D__impl_Sink_decoderAt_1 (x0.getD q.1 (0,(0,(0,(0,[]))))) x1)=0),())) [] h (by kernel_rfl) trivial (congrArg (fun z=>(z.1,z.2,())) (show ((((q.1:Nat):Int),decide ((D__impl_Sink_decoderAt_1 (x0.getD q.1 (0,(0,(0,(0,[]))))) x1)=0)))=D_slices_BinarySearchFunc_S_impl_Decoder_impl_Decoder_int__decoderAt_1 x0 x1 x2 from by unfold D_slices_BinarySearchFunc_S_impl_Decoder_impl_Decoder_int__decoderAt_1;(have e:=hok0.2.2;rw [bsF_end (by omega)] at e;have e1:bsK (fun x=>x.1) (0,(0,(0,(0,[])))) x0 x1=q.1:=e.symm;unfold fndK;rw [e1];exact Prod.ext rfl (by first | exact fnd_no (f:=(fun x=>x.1)) (z:=(0,(0,(0,(0,[]))))) (xs:=x0) (v:=x1) (q:=q.1) (by omega) | exact fnd_eq (f:=(fun x=>x.1)) (z:=(0,(0,(0,(0,[]))))) (xs:=x0) (v:=x1) (q:=q.1) (by omega)))))
  ·refine at_regq [{}, {}, {}, { hint := some (aB false) }] { ts := [6, 7], os := [] } [(AV.p (.c (.v (.bool (decide (((q.1 : Nat) : Int) < ((List.length x0 : Nat) : Int)))))) = AV.p (.c (.v (.bool false))))] gamOK hT h (by kernel_rfl) ⟨hint_bool (decide_eq_false h3), trivial⟩ fun a w h => then_normal (wp_ret ?_)
   exact at_return (((q.1:Nat):Int),(false,())) [] h (by kernel_rfl) trivial (congrArg (fun z=>(z.1,z.2,())) (show ((((q.1:Nat):Int),false))=D_slices_BinarySearchFunc_S_impl_Decoder_impl_Decoder_int__decoderAt_1 x0 x1 x2 from by unfold D_slices_BinarySearchFunc_S_impl_Decoder_impl_Decoder_int__decoderAt_1;(have e:=hok0.2.2;rw [bsF_end (by omega)] at e;have e1:bsK (fun x=>x.1) (0,(0,(0,(0,[])))) x0 x1=q.1:=e.symm;unfold fndK;rw [e1];exact Prod.ext rfl (by first | exact fnd_no (f:=(fun x=>x.1)) (z:=(0,(0,(0,(0,[]))))) (xs:=x0) (v:=x1) (q:=q.1) (by omega) | exact fnd_eq (f:=(fun x=>x.1)) (z:=(0,(0,(0,(0,[]))))) (xs:=x0) (v:=x1) (q:=q.1) (by omega)))))

def D__impl_Sink_decoderAt (x0:T31) (x1:Int):Int×Bool:=((D_slices_BinarySearchFunc_S_impl_Decoder_impl_Decoder_int__decoderAt_1 x0.2.2.2.1 x1 ()).1,(D_slices_BinarySearchFunc_S_impl_Decoder_impl_Decoder_int__decoderAt_1 x0.2.2.2.1 x1 ()).2)
abbrev Q__impl_Sink_decoderAt:=(fun (x0:T31) (x1:Int)=>Sh.fit s31 x0)
def S__impl_Sink_decoderAt:Sum:={ fid:=79,dom:=[s31,(.int 3)],cod:=[(.int 3),(.bool 4)],dp:=true,fz:=false,pre:=fun x=>Q__impl_Sink_decoderAt x.1 x.2.1,g:=fun x=>((D__impl_Sink_decoderAt x.1 x.2.1).1,((D__impl_Sink_decoderAt x.1 x.2.1).2,())) }
def S__impl_Sink_decoderAt_tab:List (Nat×Sum):=[(100006,S_slices_BinarySearchFunc_S_impl_Decoder_impl_Decoder_int__decoderAt_1)]
theorem S__impl_Sink_decoderAt_ok:FnOK Try.prog 79 S__impl_Sink_decoderAt:=by
 refine at_enter 12 (fun x=>⟨[(0,aG [cI x.1.1,cI x.1.2.1,.ro (.int 3) x.1.2.2.1,.ro s97 x.1.2.2.2.1,.ro s68 x.1.2.2.2.2.1,cI x.1.2.2.2.2.2]),(1,aI x.2.1)],[]⟩) Try.func79 rfl (by kernel_rfl) (fun x=>rfl) ?_
 rintro w0 Z0 ⟨x0,x1,u⟩ a w
 revert x0 x1
 intro (x0:T31) (x1:Int) hpre hlens h
 replace hpre:Q__impl_Sink_decoderAt x0 x1:=hpre
 have hT:TabOK Try.prog S__impl_Sink_decoderAt_tab:=(.cons S_slices_BinarySearchFunc_S_impl_Decoder_impl_Decoder_int__decoderAt_1_ok .nil)
 have hf0:Sh.fit s31 x0:=hpre
 have hn0_1:List.length x0.2.2.1≤1073741824:=hf0.2.2.1.1
 have hn0_2:List.length x0.2.2.2.1≤1073741824:=hf0.2.2.2.1.1
 have hn0_3:List.length x0.2.2.2.2.1≤1073741824:=hf0.2.2.2.2.1.1
 refine wp_seq ?_
 refine at_regq [{ ids:=[1] }] { ts:=[1,2,4,5],os:=[1] } [] gamOK hT h (by kernel_rfl) trivial fun a w h=>then_normal (wp_seq ?_)
 refine at_regq [{},{},{},{ key:=some 100006 }] { ts:=[4,5],os:=[] } [Q_slices_BinarySearchFunc_S_impl_Decoder_impl_Decoder_int__decoderAt_1 x0.2.2.2.1 x1 ()] gamOK hT h (by kernel_rfl) ⟨(by exact hf0.2.2.2.1),trivial⟩ fun a w h=>then_normal (wp_ret ?_)
 exact at_return ((D_slices_BinarySearchFunc_S_impl_Decoder_impl_Decoder_int__decoderAt_1 x0.2.2.2.1 x1 ()).1,((D_slices_BinarySearchFunc_S_impl_Decoder_impl_Decoder_int__decoderAt_1 x0.2.2.2.1 x1 ()).2,())) [] h (by kernel_rfl) trivial (congrArg (fun z=>(z.1,z.2,())) (show (((D_slices_BinarySearchFunc_S_impl_Decoder_impl_Decoder_int__decoderAt_1 x0.2.2.2.1 x1 ()).1,(D_slices_BinarySearchFunc_S_impl_Decoder_impl_Decoder_int__decoderAt_1 x0.2.2.2.1 x1 ()).2))=D__impl_Sink_decoderAt x0 x1 from by rfl))

def D_spec_l30Done:=(fun (s:T31) (v:Int)=>s.2.2.2.2.1.any fun g=>decide (g.1=v))
abbrev Q_spec_l30Done:=(fun (x0:T31) (x1:Int)=>Sh.fit s31 x0)
def S_spec_l30Done:Sum:={ fid:=64,dom:=[s31,(.int 3)],cod:=[(.bool 4)],dp:=true,fz:=false,pre:=fun x=>Q_spec_l30Done x.1 x.2.1,g:=fun x=>((D_spec_l30Done x.1 x.2.1),()) }
def S_spec_l30Done_tab:List (Nat×Sum):=[]
theorem S_spec_l30Done_ok:FnOK Try.prog 64 S_spec_l30Done:=by
 refine at_enter 21 (fun x=>⟨[(0,aG [cI x.1.1,cI x.1.2.1,.ro (.int 3) x.1.2.2.1,.ro s97 x.1.2.2.2.1,.ro s68 x.1.2.2.2.2.1,cI x.1.2.2.2.2.2]),(1,aI x.2.1)],[]⟩) Try.func64 rfl (by kernel_rfl) (fun x=>rfl) ?_
 rintro w0 Z0 ⟨x0,x1,u⟩ a w
 revert x0 x1
 intro (x0:T31) (x1:Int) hpre hlens h
 replace hpre:Q_spec_l30Done x0 x1:=hpre
 have hT:TabOK Try.prog S_spec_l30Done_tab:=.nil
 have hf0:Sh.fit s31 x0:=hpre
 have hn0_1:List.length x0.2.2.1≤1073741824:=hf0.2.2.1.1
 have hn0_2:List.length x0.2.2.2.1≤1073741824:=hf0.2.2.2.1.1
 have hn0_3:List.length x0.2.2.2.2.1≤1073741824:=hf0.2.2.2.2.1.1
 refine wp_seq ?_
 refine at_regq [{ ids:=[1] }] { ts:=[1,2,4],os:=[1] } [] gamOK hT h (by kernel_rfl) trivial fun a w h=>then_normal (wp_seq (wp_seq ?_))
 refine at_regq [] { ts:=[1,2,4,5],os:=[1] } [] gamOK hT h (by kernel_rfl) trivial fun a w h=>then_normal (wp_block ?_)
 replace h:=at_out (σ':=⟨[(1,aI x1),(2,aP 1 0),(4,aB false),(5,aI 0)],[(1,oX 31 [cI x0.1,cI x0.2.1,.ro (.int 3) x0.2.2.1,.ro s97 x0.2.2.2.1,.ro s68 x0.2.2.2.2.1,cI x0.2.2.2.2.2])]⟩) { ts:=[1,2,4,5],os:=[1] } h (by kernel_rfl)
 refine at_loop (fun i:Nat=>(⟨[(1,aI x1),(2,aP 1 0),(4,aB false),(5,aI ((i:Nat):Int))],[(1,oX 31 [cI x0.1,cI x0.2.1,.ro (.int 3) x0.2.2.1,.ro s97 x0.2.2.2.1,.ro s68 x0.2.2.2.2.1,cI x0.2.2.2.2.2])]⟩:St)) (fun i=>(i≤List.length x0.2.2.2.2.1∧noneTo (fun g=>decide (g.1=x1)) x0.2.2.2.2.1 (0,[]) i)) (fun i=>List.length x0.2.2.2.2.1 - i) (0) h (st_congr1 (fun (d0:Int)=>(⟨[(1,aI x1),(2,aP 1 0),(4,aB false),(5,aI d0)],[(1,oX 31 [cI x0.1,cI x0.2.1,.ro (.int 3) x0.2.2.1,.ro s97 x0.2.2.2.1,.ro s68 x0.2.2.2.2.1,cI x0.2.2.2.2.2])]⟩:St)) (show (0:Int)=(((0):Nat):Int) from by first | with_reducible rfl | (rfl) | rfl)) (by exact ⟨Nat.zero_le _,noneTo_zero⟩) ?_
 intro i a w hok0 h
 refine wp_seq (wp_seq ?_)
 refine at_regq [] { ts:=[1,2,4,5,10],os:=[1] } [] gamOK hT h (by kernel_rfl) trivial fun a w h=>then_normal ?_
 refine at_test (decide (((i:Nat):Int) < ((List.length x0.2.2.2.2.1:Nat):Int))) h (by kernel_rfl) (fun h1=>?_) (fun h1=>?_)
 ·replace h1 : ((i : Nat) : Int) < ((List.length x0.2.2.2.2.1 : Nat) : Int) := of_decide_eq_true h1
  refine wp_skip (then_normal (wp_seq (wp_block (wp_seq ?_))))
  refine at_regq [] { ts:=[1,2,4,5,20],os:=[1] } [(0:Int)≤((i:Nat):Int)∧((i:Nat):Int) < ((List.length x0.2.2.2.2.1:Nat):Int)] gamOK hT h (by kernel_rfl) ⟨(by refine ⟨?_,?_⟩<;>(first | omega | (simp only [lsA];omega) | (simp<;>omega))),trivial⟩ fun a w h=>then_normal ?_
  refine at_test (decide ((x0.2.2.2.2.1.getD i (0,[])).1=x1)) h (by kernel_rfl) (fun h2=>?_) (fun h2=>?_)
  ·replace h2 : (x0.2.2.2.2.1.getD i (0, [])).1 = x1 := of_decide_eq_true h2
   refine wp_seq ?_
   refine at_regq [] { ts:=[1,2,4,5],os:=[1] } [] gamOK hT h (by kernel_rfl) trivial fun a w h=>then_normal (wp_ret (in_ret (then_ret ?_)))
   have hs3:(!(List.any x0.2.2.2.2.1 (fun g=>decide (g.1=x1))))=false:=by exact notT' (any_at (z:=(0,[])) (i:=i) (by omega) (by exact decide_eq_true (by assumption)))
   refine then_ret (in_ret (then_ret ?_))
   exact at_return (true,()) [] h (by kernel_rfl) trivial (congrArg (fun z=>(z,())) (show (true)=D_spec_l30Done x0 x1 from by unfold D_spec_l30Done;first | exact (notT (by assumption)).symm | exact (notF (by assumption)).symm))
  ·replace h2 : ¬ ((x0.2.2.2.2.1.getD i (0, [])).1 = x1) := of_decide_eq_false h2
   refine wp_skip (in_normal (then_normal ?_))
   refine at_regq [{},{ nw:=true }] { ts:=[1,2,4,5],os:=[1] } [I64 (((i:Nat):Int)+1)] gamOK hT h (by kernel_rfl) ⟨⟨by first | omega | (simp only [lsA];omega) | (simp<;>omega),by first | omega | (simp only [lsA];omega) | (simp<;>omega)⟩,trivial⟩ fun a w h=>?_
   replace h:=at_out (σ':=⟨[(1,aI x1),(2,aP 1 0),(4,aB false),(5,aI (((i:Nat):Int)+1))],[(1,oX 31 [cI x0.1,cI x0.2.1,.ro (.int 3) x0.2.2.1,.ro s97 x0.2.2.2.1,.ro s68 x0.2.2.2.2.1,cI x0.2.2.2.2.2])]⟩) { ts:=[1,2,4,5],os:=[1] } h (by kernel_rfl)
   exact ⟨i+1,at_eq h (st_congr1 (fun (d0:Int)=>(⟨[(1,aI x1),(2,aP 1 0),(4,aB false),(5,aI d0)],[(1,oX 31 [cI x0.1,cI x0.2.1,.ro (.int 3) x0.2.2.1,.ro s97 x0.2.2.2.1,.ro s68 x0.2.2.2.2.1,cI x0.2.2.2.2.2])]⟩:St)) (show (((i:Nat):Int)+1:Int)=(((i+1):Nat):Int) from by first | with_reducible rfl | (omega) | rfl)),(by exact ⟨by omega,noneTo_succ hok0.2 (by exact decide_eq_false (by assumption))⟩),(by omega)⟩
 ·replace h1 : ¬ (((i : Nat) : Int) < ((List.length x0.2.2.2.2.1 : Nat) : Int)) := of_decide_eq_false h1
  refine wp_exit (then_exit ?_)
  have hs4:(!(List.any x0.2.2.2.2.1 (fun g=>decide (g.1=x1))))=true:=by exact notF' (any_of (z:=(0,[])) (i:=i) (by omega) hok0.2)
  refine then_exit (in_hit (then_normal (wp_seq ?_)))
  refine at_regq [] { ts:=[4],os:=[] } [] gamOK hT h (by kernel_rfl) trivial fun a w h=>then_normal (wp_ret ?_)
  exact at_return (false,()) [] h (by kernel_rfl) trivial (congrArg (fun z=>(z,())) (show (false)=D_spec_l30Done x0 x1 from by unfold D_spec_l30Done;first | exact (notT (by assumption)).symm | exact (notF (by assumption)).symm))

abbrev Q_impl_IsValidSink:=(fun (x0:T31)=>Sh.fit s31 x0)
def S_impl_IsValidSink:Sum:={ fid:=32,dom:=[s31],cod:=[(.bool 4)],dp:=true,fz:=false,pre:=fun x=>Q_impl_IsValidSink x.1,g:=fun x=>((validS x.1),()) }
def S_impl_IsValidSink_tab:List (Nat×Sum):=[(72,S_impl_NewSink),(73,S_impl_InRange),(74,S_impl_IsValidDecoder),(75,S__impl_Decoder_complete),(76,S__impl_Sink_fits),(77,S_impl_IsValidGeneration),(78,S_impl_SymbolWidth),(79,S__impl_Sink_decoderAt)]
theorem S_impl_IsValidSink_ok:FnOK Try.prog 32 S_impl_IsValidSink:=by
 refine at_enter 124 (fun x=>⟨[(0,aG [cI x.1.1,cI x.1.2.1,.ro (.int 3) x.1.2.2.1,.ro s97 x.1.2.2.2.1,.ro s68 x.1.2.2.2.2.1,cI x.1.2.2.2.2.2])],[]⟩) Try.func32 rfl (by kernel_rfl) (fun x=>rfl) ?_
 rintro w0 Z0 ⟨x0,u⟩ a w
 revert x0
 intro (x0:T31) hpre hlens h
 replace hpre:Q_impl_IsValidSink x0:=hpre
 have hT:TabOK Try.prog S_impl_IsValidSink_tab:=(.cons S_impl_NewSink_ok (.cons S_impl_InRange_ok (.cons S_impl_IsValidDecoder_ok (.cons S__impl_Decoder_complete_ok (.cons S__impl_Sink_fits_ok (.cons S_impl_IsValidGeneration_ok (.cons S_impl_SymbolWidth_ok (.cons S__impl_Sink_decoderAt_ok .nil))))))))
 have hf0:Sh.fit s31 x0:=hpre
 have hn0_1:List.length x0.2.2.1≤1073741824:=hf0.2.2.1.1
 have hn0_2:List.length x0.2.2.2.1≤1073741824:=hf0.2.2.2.1.1
 have hn0_3:List.length x0.2.2.2.2.1≤1073741824:=hf0.2.2.2.2.1.1
 refine wp_seq ?_
 refine at_regq [{ ids:=[1] }] { ts:=[1,2],os:=[1] } [] gamOK hT h (by kernel_rfl) trivial fun a w h=>then_normal (wp_seq (wp_seq ?_))
 by_cases h1:(newSink x0.1 x0.2.1 x0.2.2.1).2.1=0
 ·refine at_regq [{}, {}, {}, {}, {}, {}, { ids := [2, 3, 4] }, {}, { hint := some (aB true) }] { ts := [1, 2, 32], os := [1] } [Q_impl_NewSink x0.1 x0.2.1 x0.2.2.1, (AV.p (.c (.v (.bool (decide ((newSink x0.1 x0.2.1 x0.2.2.1).2.1 = 0))))) = AV.p (.c (.v (.bool true))))] gamOK hT h (by kernel_rfl) ⟨(by exact hf0.2.2.1), hint_bool (decide_eq_true h1), trivial⟩ fun a w h => then_normal ?_
  refine at_test true h (by kernel_rfl) (fun hh=>?_) (fun hh=>nomatch hh)
  refine wp_seq ?_
  refine at_regq [] { ts:=[1,2],os:=[1] } [] gamOK hT h (by kernel_rfl) trivial fun a w h=>then_normal (wp_ret (then_ret ?_))
  exact at_return (false,()) [] h (by kernel_rfl) trivial (congrArg (fun z=>(z,())) (show (false)=validS x0 from by (first | (rw [← validS_impl (by assumption) (headS_y (by assumption) (by omega) (by assumption))];symm;assumption) | exact validS_no (by first | (right;left;assumption) | (left;exact headS_n (by first | (left;assumption) | (right;left;omega) | (right;right;assumption)))))))
 ·by_cases h2 : ((List.length x0.2.2.2.1 : Nat) : Int) > 4
  ·refine at_regq [{}, {}, {}, {}, {}, {}, { ids := [2, 3, 4] }, {}, { hint := some (aB false) }, {}, {}, {}, {}, { hint := some (aB true) }] { ts := [1, 2, 32], os := [1] } [Q_impl_NewSink x0.1 x0.2.1 x0.2.2.1, (AV.p (.c (.v (.bool (decide ((newSink x0.1 x0.2.1 x0.2.2.1).2.1 = 0))))) = AV.p (.c (.v (.bool false)))), (AV.p (.c (.v (.bool (decide (((List.length x0.2.2.2.1 : Nat) : Int) > 4))))) = AV.p (.c (.v (.bool true))))] gamOK hT h (by kernel_rfl) ⟨(by exact hf0.2.2.1), hint_bool (decide_eq_false h1), hint_bool (decide_eq_true h2), trivial⟩ fun a w h => then_normal ?_
   refine at_test true h (by kernel_rfl) (fun hh=>?_) (fun hh=>nomatch hh)
   refine wp_seq ?_
   refine at_regq [] { ts:=[1,2],os:=[1] } [] gamOK hT h (by kernel_rfl) trivial fun a w h=>then_normal (wp_ret (then_ret ?_))
   exact at_return (false,()) [] h (by kernel_rfl) trivial (congrArg (fun z=>(z,())) (show (false)=validS x0 from by (first | (rw [← validS_impl (by assumption) (headS_y (by assumption) (by omega) (by assumption))];symm;assumption) | exact validS_no (by first | (right;left;assumption) | (left;exact headS_n (by first | (left;assumption) | (right;left;omega) | (right;right;assumption)))))))
  ·refine at_regq [{}, {}, {}, {}, {}, {}, { ids := [2, 3, 4] }, {}, { hint := some (aB false) }, {}, {}, {}, {}, { hint := some (aB false) }] { ts := [1, 2, 32], os := [1] } [Q_impl_NewSink x0.1 x0.2.1 x0.2.2.1, (AV.p (.c (.v (.bool (decide ((newSink x0.1 x0.2.1 x0.2.2.1).2.1 = 0))))) = AV.p (.c (.v (.bool false)))), (AV.p (.c (.v (.bool (decide (((List.length x0.2.2.2.1 : Nat) : Int) > 4))))) = AV.p (.c (.v (.bool false)))), True] gamOK hT h (by kernel_rfl) ⟨(by exact hf0.2.2.1), hint_bool (decide_eq_false h1), hint_bool (decide_eq_false h2), trivial, trivial⟩ fun a w h => then_normal ?_
   refine at_test (!(inR x0.2.2.2.2.2 0 ((List.length x0.2.2.2.2.1:Nat):Int))) h (by kernel_rfl) (fun h3=>?_) (fun h3=>?_)
   ·replace h3 : (inR x0.2.2.2.2.2 0 ((List.length x0.2.2.2.2.1 : Nat) : Int)) = false := notT h3
    have hvh3:=inR_f h3
    refine wp_seq ?_
    refine at_regq [] { ts:=[1,2],os:=[1] } [] gamOK hT h (by kernel_rfl) trivial fun a w h=>then_normal (wp_ret (then_ret ?_))
    exact at_return (false,()) [] h (by kernel_rfl) trivial (congrArg (fun z=>(z,())) (show (false)=validS x0 from by (first | (rw [← validS_impl (by assumption) (headS_y (by assumption) (by omega) (by assumption))];symm;assumption) | exact validS_no (by first | (right;left;assumption) | (left;exact headS_n (by first | (left;assumption) | (right;left;omega) | (right;right;assumption)))))))
   ·replace h3 : (inR x0.2.2.2.2.2 0 ((List.length x0.2.2.2.2.1 : Nat) : Int)) = true := notF h3
    have hvh3:=inR_t h3
    refine wp_skip (then_normal (wp_seq (wp_seq ?_)))
    refine at_regq [] { ts:=[1,2,34,35,36],os:=[1] } [] gamOK hT h (by kernel_rfl) trivial fun a w h=>then_normal (wp_block ?_)
    replace h:=at_out (σ':=⟨[(1,aP 1 0),(2,aB false),(34,aF s97 x0.2.2.2.1),(35,aI ((List.length x0.2.2.2.1:Nat):Int)),(36,aI 0)],[(1,oX 31 [cI x0.1,cI x0.2.1,.ro (.int 3) x0.2.2.1,.ro s97 x0.2.2.2.1,.ro s68 x0.2.2.2.2.1,cI x0.2.2.2.2.2])]⟩) { ts:=[1,2,34,35,36],os:=[1] } h (by kernel_rfl)
    refine at_loop (fun i:Nat=>(⟨[(1,aP 1 0),(2,aB false),(34,aF s97 x0.2.2.2.1),(35,aI ((List.length x0.2.2.2.1:Nat):Int)),(36,aI ((i:Nat):Int))],[(1,oX 31 [cI x0.1,cI x0.2.1,.ro (.int 3) x0.2.2.1,.ro s97 x0.2.2.2.1,.ro s68 x0.2.2.2.2.1,cI x0.2.2.2.2.2])]⟩:St)) (fun i=>(i≤(List.length x0.2.2.2.1)∧allN (decB x0) i=true)) (fun i=>(List.length x0.2.2.2.1) - i) (0) h (st_congr1 (fun (d0:Int)=>(⟨[(1,aP 1 0),(2,aB false),(34,aF s97 x0.2.2.2.1),(35,aI ((List.length x0.2.2.2.1:Nat):Int)),(36,aI d0)],[(1,oX 31 [cI x0.1,cI x0.2.1,.ro (.int 3) x0.2.2.1,.ro s97 x0.2.2.2.1,.ro s68 x0.2.2.2.2.1,cI x0.2.2.2.2.2])]⟩:St)) (show (0:Int)=(((0):Nat):Int) from by first | with_reducible rfl | (rfl) | rfl)) (by exact ⟨Nat.zero_le _,rfl⟩) ?_
    intro i a w hok0 h
    refine wp_seq ?_
    refine at_regq [] { ts:=[1,2,34,35,36,37],os:=[1] } [] gamOK hT h (by kernel_rfl) trivial fun a w h=>then_normal (wp_seq ?_)
    refine at_test (decide (((i:Nat):Int) < ((List.length x0.2.2.2.1:Nat):Int))) h (by kernel_rfl) (fun h4=>?_) (fun h4=>?_)
    ·replace h4 : ((i : Nat) : Int) < ((List.length x0.2.2.2.1 : Nat) : Int) := of_decide_eq_true h4
     refine wp_skip (then_normal (wp_seq (wp_block (wp_seq ?_))))
     refine at_regq [{},{},{},{ ids:=[5] }] { ts:=[1,2,3,4,34,35,36],os:=[1,5] } [(0:Int)≤((i:Nat):Int)∧((i:Nat):Int) < ((List.length x0.2.2.2.1:Nat):Int)] gamOK hT h (by kernel_rfl) ⟨(by refine ⟨?_,?_⟩<;>(first | omega | (simp only [lsA];omega) | (simp<;>omega))),trivial⟩ fun a w h=>then_normal (wp_seq ?_)
     rcases Bool.eq_false_or_eq_true (!(validD (x0.2.2.2.1.getD i (0,(0,(0,(0,[]))))))) with h5 | h5
     ·have hzh5 : (validD (x0.2.2.2.1.getD i (0, (0, (0, (0, [])))))) = false := notT h5
      refine at_anyq [{},{},{ hint:=some (aB true) },{},{},{},{},{},{},{},{},{},{},{},{},{},{},{},{},{},{},{},{},{},{},{},{},{},{},{},{},{},{},{}] { ts:=[1,2,34,35,36,45,46,49,50,51,52,53,54,55,56,57,60,61,62,63,64,65,66,67,68,69,70,71,72,73,74],os:=[1] } [Q_impl_IsValidDecoder (x0.2.2.2.1.getD i (0,(0,(0,(0,[]))))),(AV.p (.c (.v (.bool (!(validD (x0.2.2.2.1.getD i (0,(0,(0,(0,[]))))))))))=AV.p (.c (.v (.bool true))))] gamOK hT mixed h (by kernel_rfl) ⟨(by exact (Sh.fit_getD hf0.2.2.2.1 i)),hint_bool (h5),trivial⟩ fun a w h=>then_normal ?_
      refine at_test true h (by kernel_rfl) (fun hh=>?_) (fun hh=>nomatch hh)
      refine wp_seq ?_
      refine at_regq [] { ts:=[1,2,34,35,36,45,46,49,50,51,52,53,54,55,56,57,60,61,62,63,64,65,66,67,68,69,70,71,72,73],os:=[1] } [] gamOK hT h (by kernel_rfl) trivial fun a w h=>then_normal (wp_ret (in_ret (then_ret ?_)))
      have hs6:(allN (decB x0) (List.length x0.2.2.2.1))=false:=by exact allN_at (i:=i) (by omega) (by exact decB_f (by first | (left;assumption) | (right;left;assumption) | (right;right;left;assumption) | (right;right;right;omega)))
      refine then_ret (in_ret (then_ret ?_))
      exact at_return (false,()) [] h (by kernel_rfl) trivial (congrArg (fun z=>(z,())) (show (false)=validS x0 from by (first | (rw [← validS_impl (by assumption) (headS_y (by assumption) (by omega) (by assumption))];symm;assumption) | exact validS_no (by first | (right;left;assumption) | (left;exact headS_n (by first | (left;assumption) | (right;left;omega) | (right;right;assumption)))))))
     ·have hzh5 : (validD (x0.2.2.2.1.getD i (0, (0, (0, (0, [])))))) = true := notF h5
      have hvh5:=validD_t (notF h5)
      rcases Bool.eq_false_or_eq_true ((complD (x0.2.2.2.1.getD i (0,(0,(0,(0,[]))))))) with h7 | h7
      ·refine at_anyq [{}, {}, { hint := some (aB false) }, {}, {}, { hint := some (aB true) }, {}, {}, {}, {}, {}, {}, {}, {}, {}, {}, {}, {}, {}, {}, {}, {}, {}, {}, {}, {}, {}, {}, {}, {}, {}, {}, {}, {}] { ts := [1, 2, 34, 35, 36, 45, 46, 49, 50, 51, 52, 53, 54, 55, 56, 57, 60, 61, 62, 63, 64, 65, 66, 67, 68, 69, 70, 71, 72, 73, 74], os := [1] } [Q_impl_IsValidDecoder (x0.2.2.2.1.getD i (0, (0, (0, (0, []))))), (AV.p (.c (.v (.bool (!(validD (x0.2.2.2.1.getD i (0, (0, (0, (0, [])))))))))) = AV.p (.c (.v (.bool false)))), Q__impl_Decoder_complete (x0.2.2.2.1.getD i (0, (0, (0, (0, []))))), (AV.p (.c (.v (.bool ((complD (x0.2.2.2.1.getD i (0, (0, (0, (0, [])))))))))) = AV.p (.c (.v (.bool true))))] gamOK hT mixed h (by kernel_rfl) ⟨(by exact (Sh.fit_getD hf0.2.2.2.1 i)), hint_bool (h5), (by exact (Sh.fit_getD hf0.2.2.2.1 i)), hint_bool (h7), trivial⟩ fun a w h => then_normal ?_
       refine at_test true h (by kernel_rfl) (fun hh=>?_) (fun hh=>nomatch hh)
       refine wp_seq ?_
       refine at_regq [] { ts:=[1,2,34,35,36,45,46,49,50,51,52,53,54,55,56,57,60,61,62,63,64,65,66,67,68,69,70,71,72,73],os:=[1] } [] gamOK hT h (by kernel_rfl) trivial fun a w h=>then_normal (wp_ret (in_ret (then_ret ?_)))
       have hs8:(allN (decB x0) (List.length x0.2.2.2.1))=false:=by exact allN_at (i:=i) (by omega) (by exact decB_f (by first | (left;assumption) | (right;left;assumption) | (right;right;left;assumption) | (right;right;right;omega)))
       refine then_ret (in_ret (then_ret ?_))
       exact at_return (false,()) [] h (by kernel_rfl) trivial (congrArg (fun z=>(z,())) (show (false)=validS x0 from by (first | (rw [← validS_impl (by assumption) (headS_y (by assumption) (by omega) (by assumption))];symm;assumption) | exact validS_no (by first | (right;left;assumption) | (left;exact headS_n (by first | (left;assumption) | (right;left;omega) | (right;right;assumption)))))))
      ·rcases Bool.eq_false_or_eq_true (!(fitsS x0 (x0.2.2.2.1.getD i (0, (0, (0, (0, []))))).1 (x0.2.2.2.1.getD i (0, (0, (0, (0, []))))).2.1 (x0.2.2.2.1.getD i (0, (0, (0, (0, []))))).2.2.1)) with h9 | h9
       ·have hzh9 : (fitsS x0 (x0.2.2.2.1.getD i (0, (0, (0, (0, []))))).1 (x0.2.2.2.1.getD i (0, (0, (0, (0, []))))).2.1 (x0.2.2.2.1.getD i (0, (0, (0, (0, []))))).2.2.1) = false := notT h9
        refine at_anyq [{},{},{ hint:=some (aB false) },{},{},{ hint:=some (aB false) },{},{},{},{},{},{},{},{},{},{},{ hint:=some (aB true) },{},{},{},{},{},{},{},{},{},{},{},{},{},{},{},{},{}] { ts:=[1,2,34,35,36,45,46,49,50,51,52,53,54,55,56,57,60,61,62,63,64,65,66,67,68,69,70,71,72,73,74],os:=[1,5] } [Q_impl_IsValidDecoder (x0.2.2.2.1.getD i (0,(0,(0,(0,[]))))),(AV.p (.c (.v (.bool (!(validD (x0.2.2.2.1.getD i (0,(0,(0,(0,[]))))))))))=AV.p (.c (.v (.bool false)))),Q__impl_Decoder_complete (x0.2.2.2.1.getD i (0,(0,(0,(0,[]))))),(AV.p (.c (.v (.bool ((complD (x0.2.2.2.1.getD i (0,(0,(0,(0,[]))))))))))=AV.p (.c (.v (.bool false)))),Q__impl_Sink_fits x0 (x0.2.2.2.1.getD i (0,(0,(0,(0,[]))))).1 (x0.2.2.2.1.getD i (0,(0,(0,(0,[]))))).2.1 (x0.2.2.2.1.getD i (0,(0,(0,(0,[]))))).2.2.1,(AV.p (.c (.v (.bool (!(fitsS x0 (x0.2.2.2.1.getD i (0,(0,(0,(0,[]))))).1 (x0.2.2.2.1.getD i (0,(0,(0,(0,[]))))).2.1 (x0.2.2.2.1.getD i (0,(0,(0,(0,[]))))).2.2.1)))))=AV.p (.c (.v (.bool true))))] gamOK hT mixed h (by kernel_rfl) ⟨(by exact (Sh.fit_getD hf0.2.2.2.1 i)),hint_bool (h5),(by exact (Sh.fit_getD hf0.2.2.2.1 i)),hint_bool (h7),(by exact hf0),hint_bool (h9),trivial⟩ fun a w h=>then_normal ?_
        refine at_test true h (by kernel_rfl) (fun hh=>?_) (fun hh=>nomatch hh)
        refine wp_seq ?_
        refine at_regq [] { ts:=[1,2,34,35,36,45,46,49,50,51,52,53,54,55,56,57,60,61,62,63,64,65,66,67,68,69,70,71,72,73],os:=[1,5] } [] gamOK hT h (by kernel_rfl) trivial fun a w h=>then_normal (wp_ret (in_ret (then_ret ?_)))
        have hs10:(allN (decB x0) (List.length x0.2.2.2.1))=false:=by exact allN_at (i:=i) (by omega) (by exact decB_f (by first | (left;assumption) | (right;left;assumption) | (right;right;left;assumption) | (right;right;right;omega)))
        refine then_ret (in_ret (then_ret ?_))
        exact at_return (false,()) [] h (by kernel_rfl) trivial (congrArg (fun z=>(z,())) (show (false)=validS x0 from by (first | (rw [← validS_impl (by assumption) (headS_y (by assumption) (by omega) (by assumption))];symm;assumption) | exact validS_no (by first | (right;left;assumption) | (left;exact headS_n (by first | (left;assumption) | (right;left;omega) | (right;right;assumption)))))))
       ·have hzh9 : (fitsS x0 (x0.2.2.2.1.getD i (0, (0, (0, (0, []))))).1 (x0.2.2.2.1.getD i (0, (0, (0, (0, []))))).2.1 (x0.2.2.2.1.getD i (0, (0, (0, (0, []))))).2.2.1) = true := notF h9
        by_cases h11:((i:Nat):Int) > 0
        ·refine at_anyq [{}, {}, { hint := some (aB false) }, {}, {}, { hint := some (aB false) }, {}, {}, {}, {}, {}, {}, {}, {}, {}, {}, { hint := some (aB false) }, {}, {}, {}, { hint := some (aB true) }, {}, {}, {}, {}, {}, {}, { nw := true }, {}, {}, {}, {}, {}, {}] { ts := [1, 2, 34, 35, 36, 45, 46, 49, 50, 51, 52, 53, 54, 55, 56, 57, 60, 61, 62, 63, 64, 65, 66, 67, 68, 69, 70, 71, 72, 73, 74], os := [1, 5] } [Q_impl_IsValidDecoder (x0.2.2.2.1.getD i (0, (0, (0, (0, []))))), (AV.p (.c (.v (.bool (!(validD (x0.2.2.2.1.getD i (0, (0, (0, (0, [])))))))))) = AV.p (.c (.v (.bool false)))), Q__impl_Decoder_complete (x0.2.2.2.1.getD i (0, (0, (0, (0, []))))), (AV.p (.c (.v (.bool ((complD (x0.2.2.2.1.getD i (0, (0, (0, (0, [])))))))))) = AV.p (.c (.v (.bool false)))), Q__impl_Sink_fits x0 (x0.2.2.2.1.getD i (0, (0, (0, (0, []))))).1 (x0.2.2.2.1.getD i (0, (0, (0, (0, []))))).2.1 (x0.2.2.2.1.getD i (0, (0, (0, (0, []))))).2.2.1, (AV.p (.c (.v (.bool (!(fitsS x0 (x0.2.2.2.1.getD i (0, (0, (0, (0, []))))).1 (x0.2.2.2.1.getD i (0, (0, (0, (0, []))))).2.1 (x0.2.2.2.1.getD i (0, (0, (0, (0, []))))).2.2.1))))) = AV.p (.c (.v (.bool false)))), (AV.p (.c (.v (.bool (decide (((i : Nat) : Int) > 0))))) = AV.p (.c (.v (.bool true)))), I64 (((i : Nat) : Int) - 1), (0 : Int) ≤ ((i : Nat) : Int) - 1 ∧ ((i : Nat) : Int) - 1 < ((List.length x0.2.2.2.1 : Nat) : Int)] gamOK hT mixed h (by kernel_rfl) ⟨(by exact (Sh.fit_getD hf0.2.2.2.1 i)), hint_bool (h5), (by exact (Sh.fit_getD hf0.2.2.2.1 i)), hint_bool (h7), (by exact hf0), hint_bool (h9), hint_bool (decide_eq_true h11), ⟨by first | omega | (simp only [lsA]; omega) | (simp <;> omega), by first | omega | (simp only [lsA]; omega) | (simp <;> omega)⟩, (by refine ⟨?_, ?_⟩ <;> (first | omega | (simp only [lsA]; omega) | (simp <;> omega))), trivial⟩ fun a w h => then_normal ?_
         refine at_test (decide ((x0.2.2.2.1.getD i (0,(0,(0,(0,[]))))).1≤(x0.2.2.2.1.getD ((((i:Nat):Int) - 1).toNat) (0,(0,(0,(0,[]))))).1)) h (by kernel_rfl) (fun h12=>?_) (fun h12=>?_)
         ·replace h12 : (x0.2.2.2.1.getD i (0, (0, (0, (0, []))))).1 ≤ (x0.2.2.2.1.getD ((((i : Nat) : Int) - 1).toNat) (0, (0, (0, (0, []))))).1 := of_decide_eq_true h12
          refine wp_seq ?_
          refine at_regq [] { ts:=[1,2,34,35,36,45,46,49,50,51,52,53,54,55,56,57,60,61,62,63,64,65,66,67,68,69,70,71,72,73],os:=[1,5] } [] gamOK hT h (by kernel_rfl) trivial fun a w h=>then_normal (wp_ret (in_ret (then_ret ?_)))
          have hs13:(allN (decB x0) (List.length x0.2.2.2.1))=false:=by exact allN_at (i:=i) (by omega) (by exact decB_f (by first | (left;assumption) | (right;left;assumption) | (right;right;left;assumption) | (right;right;right;omega)))
          refine then_ret (in_ret (then_ret ?_))
          exact at_return (false,()) [] h (by kernel_rfl) trivial (congrArg (fun z=>(z,())) (show (false)=validS x0 from by (first | (rw [← validS_impl (by assumption) (headS_y (by assumption) (by omega) (by assumption))];symm;assumption) | exact validS_no (by first | (right;left;assumption) | (left;exact headS_n (by first | (left;assumption) | (right;left;omega) | (right;right;assumption)))))))
         ·replace h12 : ¬ ((x0.2.2.2.1.getD i (0, (0, (0, (0, []))))).1 ≤ (x0.2.2.2.1.getD ((((i : Nat) : Int) - 1).toNat) (0, (0, (0, (0, []))))).1) := of_decide_eq_false h12
          refine wp_skip (in_normal (then_normal ?_))
          refine at_regq [{ nw:=true }] { ts:=[1,2,34,35,36,45,46,49,50,51,52,53,54,55,56,57,60,61,62,63,64,65,66,67,68,69,70,71,72,73],os:=[1,5] } [I64 (((i:Nat):Int)+1)] gamOK hT h (by kernel_rfl) ⟨⟨by first | omega | (simp only [lsA];omega) | (simp<;>omega),by first | omega | (simp only [lsA];omega) | (simp<;>omega)⟩,trivial⟩ fun a w h=>?_
          replace h:=at_out (σ':=⟨[(1,aP 1 0),(2,aB false),(34,aF s97 x0.2.2.2.1),(35,aI ((List.length x0.2.2.2.1:Nat):Int)),(36,aI (((i:Nat):Int)+1))],[(1,oX 31 [cI x0.1,cI x0.2.1,.ro (.int 3) x0.2.2.1,.ro s97 x0.2.2.2.1,.ro s68 x0.2.2.2.2.1,cI x0.2.2.2.2.2])]⟩) { ts:=[1,2,34,35,36],os:=[1] } h (by kernel_rfl)
          exact ⟨i+1,at_eq h (st_congr1 (fun (d0:Int)=>(⟨[(1,aP 1 0),(2,aB false),(34,aF s97 x0.2.2.2.1),(35,aI ((List.length x0.2.2.2.1:Nat):Int)),(36,aI d0)],[(1,oX 31 [cI x0.1,cI x0.2.1,.ro (.int 3) x0.2.2.1,.ro s97 x0.2.2.2.1,.ro s68 x0.2.2.2.2.1,cI x0.2.2.2.2.2])]⟩:St)) (show (((i:Nat):Int)+1:Int)=(((i+1):Nat):Int) from by first | with_reducible rfl | (omega) | rfl)),(by exact ⟨by omega,allN_succ hok0.2 (by exact decB_t (by assumption) (by assumption) (by assumption) (by omega))⟩),(by omega)⟩
        ·refine at_anyq [{}, {}, { hint := some (aB false) }, {}, {}, { hint := some (aB false) }, {}, {}, {}, {}, {}, {}, {}, {}, {}, {}, { hint := some (aB false) }, {}, {}, {}, { hint := some (aB false) }, {}, {}, {}, {}, {}, {}, {}, {}, {}, {}, {}, {}, {}] { ts := [1, 2, 34, 35, 36, 45, 46, 49, 50, 51, 52, 53, 54, 55, 56, 57, 60, 61, 62, 63, 64, 65, 66, 67, 68, 69, 70, 71, 72, 73, 74], os := [1, 5] } [Q_impl_IsValidDecoder (x0.2.2.2.1.getD i (0, (0, (0, (0, []))))), (AV.p (.c (.v (.bool (!(validD (x0.2.2.2.1.getD i (0, (0, (0, (0, [])))))))))) = AV.p (.c (.v (.bool false)))), Q__impl_Decoder_complete (x0.2.2.2.1.getD i (0, (0, (0, (0, []))))), (AV.p (.c (.v (.bool ((complD (x0.2.2.2.1.getD i (0, (0, (0, (0, [])))))))))) = AV.p (.c (.v (.bool false)))), Q__impl_Sink_fits x0 (x0.2.2.2.1.getD i (0, (0, (0, (0, []))))).1 (x0.2.2.2.1.getD i (0, (0, (0, (0, []))))).2.1 (x0.2.2.2.1.getD i (0, (0, (0, (0, []))))).2.2.1, (AV.p (.c (.v (.bool (!(fitsS x0 (x0.2.2.2.1.getD i (0, (0, (0, (0, []))))).1 (x0.2.2.2.1.getD i (0, (0, (0, (0, []))))).2.1 (x0.2.2.2.1.getD i (0, (0, (0, (0, []))))).2.2.1))))) = AV.p (.c (.v (.bool false)))), (AV.p (.c (.v (.bool (decide (((i : Nat) : Int) > 0))))) = AV.p (.c (.v (.bool false))))] gamOK hT mixed h (by kernel_rfl) ⟨(by exact (Sh.fit_getD hf0.2.2.2.1 i)), hint_bool (h5), (by exact (Sh.fit_getD hf0.2.2.2.1 i)), hint_bool (h7), (by exact hf0), hint_bool (h9), hint_bool (decide_eq_false h11), trivial⟩ fun a w h => then_normal ?_
         refine at_test false h (by kernel_rfl) (fun hh=>nomatch hh) (fun hh=>?_)
         refine wp_skip (in_normal (then_normal ?_))
         refine at_regq [{ nw:=true }] { ts:=[1,2,34,35,36,45,46,49,50,51,52,53,54,55,56,57,60,61,62,63,64,65,66,67,68,69,70,71,72,73],os:=[1,5] } [I64 (((i:Nat):Int)+1)] gamOK hT h (by kernel_rfl) ⟨⟨by first | omega | (simp only [lsA];omega) | (simp<;>omega),by first | omega | (simp only [lsA];omega) | (simp<;>omega)⟩,trivial⟩ fun a w h=>?_
         replace h:=at_out (σ':=⟨[(1,aP 1 0),(2,aB false),(34,aF s97 x0.2.2.2.1),(35,aI ((List.length x0.2.2.2.1:Nat):Int)),(36,aI (((i:Nat):Int)+1))],[(1,oX 31 [cI x0.1,cI x0.2.1,.ro (.int 3) x0.2.2.1,.ro s97 x0.2.2.2.1,.ro s68 x0.2.2.2.2.1,cI x0.2.2.2.2.2])]⟩) { ts:=[1,2,34,35,36],os:=[1] } h (by kernel_rfl)
         exact ⟨i+1,at_eq h (st_congr1 (fun (d0:Int)=>(⟨[(1,aP 1 0),(2,aB false),(34,aF s97 x0.2.2.2.1),(35,aI ((List.length x0.2.2.2.1:Nat):Int)),(36,aI d0)],[(1,oX 31 [cI x0.1,cI x0.2.1,.ro (.int 3) x0.2.2.1,.ro s97 x0.2.2.2.1,.ro s68 x0.2.2.2.2.1,cI x0.2.2.2.2.2])]⟩:St)) (show (((i:Nat):Int)+1:Int)=(((i+1):Nat):Int) from by first | with_reducible rfl | (omega) | rfl)),(by exact ⟨by omega,allN_succ hok0.2 (by exact decB_t (by assumption) (by assumption) (by assumption) (by omega))⟩),(by omega)⟩
    ·replace h4 : ¬ (((i : Nat) : Int) < ((List.length x0.2.2.2.1 : Nat) : Int)) := of_decide_eq_false h4
     refine wp_exit (then_exit ?_)
     have hs14:(allN (decB x0) (List.length x0.2.2.2.1))=true:=by exact allN_eq (by omega) hok0.1 hok0.2
     refine then_exit (in_hit (then_normal (wp_seq (wp_seq ?_))))
     refine at_regq [] { ts:=[1,2,77,78,79],os:=[1] } [] gamOK hT h (by kernel_rfl) trivial fun a w h=>then_normal (wp_block ?_)
     replace h:=at_out (σ':=⟨[(1,aP 1 0),(2,aB false),(77,aF s68 x0.2.2.2.2.1),(78,aI ((List.length x0.2.2.2.2.1:Nat):Int)),(79,aI 0)],[(1,oX 31 [cI x0.1,cI x0.2.1,.ro (.int 3) x0.2.2.1,.ro s97 x0.2.2.2.1,.ro s68 x0.2.2.2.2.1,cI x0.2.2.2.2.2])]⟩) { ts:=[1,2,77,78,79],os:=[1] } h (by kernel_rfl)
     refine at_loop (fun i:Nat=>(⟨[(1,aP 1 0),(2,aB false),(77,aF s68 x0.2.2.2.2.1),(78,aI ((List.length x0.2.2.2.2.1:Nat):Int)),(79,aI ((i:Nat):Int))],[(1,oX 31 [cI x0.1,cI x0.2.1,.ro (.int 3) x0.2.2.1,.ro s97 x0.2.2.2.1,.ro s68 x0.2.2.2.2.1,cI x0.2.2.2.2.2])]⟩:St)) (fun i=>(i≤(List.length x0.2.2.2.2.1)∧allN (fun j=>genB x0 j && opnB x0 j) i=true)) (fun i=>(List.length x0.2.2.2.2.1) - i) (0) h (st_congr1 (fun (d0:Int)=>(⟨[(1,aP 1 0),(2,aB false),(77,aF s68 x0.2.2.2.2.1),(78,aI ((List.length x0.2.2.2.2.1:Nat):Int)),(79,aI d0)],[(1,oX 31 [cI x0.1,cI x0.2.1,.ro (.int 3) x0.2.2.1,.ro s97 x0.2.2.2.1,.ro s68 x0.2.2.2.2.1,cI x0.2.2.2.2.2])]⟩:St)) (show (0:Int)=(((0):Nat):Int) from by first | with_reducible rfl | (rfl) | rfl)) (by exact ⟨Nat.zero_le _,rfl⟩) ?_
     intro i a w hok1 h
     refine wp_seq ?_
     refine at_regq [] { ts:=[1,2,77,78,79,80],os:=[1] } [] gamOK hT h (by kernel_rfl) trivial fun a w h=>then_normal (wp_seq ?_)
     refine at_test (decide (((i:Nat):Int) < ((List.length x0.2.2.2.2.1:Nat):Int))) h (by kernel_rfl) (fun h15=>?_) (fun h15=>?_)
     ·replace h15 : ((i : Nat) : Int) < ((List.length x0.2.2.2.2.1 : Nat) : Int) := of_decide_eq_true h15
      refine wp_skip (then_normal (wp_seq (wp_block (wp_seq ?_))))
      refine at_regq [{},{},{},{ ids:=[6] }] { ts:=[1,2,5,6,77,78,79],os:=[1,6] } [(0:Int)≤((i:Nat):Int)∧((i:Nat):Int) < ((List.length x0.2.2.2.2.1:Nat):Int)] gamOK hT h (by kernel_rfl) ⟨(by refine ⟨?_,?_⟩<;>(first | omega | (simp only [lsA];omega) | (simp<;>omega))),trivial⟩ fun a w h=>then_normal (wp_seq (wp_seq ?_))
      rcases Bool.eq_false_or_eq_true (!(validG (x0.2.2.2.2.1.getD i (0,[])))) with h16 | h16
      ·have hzh16 : (validG (x0.2.2.2.2.1.getD i (0, []))) = false := notT h16
       refine at_anyq [{},{},{ hint:=some (aB true) },{},{},{},{},{},{},{},{},{},{},{},{},{},{},{},{},{},{},{},{},{},{},{},{},{},{},{},{}] { ts:=[1,2,6,77,78,79,88,89,90,91,92,93,94,95,96,97,100,101,102,103,104,105,106,107,108,109,110,111,112,113,114],os:=[1,6] } [Q_impl_IsValidGeneration (x0.2.2.2.2.1.getD i (0,[])),(AV.p (.c (.v (.bool (!(validG (x0.2.2.2.2.1.getD i (0,[])))))))=AV.p (.c (.v (.bool true))))] gamOK hT mixed h (by kernel_rfl) ⟨(by exact (Sh.fit_getD hf0.2.2.2.2.1 i)),hint_bool (h16),trivial⟩ fun a w h=>then_normal ?_
       refine at_test true h (by kernel_rfl) (fun hh=>?_) (fun hh=>nomatch hh)
       refine wp_seq ?_
       refine at_regq [] { ts:=[1,2,6,77,78,79,88,89,90,91,92,93,94,95,96,97,100,101,102,103,104,105,106,107,108,109,110,111,112,113],os:=[1,6] } [] gamOK hT h (by kernel_rfl) trivial fun a w h=>then_normal (wp_ret (then_ret (in_ret (then_ret ?_))))
       have hs17:(allN (fun j=>genB x0 j && opnB x0 j) (List.length x0.2.2.2.2.1))=false:=by exact allN_at (i:=i) (by omega) (by exact and_f (by first | (left;exact genB_f (by first | (left;assumption) | (right;left;assumption) | (right;right;omega))) | (right;exact opnB_f (by assumption))))
       refine then_ret (in_ret (then_ret ?_))
       exact at_return (false,()) [] h (by kernel_rfl) trivial (congrArg (fun z=>(z,())) (show (false)=validS x0 from by (first | (rw [← validS_impl (by assumption) (headS_y (by assumption) (by omega) (by assumption))];symm;assumption) | exact validS_no (by first | (right;left;assumption) | (left;exact headS_n (by first | (left;assumption) | (right;left;omega) | (right;right;assumption)))))))
      ·have hzh16 : (validG (x0.2.2.2.2.1.getD i (0, []))) = true := notF h16
       have hvh16:=validG_t (notF h16)
       rcases Bool.eq_false_or_eq_true (!(fitsS x0 (x0.2.2.2.2.1.getD i (0,[])).1 ((List.length (x0.2.2.2.2.1.getD i (0,[])).2:Nat):Int) (colsOf (x0.2.2.2.2.1.getD i (0,[])).2))) with h18 | h18
       ·have hzh18 : (fitsS x0 (x0.2.2.2.2.1.getD i (0, [])).1 ((List.length (x0.2.2.2.2.1.getD i (0, [])).2 : Nat) : Int) (colsOf (x0.2.2.2.2.1.getD i (0, [])).2)) = false := notT h18
        refine at_anyq [{},{},{ hint:=some (aB false) },{},{},{},{},{},{},{},{},{},{},{ hint:=some (aB true) },{},{},{},{},{},{},{},{},{},{},{},{},{},{},{},{},{}] { ts:=[1,2,6,77,78,79,88,89,90,91,92,93,94,95,96,97,100,101,102,103,104,105,106,107,108,109,110,111,112,113,114],os:=[1,6] } [Q_impl_IsValidGeneration (x0.2.2.2.2.1.getD i (0,[])),(AV.p (.c (.v (.bool (!(validG (x0.2.2.2.2.1.getD i (0,[])))))))=AV.p (.c (.v (.bool false)))),Q_impl_SymbolWidth (x0.2.2.2.2.1.getD i (0,[])),Q__impl_Sink_fits x0 (x0.2.2.2.2.1.getD i (0,[])).1 ((List.length (x0.2.2.2.2.1.getD i (0,[])).2:Nat):Int) (colsOf (x0.2.2.2.2.1.getD i (0,[])).2),(AV.p (.c (.v (.bool (!(fitsS x0 (x0.2.2.2.2.1.getD i (0,[])).1 ((List.length (x0.2.2.2.2.1.getD i (0,[])).2:Nat):Int) (colsOf (x0.2.2.2.2.1.getD i (0,[])).2))))))=AV.p (.c (.v (.bool true))))] gamOK hT mixed h (by kernel_rfl) ⟨(by exact (Sh.fit_getD hf0.2.2.2.2.1 i)),hint_bool (h16),(by exact (Sh.fit_getD hf0.2.2.2.2.1 i)),(by exact hf0),hint_bool (h18),trivial⟩ fun a w h=>then_normal ?_
        refine at_test true h (by kernel_rfl) (fun hh=>?_) (fun hh=>nomatch hh)
        refine wp_seq ?_
        refine at_regq [] { ts:=[1,2,6,77,78,79,88,89,90,91,92,93,94,95,96,97,100,101,102,103,104,105,106,107,108,109,110,111,112,113],os:=[1,6] } [] gamOK hT h (by kernel_rfl) trivial fun a w h=>then_normal (wp_ret (then_ret (in_ret (then_ret ?_))))
        have hs19:(allN (fun j=>genB x0 j && opnB x0 j) (List.length x0.2.2.2.2.1))=false:=by exact allN_at (i:=i) (by omega) (by exact and_f (by first | (left;exact genB_f (by first | (left;assumption) | (right;left;assumption) | (right;right;omega))) | (right;exact opnB_f (by assumption))))
        refine then_ret (in_ret (then_ret ?_))
        exact at_return (false,()) [] h (by kernel_rfl) trivial (congrArg (fun z=>(z,())) (show (false)=validS x0 from by (first | (rw [← validS_impl (by assumption) (headS_y (by assumption) (by omega) (by assumption))];symm;assumption) | exact validS_no (by first | (right;left;assumption) | (left;exact headS_n (by first | (left;assumption) | (right;left;omega) | (right;right;assumption)))))))
       ·have hzh18 : (fitsS x0 (x0.2.2.2.2.1.getD i (0, [])).1 ((List.length (x0.2.2.2.2.1.getD i (0, [])).2 : Nat) : Int) (colsOf (x0.2.2.2.2.1.getD i (0, [])).2)) = true := notF h18
        by_cases h20:((i:Nat):Int) > 0
        ·refine at_anyq [{}, {}, { hint := some (aB false) }, {}, {}, {}, {}, {}, {}, {}, {}, {}, {}, { hint := some (aB false) }, {}, {}, {}, { hint := some (aB true) }, {}, {}, {}, {}, {}, {}, { nw := true }, {}, {}, {}, {}, {}, {}] { ts := [1, 2, 6, 77, 78, 79, 88, 89, 90, 91, 92, 93, 94, 95, 96, 97, 100, 101, 102, 103, 104, 105, 106, 107, 108, 109, 110, 111, 112, 113, 114], os := [1, 6] } [Q_impl_IsValidGeneration (x0.2.2.2.2.1.getD i (0, [])), (AV.p (.c (.v (.bool (!(validG (x0.2.2.2.2.1.getD i (0, []))))))) = AV.p (.c (.v (.bool false)))), Q_impl_SymbolWidth (x0.2.2.2.2.1.getD i (0, [])), Q__impl_Sink_fits x0 (x0.2.2.2.2.1.getD i (0, [])).1 ((List.length (x0.2.2.2.2.1.getD i (0, [])).2 : Nat) : Int) (colsOf (x0.2.2.2.2.1.getD i (0, [])).2), (AV.p (.c (.v (.bool (!(fitsS x0 (x0.2.2.2.2.1.getD i (0, [])).1 ((List.length (x0.2.2.2.2.1.getD i (0, [])).2 : Nat) : Int) (colsOf (x0.2.2.2.2.1.getD i (0, [])).2)))))) = AV.p (.c (.v (.bool false)))), (AV.p (.c (.v (.bool (decide (((i : Nat) : Int) > 0))))) = AV.p (.c (.v (.bool true)))), I64 (((i : Nat) : Int) - 1), (0 : Int) ≤ ((i : Nat) : Int) - 1 ∧ ((i : Nat) : Int) - 1 < ((List.length x0.2.2.2.2.1 : Nat) : Int)] gamOK hT mixed h (by kernel_rfl) ⟨(by exact (Sh.fit_getD hf0.2.2.2.2.1 i)), hint_bool (h16), (by exact (Sh.fit_getD hf0.2.2.2.2.1 i)), (by exact hf0), hint_bool (h18), hint_bool (decide_eq_true h20), ⟨by first | omega | (simp only [lsA]; omega) | (simp <;> omega), by first | omega | (simp only [lsA]; omega) | (simp <;> omega)⟩, (by refine ⟨?_, ?_⟩ <;> (first | omega | (simp only [lsA]; omega) | (simp <;> omega))), trivial⟩ fun a w h => then_normal ?_
         refine at_test (decide ((x0.2.2.2.2.1.getD i (0,[])).1≤(x0.2.2.2.2.1.getD ((((i:Nat):Int) - 1).toNat) (0,[])).1)) h (by kernel_rfl) (fun h21=>?_) (fun h21=>?_)
         ·replace h21 : (x0.2.2.2.2.1.getD i (0, [])).1 ≤ (x0.2.2.2.2.1.getD ((((i : Nat) : Int) - 1).toNat) (0, [])).1 := of_decide_eq_true h21
          refine wp_seq ?_
          refine at_regq [] { ts:=[1,2,6,77,78,79,88,89,90,91,92,93,94,95,96,97,100,101,102,103,104,105,106,107,108,109,110,111,112,113],os:=[1,6] } [] gamOK hT h (by kernel_rfl) trivial fun a w h=>then_normal (wp_ret (then_ret (in_ret (then_ret ?_))))
          have hs22:(allN (fun j=>genB x0 j && opnB x0 j) (List.length x0.2.2.2.2.1))=false:=by exact allN_at (i:=i) (by omega) (by exact and_f (by first | (left;exact genB_f (by first | (left;assumption) | (right;left;assumption) | (right;right;omega))) | (right;exact opnB_f (by assumption))))
          refine then_ret (in_ret (then_ret ?_))
          exact at_return (false,()) [] h (by kernel_rfl) trivial (congrArg (fun z=>(z,())) (show (false)=validS x0 from by (first | (rw [← validS_impl (by assumption) (headS_y (by assumption) (by omega) (by assumption))];symm;assumption) | exact validS_no (by first | (right;left;assumption) | (left;exact headS_n (by first | (left;assumption) | (right;left;omega) | (right;right;assumption)))))))
         ·replace h21 : ¬ ((x0.2.2.2.2.1.getD i (0, [])).1 ≤ (x0.2.2.2.2.1.getD ((((i : Nat) : Int) - 1).toNat) (0, [])).1) := of_decide_eq_false h21
          refine wp_skip (then_normal (wp_seq ?_))
          refine at_regq [] { ts:=[1,2,8,77,78,79,88,89,90,91,92,93,94,95,96,97,100,101,102,103,104,105,106,107,108,109,110,111,112,113],os:=[1,6] } [Q__impl_Sink_decoderAt x0 (x0.2.2.2.2.1.getD i (0,[])).1] gamOK hT h (by kernel_rfl) ⟨(by exact hf0),trivial⟩ fun a w h=>then_normal (wp_seq ?_)
          refine at_regq [] { ts:=[1,2,77,78,79,88,89,90,91,92,93,94,95,96,97,100,101,102,103,104,105,106,107,108,109,110,111,112,113,122],os:=[1,6] } [] gamOK hT h (by kernel_rfl) trivial fun a w h=>then_normal ?_
          refine at_test ((D__impl_Sink_decoderAt x0 (x0.2.2.2.2.1.getD i (0,[])).1).2) h (by kernel_rfl) (fun h23=>?_) (fun h23=>?_)
          ·refine wp_seq ?_
           refine at_regq [] { ts:=[1,2,77,78,79,88,89,90,91,92,93,94,95,96,97,100,101,102,103,104,105,106,107,108,109,110,111,112,113],os:=[1,6] } [] gamOK hT h (by kernel_rfl) trivial fun a w h=>then_normal (wp_ret (in_ret (then_ret ?_)))
           have hs24:(allN (fun j=>genB x0 j && opnB x0 j) (List.length x0.2.2.2.2.1))=false:=by exact allN_at (i:=i) (by omega) (by exact and_f (by first | (left;exact genB_f (by first | (left;assumption) | (right;left;assumption) | (right;right;omega))) | (right;exact opnB_f (by assumption))))
           refine then_ret (in_ret (then_ret ?_))
           exact at_return (false,()) [] h (by kernel_rfl) trivial (congrArg (fun z=>(z,())) (show (false)=validS x0 from by (first | (rw [← validS_impl (by assumption) (headS_y (by assumption) (by omega) (by assumption))];symm;assumption) | exact validS_no (by first | (right;left;assumption) | (left;exact headS_n (by first | (left;assumption) | (right;left;omega) | (right;right;assumption)))))))
          ·refine wp_skip (in_normal (then_normal ?_))
           refine at_regq [{ nw:=true }] { ts:=[1,2,77,78,79,88,89,90,91,92,93,94,95,96,97,100,101,102,103,104,105,106,107,108,109,110,111,112,113],os:=[1,6] } [I64 (((i:Nat):Int)+1)] gamOK hT h (by kernel_rfl) ⟨⟨by first | omega | (simp only [lsA];omega) | (simp<;>omega),by first | omega | (simp only [lsA];omega) | (simp<;>omega)⟩,trivial⟩ fun a w h=>?_
           replace h:=at_out (σ':=⟨[(1,aP 1 0),(2,aB false),(77,aF s68 x0.2.2.2.2.1),(78,aI ((List.length x0.2.2.2.2.1:Nat):Int)),(79,aI (((i:Nat):Int)+1))],[(1,oX 31 [cI x0.1,cI x0.2.1,.ro (.int 3) x0.2.2.1,.ro s97 x0.2.2.2.1,.ro s68 x0.2.2.2.2.1,cI x0.2.2.2.2.2])]⟩) { ts:=[1,2,77,78,79],os:=[1] } h (by kernel_rfl)
           exact ⟨i+1,at_eq h (st_congr1 (fun (d0:Int)=>(⟨[(1,aP 1 0),(2,aB false),(77,aF s68 x0.2.2.2.2.1),(78,aI ((List.length x0.2.2.2.2.1:Nat):Int)),(79,aI d0)],[(1,oX 31 [cI x0.1,cI x0.2.1,.ro (.int 3) x0.2.2.1,.ro s97 x0.2.2.2.1,.ro s68 x0.2.2.2.2.1,cI x0.2.2.2.2.2])]⟩:St)) (show (((i:Nat):Int)+1:Int)=(((i+1):Nat):Int) from by first | with_reducible rfl | (omega) | rfl)),(by exact ⟨by omega,allN_succ hok1.2 (by exact and_t (genB_t (by assumption) (by assumption) (by omega)) (opnB_t (by assumption)))⟩),(by omega)⟩
        ·refine at_anyq [{}, {}, { hint := some (aB false) }, {}, {}, {}, {}, {}, {}, {}, {}, {}, {}, { hint := some (aB false) }, {}, {}, {}, { hint := some (aB false) }, {}, {}, {}, {}, {}, {}, {}, {}, {}, {}, {}, {}, {}] { ts := [1, 2, 6, 77, 78, 79, 88, 89, 90, 91, 92, 93, 94, 95, 96, 97, 100, 101, 102, 103, 104, 105, 106, 107, 108, 109, 110, 111, 112, 113, 114], os := [1, 6] } [Q_impl_IsValidGeneration (x0.2.2.2.2.1.getD i (0, [])), (AV.p (.c (.v (.bool (!(validG (x0.2.2.2.2.1.getD i (0, []))))))) = AV.p (.c (.v (.bool false)))), Q_impl_SymbolWidth (x0.2.2.2.2.1.getD i (0, [])), Q__impl_Sink_fits x0 (x0.2.2.2.2.1.getD i (0, [])).1 ((List.length (x0.2.2.2.2.1.getD i (0, [])).2 : Nat) : Int) (colsOf (x0.2.2.2.2.1.getD i (0, [])).2), (AV.p (.c (.v (.bool (!(fitsS x0 (x0.2.2.2.2.1.getD i (0, [])).1 ((List.length (x0.2.2.2.2.1.getD i (0, [])).2 : Nat) : Int) (colsOf (x0.2.2.2.2.1.getD i (0, [])).2)))))) = AV.p (.c (.v (.bool false)))), (AV.p (.c (.v (.bool (decide (((i : Nat) : Int) > 0))))) = AV.p (.c (.v (.bool false))))] gamOK hT mixed h (by kernel_rfl) ⟨(by exact (Sh.fit_getD hf0.2.2.2.2.1 i)), hint_bool (h16), (by exact (Sh.fit_getD hf0.2.2.2.2.1 i)), (by exact hf0), hint_bool (h18), hint_bool (decide_eq_false h20), trivial⟩ fun a w h => then_normal ?_
         refine at_test false h (by kernel_rfl) (fun hh=>nomatch hh) (fun hh=>?_)
         refine wp_skip (then_normal (wp_seq ?_))
         refine at_regq [] { ts:=[1,2,8,77,78,79,88,89,90,91,92,93,94,95,96,97,100,101,102,103,104,105,106,107,108,109,110,111,112,113],os:=[1,6] } [Q__impl_Sink_decoderAt x0 (x0.2.2.2.2.1.getD i (0,[])).1] gamOK hT h (by kernel_rfl) ⟨(by exact hf0),trivial⟩ fun a w h=>then_normal (wp_seq ?_)
         refine at_regq [] { ts:=[1,2,77,78,79,88,89,90,91,92,93,94,95,96,97,100,101,102,103,104,105,106,107,108,109,110,111,112,113,122],os:=[1,6] } [] gamOK hT h (by kernel_rfl) trivial fun a w h=>then_normal ?_
         refine at_test ((D__impl_Sink_decoderAt x0 (x0.2.2.2.2.1.getD i (0,[])).1).2) h (by kernel_rfl) (fun h25=>?_) (fun h25=>?_)
         ·refine wp_seq ?_
          refine at_regq [] { ts:=[1,2,77,78,79,88,89,90,91,92,93,94,95,96,97,100,101,102,103,104,105,106,107,108,109,110,111,112,113],os:=[1,6] } [] gamOK hT h (by kernel_rfl) trivial fun a w h=>then_normal (wp_ret (in_ret (then_ret ?_)))
          have hs26:(allN (fun j=>genB x0 j && opnB x0 j) (List.length x0.2.2.2.2.1))=false:=by exact allN_at (i:=i) (by omega) (by exact and_f (by first | (left;exact genB_f (by first | (left;assumption) | (right;left;assumption) | (right;right;omega))) | (right;exact opnB_f (by assumption))))
          refine then_ret (in_ret (then_ret ?_))
          exact at_return (false,()) [] h (by kernel_rfl) trivial (congrArg (fun z=>(z,())) (show (false)=validS x0 from by (first | (rw [← validS_impl (by assumption) (headS_y (by assumption) (by omega) (by assumption))];symm;assumption) | exact validS_no (by first | (right;left;assumption) | (left;exact headS_n (by first | (left;assumption) | (right;left;omega) | (right;right;assumption)))))))
         ·refine wp_skip (in_normal (then_normal ?_))
          refine at_regq [{ nw:=true }] { ts:=[1,2,77,78,79,88,89,90,91,92,93,94,95,96,97,100,101,102,103,104,105,106,107,108,109,110,111,112,113],os:=[1,6] } [I64 (((i:Nat):Int)+1)] gamOK hT h (by kernel_rfl) ⟨⟨by first | omega | (simp only [lsA];omega) | (simp<;>omega),by first | omega | (simp only [lsA];omega) | (simp<;>omega)⟩,trivial⟩ fun a w h=>?_
          replace h:=at_out (σ':=⟨[(1,aP 1 0),(2,aB false),(77,aF s68 x0.2.2.2.2.1),(78,aI ((List.length x0.2.2.2.2.1:Nat):Int)),(79,aI (((i:Nat):Int)+1))],[(1,oX 31 [cI x0.1,cI x0.2.1,.ro (.int 3) x0.2.2.1,.ro s97 x0.2.2.2.1,.ro s68 x0.2.2.2.2.1,cI x0.2.2.2.2.2])]⟩) { ts:=[1,2,77,78,79],os:=[1] } h (by kernel_rfl)
          exact ⟨i+1,at_eq h (st_congr1 (fun (d0:Int)=>(⟨[(1,aP 1 0),(2,aB false),(77,aF s68 x0.2.2.2.2.1),(78,aI ((List.length x0.2.2.2.2.1:Nat):Int)),(79,aI d0)],[(1,oX 31 [cI x0.1,cI x0.2.1,.ro (.int 3) x0.2.2.1,.ro s97 x0.2.2.2.1,.ro s68 x0.2.2.2.2.1,cI x0.2.2.2.2.2])]⟩:St)) (show (((i:Nat):Int)+1:Int)=(((i+1):Nat):Int) from by first | with_reducible rfl | (omega) | rfl)),(by exact ⟨by omega,allN_succ hok1.2 (by exact and_t (genB_t (by assumption) (by assumption) (by omega)) (opnB_t (by assumption)))⟩),(by omega)⟩
     ·replace h15 : ¬ (((i : Nat) : Int) < ((List.length x0.2.2.2.2.1 : Nat) : Int)) := of_decide_eq_false h15
      refine wp_exit (then_exit ?_)
      have hs27:(allN (fun j=>genB x0 j && opnB x0 j) (List.length x0.2.2.2.2.1))=true:=by exact allN_eq (by omega) hok1.1 hok1.2
      refine then_exit (in_hit (then_normal (wp_seq ?_)))
      refine at_regq [] { ts:=[2],os:=[] } [] gamOK hT h (by kernel_rfl) trivial fun a w h=>then_normal (wp_ret ?_)
      exact at_return (true,()) [] h (by kernel_rfl) trivial (congrArg (fun z=>(z,())) (show (true)=validS x0 from by (first | (rw [← validS_impl (by assumption) (headS_y (by assumption) (by omega) (by assumption))];symm;assumption) | exact validS_no (by first | (right;left;assumption) | (left;exact headS_n (by first | (left;assumption) | (right;left;omega) | (right;right;assumption)))))))

abbrev Q_spec_IsValidSink:=(fun (x0:T31)=>Sh.fit s31 x0)
def S_spec_IsValidSink:Sum:={ fid:=27,dom:=[s31],cod:=[(.bool 4)],dp:=true,fz:=false,pre:=fun x=>Q_spec_IsValidSink x.1,g:=fun x=>((validS x.1),()) }
def S_spec_IsValidSink_tab:List (Nat×Sum):=[(59,S_spec_l1In),(60,S_spec_l30Sizes),(61,S_spec_IsValidDecoder),(62,S_spec_IsComplete),(63,S_spec_l30Fits),(64,S_spec_l30Done),(65,S_spec_IsValidGeneration),(66,S_spec_ColumnsOf)]
theorem S_spec_IsValidSink_ok:FnOK Try.prog 27 S_spec_IsValidSink:=by
 refine at_enter 134 (fun x=>⟨[(0,aG [cI x.1.1,cI x.1.2.1,.ro (.int 3) x.1.2.2.1,.ro s97 x.1.2.2.2.1,.ro s68 x.1.2.2.2.2.1,cI x.1.2.2.2.2.2])],[]⟩) Try.func27 rfl (by kernel_rfl) (fun x=>rfl) ?_
 rintro w0 Z0 ⟨x0,u⟩ a w
 revert x0
 intro (x0:T31) hpre hlens h
 replace hpre:Q_spec_IsValidSink x0:=hpre
 have hT:TabOK Try.prog S_spec_IsValidSink_tab:=(.cons S_spec_l1In_ok (.cons S_spec_l30Sizes_ok (.cons S_spec_IsValidDecoder_ok (.cons S_spec_IsComplete_ok (.cons S_spec_l30Fits_ok (.cons S_spec_l30Done_ok (.cons S_spec_IsValidGeneration_ok (.cons S_spec_ColumnsOf_ok .nil))))))))
 have hf0:Sh.fit s31 x0:=hpre
 have hn0_1:List.length x0.2.2.1≤1073741824:=hf0.2.2.1.1
 have hn0_2:List.length x0.2.2.2.1≤1073741824:=hf0.2.2.2.1.1
 have hn0_3:List.length x0.2.2.2.2.1≤1073741824:=hf0.2.2.2.2.1.1
 refine wp_seq ?_
 refine at_regq [{ ids:=[1] }] { ts:=[1,2],os:=[1] } [] gamOK hT h (by kernel_rfl) trivial fun a w h=>then_normal (wp_seq (wp_seq ?_))
 rcases Bool.eq_false_or_eq_true (!(inR x0.1 0 7)) with h1 | h1
 ·have hzh1 : (inR x0.1 0 7) = false := notT h1
  have hvh1:=inR_f (notT h1)
  refine at_regq [{},{},{},{ hint:=some (aB true) }] { ts:=[1,2,37],os:=[1] } [True,(AV.p (.c (.v (.bool (!(inR x0.1 0 7)))))=AV.p (.c (.v (.bool true))))] gamOK hT h (by kernel_rfl) ⟨trivial,hint_bool (h1),trivial⟩ fun a w h=>then_normal ?_
  refine at_test true h (by kernel_rfl) (fun hh=>?_) (fun hh=>nomatch hh)
  refine wp_seq ?_
  refine at_regq [] { ts:=[1,2],os:=[1] } [] gamOK hT h (by kernel_rfl) trivial fun a w h=>then_normal (wp_ret (then_ret ?_))
  exact at_return (false,()) [] h (by kernel_rfl) trivial (congrArg (fun z=>(z,())) (show (false)=validS x0 from by (first | (rw [← validS_spec (by assumption) (headS_y2 (by assumption) (by assumption) (by assumption) (by omega) (by assumption))];symm;assumption) | exact validS_no (by first | (right;right;assumption) | (left;exact headS_n2 (by first | (left;assumption) | (right;left;assumption) | (right;right;left;assumption) | (right;right;right;left;omega) | (right;right;right;right;assumption)))))))
 ·have hzh1 : (inR x0.1 0 7) = true := notF h1
  have hvh1:=inR_t (notF h1)
  rcases Bool.eq_false_or_eq_true (!(inR x0.2.1 1 16)) with h2 | h2
  ·have hzh2 : (inR x0.2.1 1 16) = false := notT h2
   have hvh2:=inR_f (notT h2)
   refine at_regq [{},{},{},{ hint:=some (aB false) },{},{},{},{},{ hint:=some (aB true) }] { ts:=[1,2,37],os:=[1] } [True,(AV.p (.c (.v (.bool (!(inR x0.1 0 7)))))=AV.p (.c (.v (.bool false)))),True,(AV.p (.c (.v (.bool (!(inR x0.2.1 1 16)))))=AV.p (.c (.v (.bool true))))] gamOK hT h (by kernel_rfl) ⟨trivial,hint_bool (h1),trivial,hint_bool (h2),trivial⟩ fun a w h=>then_normal ?_
   refine at_test true h (by kernel_rfl) (fun hh=>?_) (fun hh=>nomatch hh)
   refine wp_seq ?_
   refine at_regq [] { ts:=[1,2],os:=[1] } [] gamOK hT h (by kernel_rfl) trivial fun a w h=>then_normal (wp_ret (then_ret ?_))
   exact at_return (false,()) [] h (by kernel_rfl) trivial (congrArg (fun z=>(z,())) (show (false)=validS x0 from by (first | (rw [← validS_spec (by assumption) (headS_y2 (by assumption) (by assumption) (by assumption) (by omega) (by assumption))];symm;assumption) | exact validS_no (by first | (right;right;assumption) | (left;exact headS_n2 (by first | (left;assumption) | (right;left;assumption) | (right;right;left;assumption) | (right;right;right;left;omega) | (right;right;right;right;assumption)))))))
  ·have hzh2 : (inR x0.2.1 1 16) = true := notF h2
   have hvh2:=inR_t (notF h2)
   rcases Bool.eq_false_or_eq_true (!(D_spec_l30Sizes x0.2.2.1)) with h3 | h3
   ·have hzh3 : (D_spec_l30Sizes x0.2.2.1) = false := notT h3
    refine at_regq [{},{},{},{ hint:=some (aB false) },{},{},{},{},{ hint:=some (aB false) },{},{},{},{},{},{ hint:=some (aB true) }] { ts:=[1,2,37],os:=[1] } [True,(AV.p (.c (.v (.bool (!(inR x0.1 0 7)))))=AV.p (.c (.v (.bool false)))),True,(AV.p (.c (.v (.bool (!(inR x0.2.1 1 16)))))=AV.p (.c (.v (.bool false)))),True,(AV.p (.c (.v (.bool (!(D_spec_l30Sizes x0.2.2.1)))))=AV.p (.c (.v (.bool true))))] gamOK hT h (by kernel_rfl) ⟨trivial,hint_bool (h1),trivial,hint_bool (h2),trivial,hint_bool (h3),trivial⟩ fun a w h=>then_normal ?_
    refine at_test true h (by kernel_rfl) (fun hh=>?_) (fun hh=>nomatch hh)
    refine wp_seq ?_
    refine at_regq [] { ts:=[1,2],os:=[1] } [] gamOK hT h (by kernel_rfl) trivial fun a w h=>then_normal (wp_ret (then_ret ?_))
    exact at_return (false,()) [] h (by kernel_rfl) trivial (congrArg (fun z=>(z,())) (show (false)=validS x0 from by (first | (rw [← validS_spec (by assumption) (headS_y2 (by assumption) (by assumption) (by assumption) (by omega) (by assumption))];symm;assumption) | exact validS_no (by first | (right;right;assumption) | (left;exact headS_n2 (by first | (left;assumption) | (right;left;assumption) | (right;right;left;assumption) | (right;right;right;left;omega) | (right;right;right;right;assumption)))))))
   ·have hzh3 : (D_spec_l30Sizes x0.2.2.1) = true := notF h3
    by_cases h4:((List.length x0.2.2.2.1:Nat):Int) > 4
    ·refine at_regq [{}, {}, {}, { hint := some (aB false) }, {}, {}, {}, {}, { hint := some (aB false) }, {}, {}, {}, {}, {}, { hint := some (aB false) }, {}, {}, {}, {}, {}, { hint := some (aB true) }] { ts := [1, 2, 37], os := [1] } [True, (AV.p (.c (.v (.bool (!(inR x0.1 0 7))))) = AV.p (.c (.v (.bool false)))), True, (AV.p (.c (.v (.bool (!(inR x0.2.1 1 16))))) = AV.p (.c (.v (.bool false)))), True, (AV.p (.c (.v (.bool (!(D_spec_l30Sizes x0.2.2.1))))) = AV.p (.c (.v (.bool false)))), (AV.p (.c (.v (.bool (decide (((List.length x0.2.2.2.1 : Nat) : Int) > 4))))) = AV.p (.c (.v (.bool true))))] gamOK hT h (by kernel_rfl) ⟨trivial, hint_bool (h1), trivial, hint_bool (h2), trivial, hint_bool (h3), hint_bool (decide_eq_true h4), trivial⟩ fun a w h => then_normal ?_
     refine at_test true h (by kernel_rfl) (fun hh=>?_) (fun hh=>nomatch hh)
     refine wp_seq ?_
     refine at_regq [] { ts:=[1,2],os:=[1] } [] gamOK hT h (by kernel_rfl) trivial fun a w h=>then_normal (wp_ret (then_ret ?_))
     exact at_return (false,()) [] h (by kernel_rfl) trivial (congrArg (fun z=>(z,())) (show (false)=validS x0 from by (first | (rw [← validS_spec (by assumption) (headS_y2 (by assumption) (by assumption) (by assumption) (by omega) (by assumption))];symm;assumption) | exact validS_no (by first | (right;right;assumption) | (left;exact headS_n2 (by first | (left;assumption) | (right;left;assumption) | (right;right;left;assumption) | (right;right;right;left;omega) | (right;right;right;right;assumption)))))))
    ·refine at_regq [{}, {}, {}, { hint := some (aB false) }, {}, {}, {}, {}, { hint := some (aB false) }, {}, {}, {}, {}, {}, { hint := some (aB false) }, {}, {}, {}, {}, {}, { hint := some (aB false) }] { ts := [1, 2, 37], os := [1] } [True, (AV.p (.c (.v (.bool (!(inR x0.1 0 7))))) = AV.p (.c (.v (.bool false)))), True, (AV.p (.c (.v (.bool (!(inR x0.2.1 1 16))))) = AV.p (.c (.v (.bool false)))), True, (AV.p (.c (.v (.bool (!(D_spec_l30Sizes x0.2.2.1))))) = AV.p (.c (.v (.bool false)))), (AV.p (.c (.v (.bool (decide (((List.length x0.2.2.2.1 : Nat) : Int) > 4))))) = AV.p (.c (.v (.bool false)))), True] gamOK hT h (by kernel_rfl) ⟨trivial, hint_bool (h1), trivial, hint_bool (h2), trivial, hint_bool (h3), hint_bool (decide_eq_false h4), trivial, trivial⟩ fun a w h => then_normal ?_
     refine at_test (!(inR x0.2.2.2.2.2 0 ((List.length x0.2.2.2.2.1:Nat):Int))) h (by kernel_rfl) (fun h5=>?_) (fun h5=>?_)
     ·replace h5 : (inR x0.2.2.2.2.2 0 ((List.length x0.2.2.2.2.1 : Nat) : Int)) = false := notT h5
      have hvh5:=inR_f h5
      refine wp_seq ?_
      refine at_regq [] { ts:=[1,2],os:=[1] } [] gamOK hT h (by kernel_rfl) trivial fun a w h=>then_normal (wp_ret (then_ret ?_))
      exact at_return (false,()) [] h (by kernel_rfl) trivial (congrArg (fun z=>(z,())) (show (false)=validS x0 from by (first | (rw [← validS_spec (by assumption) (headS_y2 (by assumption) (by assumption) (by assumption) (by omega) (by assumption))];symm;assumption) | exact validS_no (by first | (right;right;assumption) | (left;exact headS_n2 (by first | (left;assumption) | (right;left;assumption) | (right;right;left;assumption) | (right;right;right;left;omega) | (right;right;right;right;assumption)))))))
     ·replace h5 : (inR x0.2.2.2.2.2 0 ((List.length x0.2.2.2.2.1 : Nat) : Int)) = true := notF h5
      have hvh5:=inR_t h5
      refine wp_skip (then_normal (wp_seq (wp_seq ?_)))
      refine at_regq [] { ts:=[1,2,3],os:=[1] } [] gamOK hT h (by kernel_rfl) trivial fun a w h=>then_normal (wp_block ?_)
      replace h:=at_out (σ':=⟨[(1,aP 1 0),(2,aB false),(3,aI 0)],[(1,oX 31 [cI x0.1,cI x0.2.1,.ro (.int 3) x0.2.2.1,.ro s97 x0.2.2.2.1,.ro s68 x0.2.2.2.2.1,cI x0.2.2.2.2.2])]⟩) { ts:=[1,2,3],os:=[1] } h (by kernel_rfl)
      refine at_loop (fun i:Nat=>(⟨[(1,aP 1 0),(2,aB false),(3,aI ((i:Nat):Int))],[(1,oX 31 [cI x0.1,cI x0.2.1,.ro (.int 3) x0.2.2.1,.ro s97 x0.2.2.2.1,.ro s68 x0.2.2.2.2.1,cI x0.2.2.2.2.2])]⟩:St)) (fun i=>(i≤(List.length x0.2.2.2.1)∧allN (fun i=>decB x0 i && clsB x0 i) i=true)) (fun i=>(List.length x0.2.2.2.1) - i) (0) h (st_congr1 (fun (d0:Int)=>(⟨[(1,aP 1 0),(2,aB false),(3,aI d0)],[(1,oX 31 [cI x0.1,cI x0.2.1,.ro (.int 3) x0.2.2.1,.ro s97 x0.2.2.2.1,.ro s68 x0.2.2.2.2.1,cI x0.2.2.2.2.2])]⟩:St)) (show (0:Int)=(((0):Nat):Int) from by first | with_reducible rfl | (rfl) | rfl)) (by exact ⟨Nat.zero_le _,rfl⟩) ?_
      intro i a w hok0 h
      refine wp_seq (wp_seq ?_)
      refine at_regq [] { ts:=[1,2,3,42],os:=[1] } [] gamOK hT h (by kernel_rfl) trivial fun a w h=>then_normal ?_
      refine at_test (decide (((i:Nat):Int) < ((List.length x0.2.2.2.1:Nat):Int))) h (by kernel_rfl) (fun h6=>?_) (fun h6=>?_)
      ·replace h6 : ((i : Nat) : Int) < ((List.length x0.2.2.2.1 : Nat) : Int) := of_decide_eq_true h6
       refine wp_skip (then_normal (wp_seq (wp_block (wp_seq ?_))))
       refine at_regq [{},{},{},{},{},{ ids:=[2] }] { ts:=[1,2,3,4],os:=[1,2] } [(0:Int)≤((i:Nat):Int)∧((i:Nat):Int) < ((List.length x0.2.2.2.1:Nat):Int)] gamOK hT h (by kernel_rfl) ⟨(by refine ⟨?_,?_⟩<;>(first | omega | (simp only [lsA];omega) | (simp<;>omega))),trivial⟩ fun a w h=>then_normal (wp_seq ?_)
       rcases Bool.eq_false_or_eq_true (!(validD (x0.2.2.2.1.getD i (0,(0,(0,(0,[]))))))) with h7 | h7
       ·have hzh7 : (validD (x0.2.2.2.1.getD i (0, (0, (0, (0, [])))))) = false := notT h7
        refine at_anyq [{},{},{ hint:=some (aB true) },{},{},{},{},{},{},{},{},{},{},{},{},{},{},{},{},{},{},{},{},{},{},{},{},{},{},{},{},{},{},{},{},{},{},{},{},{}] { ts:=[1,2,3,54,55,58,59,60,61,62,63,64,65,66,69,70,71,72,73,74,75,76,77,78,79,80,81,82,85,86,87,88,89],os:=[1] } [Q_spec_IsValidDecoder (x0.2.2.2.1.getD i (0,(0,(0,(0,[]))))),(AV.p (.c (.v (.bool (!(validD (x0.2.2.2.1.getD i (0,(0,(0,(0,[]))))))))))=AV.p (.c (.v (.bool true))))] gamOK hT mixed h (by kernel_rfl) ⟨(by exact (Sh.fit_getD hf0.2.2.2.1 i)),hint_bool (h7),trivial⟩ fun a w h=>then_normal ?_
        refine at_test true h (by kernel_rfl) (fun hh=>?_) (fun hh=>nomatch hh)
        refine wp_seq ?_
        refine at_regq [] { ts:=[1,2,3,54,55,58,59,60,61,62,63,64,65,66,69,70,71,72,73,74,75,76,77,78,79,80,81,82,85,86,87,88],os:=[1] } [] gamOK hT h (by kernel_rfl) trivial fun a w h=>then_normal (wp_ret (in_ret (then_ret ?_)))
        have hs8:(allN (fun i=>decB x0 i && clsB x0 i) (List.length x0.2.2.2.1))=false:=by exact allN_at (i:=i) (by omega) (by exact and_f (by first | (left;exact decB_f (by first | (left;assumption) | (right;left;simp_all [D_spec_IsComplete];done) | (right;right;left;assumption) | (right;right;right;omega))) | (right;simp_all [clsB,D_spec_l30Done];done)))
        refine then_ret (in_ret (then_ret ?_))
        exact at_return (false,()) [] h (by kernel_rfl) trivial (congrArg (fun z=>(z,())) (show (false)=validS x0 from by (first | (rw [← validS_spec (by assumption) (headS_y2 (by assumption) (by assumption) (by assumption) (by omega) (by assumption))];symm;assumption) | exact validS_no (by first | (right;right;assumption) | (left;exact headS_n2 (by first | (left;assumption) | (right;left;assumption) | (right;right;left;assumption) | (right;right;right;left;omega) | (right;right;right;right;assumption)))))))
       ·have hzh7 : (validD (x0.2.2.2.1.getD i (0, (0, (0, (0, [])))))) = true := notF h7
        have hvh7:=validD_t (notF h7)
        rcases Bool.eq_false_or_eq_true ((D_spec_IsComplete (x0.2.2.2.1.getD i (0,(0,(0,(0,[]))))))) with h9 | h9
        ·refine at_anyq [{}, {}, { hint := some (aB false) }, {}, {}, { hint := some (aB true) }, {}, {}, {}, {}, {}, {}, {}, {}, {}, {}, {}, {}, {}, {}, {}, {}, {}, {}, {}, {}, {}, {}, {}, {}, {}, {}, {}, {}, {}, {}, {}, {}, {}, {}] { ts := [1, 2, 3, 54, 55, 58, 59, 60, 61, 62, 63, 64, 65, 66, 69, 70, 71, 72, 73, 74, 75, 76, 77, 78, 79, 80, 81, 82, 85, 86, 87, 88, 89], os := [1] } [Q_spec_IsValidDecoder (x0.2.2.2.1.getD i (0, (0, (0, (0, []))))), (AV.p (.c (.v (.bool (!(validD (x0.2.2.2.1.getD i (0, (0, (0, (0, [])))))))))) = AV.p (.c (.v (.bool false)))), Q_spec_IsComplete (x0.2.2.2.1.getD i (0, (0, (0, (0, []))))), (AV.p (.c (.v (.bool ((D_spec_IsComplete (x0.2.2.2.1.getD i (0, (0, (0, (0, [])))))))))) = AV.p (.c (.v (.bool true))))] gamOK hT mixed h (by kernel_rfl) ⟨(by exact (Sh.fit_getD hf0.2.2.2.1 i)), hint_bool (h7), (by exact (Sh.fit_getD hf0.2.2.2.1 i)), hint_bool (h9), trivial⟩ fun a w h => then_normal ?_
         refine at_test true h (by kernel_rfl) (fun hh=>?_) (fun hh=>nomatch hh)
         refine wp_seq ?_
         refine at_regq [] { ts:=[1,2,3,54,55,58,59,60,61,62,63,64,65,66,69,70,71,72,73,74,75,76,77,78,79,80,81,82,85,86,87,88],os:=[1] } [] gamOK hT h (by kernel_rfl) trivial fun a w h=>then_normal (wp_ret (in_ret (then_ret ?_)))
         have hs10:(allN (fun i=>decB x0 i && clsB x0 i) (List.length x0.2.2.2.1))=false:=by exact allN_at (i:=i) (by omega) (by exact and_f (by first | (left;exact decB_f (by first | (left;assumption) | (right;left;simp_all [D_spec_IsComplete];done) | (right;right;left;assumption) | (right;right;right;omega))) | (right;simp_all [clsB,D_spec_l30Done];done)))
         refine then_ret (in_ret (then_ret ?_))
         exact at_return (false,()) [] h (by kernel_rfl) trivial (congrArg (fun z=>(z,())) (show (false)=validS x0 from by (first | (rw [← validS_spec (by assumption) (headS_y2 (by assumption) (by assumption) (by assumption) (by omega) (by assumption))];symm;assumption) | exact validS_no (by first | (right;right;assumption) | (left;exact headS_n2 (by first | (left;assumption) | (right;left;assumption) | (right;right;left;assumption) | (right;right;right;left;omega) | (right;right;right;right;assumption)))))))
        ·rcases Bool.eq_false_or_eq_true (!(fitsS x0 (x0.2.2.2.1.getD i (0, (0, (0, (0, []))))).1 (x0.2.2.2.1.getD i (0, (0, (0, (0, []))))).2.1 (x0.2.2.2.1.getD i (0, (0, (0, (0, []))))).2.2.1)) with h11 | h11
         ·have hzh11 : (fitsS x0 (x0.2.2.2.1.getD i (0, (0, (0, (0, []))))).1 (x0.2.2.2.1.getD i (0, (0, (0, (0, []))))).2.1 (x0.2.2.2.1.getD i (0, (0, (0, (0, []))))).2.2.1) = false := notT h11
          refine at_anyq [{},{},{ hint:=some (aB false) },{},{},{ hint:=some (aB false) },{},{},{},{},{},{},{},{},{},{},{ hint:=some (aB true) },{},{},{},{},{},{},{},{},{},{},{},{},{},{},{},{},{},{},{},{},{},{},{}] { ts:=[1,2,3,54,55,58,59,60,61,62,63,64,65,66,69,70,71,72,73,74,75,76,77,78,79,80,81,82,85,86,87,88,89],os:=[1,2] } [Q_spec_IsValidDecoder (x0.2.2.2.1.getD i (0,(0,(0,(0,[]))))),(AV.p (.c (.v (.bool (!(validD (x0.2.2.2.1.getD i (0,(0,(0,(0,[]))))))))))=AV.p (.c (.v (.bool false)))),Q_spec_IsComplete (x0.2.2.2.1.getD i (0,(0,(0,(0,[]))))),(AV.p (.c (.v (.bool ((D_spec_IsComplete (x0.2.2.2.1.getD i (0,(0,(0,(0,[]))))))))))=AV.p (.c (.v (.bool false)))),Q_spec_l30Fits x0 (x0.2.2.2.1.getD i (0,(0,(0,(0,[]))))).1 (x0.2.2.2.1.getD i (0,(0,(0,(0,[]))))).2.1 (x0.2.2.2.1.getD i (0,(0,(0,(0,[]))))).2.2.1,(AV.p (.c (.v (.bool (!(fitsS x0 (x0.2.2.2.1.getD i (0,(0,(0,(0,[]))))).1 (x0.2.2.2.1.getD i (0,(0,(0,(0,[]))))).2.1 (x0.2.2.2.1.getD i (0,(0,(0,(0,[]))))).2.2.1)))))=AV.p (.c (.v (.bool true))))] gamOK hT mixed h (by kernel_rfl) ⟨(by exact (Sh.fit_getD hf0.2.2.2.1 i)),hint_bool (h7),(by exact (Sh.fit_getD hf0.2.2.2.1 i)),hint_bool (h9),(by exact hf0),hint_bool (h11),trivial⟩ fun a w h=>then_normal ?_
          refine at_test true h (by kernel_rfl) (fun hh=>?_) (fun hh=>nomatch hh)
          refine wp_seq ?_
          refine at_regq [] { ts:=[1,2,3,54,55,58,59,60,61,62,63,64,65,66,69,70,71,72,73,74,75,76,77,78,79,80,81,82,85,86,87,88],os:=[1,2] } [] gamOK hT h (by kernel_rfl) trivial fun a w h=>then_normal (wp_ret (in_ret (then_ret ?_)))
          have hs12:(allN (fun i=>decB x0 i && clsB x0 i) (List.length x0.2.2.2.1))=false:=by exact allN_at (i:=i) (by omega) (by exact and_f (by first | (left;exact decB_f (by first | (left;assumption) | (right;left;simp_all [D_spec_IsComplete];done) | (right;right;left;assumption) | (right;right;right;omega))) | (right;simp_all [clsB,D_spec_l30Done];done)))
          refine then_ret (in_ret (then_ret ?_))
          exact at_return (false,()) [] h (by kernel_rfl) trivial (congrArg (fun z=>(z,())) (show (false)=validS x0 from by (first | (rw [← validS_spec (by assumption) (headS_y2 (by assumption) (by assumption) (by assumption) (by omega) (by assumption))];symm;assumption) | exact validS_no (by first | (right;right;assumption) | (left;exact headS_n2 (by first | (left;assumption) | (right;left;assumption) | (right;right;left;assumption) | (right;right;right;left;omega) | (right;right;right;right;assumption)))))))
         ·have hzh11 : (fitsS x0 (x0.2.2.2.1.getD i (0, (0, (0, (0, []))))).1 (x0.2.2.2.1.getD i (0, (0, (0, (0, []))))).2.1 (x0.2.2.2.1.getD i (0, (0, (0, (0, []))))).2.2.1) = true := notF h11
          by_cases h13:((i:Nat):Int) > 0
          ·by_cases h14 : (x0.2.2.2.1.getD ((((i : Nat) : Int) - 1).toNat) (0, (0, (0, (0, []))))).1 ≥ (x0.2.2.2.1.getD i (0, (0, (0, (0, []))))).1
           ·refine at_anyq [{}, {}, { hint := some (aB false) }, {}, {}, { hint := some (aB false) }, {}, {}, {}, {}, {}, {}, {}, {}, {}, {}, { hint := some (aB false) }, {}, {}, {}, { hint := some (aB true) }, {}, {}, {}, {}, { nw := true }, {}, {}, {}, {}, {}, { hint := some (aB true) }, {}, {}, {}, {}, {}, {}, {}, {}] { ts := [1, 2, 3, 54, 55, 58, 59, 60, 61, 62, 63, 64, 65, 66, 69, 70, 71, 72, 73, 74, 75, 76, 77, 78, 79, 80, 81, 82, 85, 86, 87, 88, 89], os := [1, 2] } [Q_spec_IsValidDecoder (x0.2.2.2.1.getD i (0, (0, (0, (0, []))))), (AV.p (.c (.v (.bool (!(validD (x0.2.2.2.1.getD i (0, (0, (0, (0, [])))))))))) = AV.p (.c (.v (.bool false)))), Q_spec_IsComplete (x0.2.2.2.1.getD i (0, (0, (0, (0, []))))), (AV.p (.c (.v (.bool ((D_spec_IsComplete (x0.2.2.2.1.getD i (0, (0, (0, (0, [])))))))))) = AV.p (.c (.v (.bool false)))), Q_spec_l30Fits x0 (x0.2.2.2.1.getD i (0, (0, (0, (0, []))))).1 (x0.2.2.2.1.getD i (0, (0, (0, (0, []))))).2.1 (x0.2.2.2.1.getD i (0, (0, (0, (0, []))))).2.2.1, (AV.p (.c (.v (.bool (!(fitsS x0 (x0.2.2.2.1.getD i (0, (0, (0, (0, []))))).1 (x0.2.2.2.1.getD i (0, (0, (0, (0, []))))).2.1 (x0.2.2.2.1.getD i (0, (0, (0, (0, []))))).2.2.1))))) = AV.p (.c (.v (.bool false)))), (AV.p (.c (.v (.bool (decide (((i : Nat) : Int) > 0))))) = AV.p (.c (.v (.bool true)))), I64 (((i : Nat) : Int) - 1), (0 : Int) ≤ ((i : Nat) : Int) - 1 ∧ ((i : Nat) : Int) - 1 < ((List.length x0.2.2.2.1 : Nat) : Int), (AV.p (.c (.v (.bool (decide ((x0.2.2.2.1.getD ((((i : Nat) : Int) - 1).toNat) (0, (0, (0, (0, []))))).1 ≥ (x0.2.2.2.1.getD i (0, (0, (0, (0, []))))).1))))) = AV.p (.c (.v (.bool true))))] gamOK hT mixed h (by kernel_rfl) ⟨(by exact (Sh.fit_getD hf0.2.2.2.1 i)), hint_bool (h7), (by exact (Sh.fit_getD hf0.2.2.2.1 i)), hint_bool (h9), (by exact hf0), hint_bool (h11), hint_bool (decide_eq_true h13), ⟨by first | omega | (simp only [lsA]; omega) | (simp <;> omega), by first | omega | (simp only [lsA]; omega) | (simp <;> omega)⟩, (by refine ⟨?_, ?_⟩ <;> (first | omega | (simp only [lsA]; omega) | (simp <;> omega))), hint_bool (decide_eq_true h14), trivial⟩ fun a w h => then_normal ?_
            refine at_test true h (by kernel_rfl) (fun hh=>?_) (fun hh=>nomatch hh)
            refine wp_seq ?_
            refine at_regq [] { ts:=[1,2,3,54,55,58,59,60,61,62,63,64,65,66,69,70,71,72,73,74,75,76,77,78,79,80,81,82,85,86,87,88],os:=[1,2] } [] gamOK hT h (by kernel_rfl) trivial fun a w h=>then_normal (wp_ret (in_ret (then_ret ?_)))
            have hs15:(allN (fun i=>decB x0 i && clsB x0 i) (List.length x0.2.2.2.1))=false:=by exact allN_at (i:=i) (by omega) (by exact and_f (by first | (left;exact decB_f (by first | (left;assumption) | (right;left;simp_all [D_spec_IsComplete];done) | (right;right;left;assumption) | (right;right;right;omega))) | (right;simp_all [clsB,D_spec_l30Done];done)))
            refine then_ret (in_ret (then_ret ?_))
            exact at_return (false,()) [] h (by kernel_rfl) trivial (congrArg (fun z=>(z,())) (show (false)=validS x0 from by (first | (rw [← validS_spec (by assumption) (headS_y2 (by assumption) (by assumption) (by assumption) (by omega) (by assumption))];symm;assumption) | exact validS_no (by first | (right;right;assumption) | (left;exact headS_n2 (by first | (left;assumption) | (right;left;assumption) | (right;right;left;assumption) | (right;right;right;left;omega) | (right;right;right;right;assumption)))))))
           ·refine at_anyq [{}, {}, { hint := some (aB false) }, {}, {}, { hint := some (aB false) }, {}, {}, {}, {}, {}, {}, {}, {}, {}, {}, { hint := some (aB false) }, {}, {}, {}, { hint := some (aB true) }, {}, {}, {}, {}, { nw := true }, {}, {}, {}, {}, {}, { hint := some (aB false) }, {}, {}, {}, {}, {}, {}, {}, {}] { ts := [1, 2, 3, 54, 55, 58, 59, 60, 61, 62, 63, 64, 65, 66, 69, 70, 71, 72, 73, 74, 75, 76, 77, 78, 79, 80, 81, 82, 85, 86, 87, 88, 89], os := [1, 2] } [Q_spec_IsValidDecoder (x0.2.2.2.1.getD i (0, (0, (0, (0, []))))), (AV.p (.c (.v (.bool (!(validD (x0.2.2.2.1.getD i (0, (0, (0, (0, [])))))))))) = AV.p (.c (.v (.bool false)))), Q_spec_IsComplete (x0.2.2.2.1.getD i (0, (0, (0, (0, []))))), (AV.p (.c (.v (.bool ((D_spec_IsComplete (x0.2.2.2.1.getD i (0, (0, (0, (0, [])))))))))) = AV.p (.c (.v (.bool false)))), Q_spec_l30Fits x0 (x0.2.2.2.1.getD i (0, (0, (0, (0, []))))).1 (x0.2.2.2.1.getD i (0, (0, (0, (0, []))))).2.1 (x0.2.2.2.1.getD i (0, (0, (0, (0, []))))).2.2.1, (AV.p (.c (.v (.bool (!(fitsS x0 (x0.2.2.2.1.getD i (0, (0, (0, (0, []))))).1 (x0.2.2.2.1.getD i (0, (0, (0, (0, []))))).2.1 (x0.2.2.2.1.getD i (0, (0, (0, (0, []))))).2.2.1))))) = AV.p (.c (.v (.bool false)))), (AV.p (.c (.v (.bool (decide (((i : Nat) : Int) > 0))))) = AV.p (.c (.v (.bool true)))), I64 (((i : Nat) : Int) - 1), (0 : Int) ≤ ((i : Nat) : Int) - 1 ∧ ((i : Nat) : Int) - 1 < ((List.length x0.2.2.2.1 : Nat) : Int), (AV.p (.c (.v (.bool (decide ((x0.2.2.2.1.getD ((((i : Nat) : Int) - 1).toNat) (0, (0, (0, (0, []))))).1 ≥ (x0.2.2.2.1.getD i (0, (0, (0, (0, []))))).1))))) = AV.p (.c (.v (.bool false)))), Q_spec_l30Done x0 (x0.2.2.2.1.getD i (0, (0, (0, (0, []))))).1] gamOK hT mixed h (by kernel_rfl) ⟨(by exact (Sh.fit_getD hf0.2.2.2.1 i)), hint_bool (h7), (by exact (Sh.fit_getD hf0.2.2.2.1 i)), hint_bool (h9), (by exact hf0), hint_bool (h11), hint_bool (decide_eq_true h13), ⟨by first | omega | (simp only [lsA]; omega) | (simp <;> omega), by first | omega | (simp only [lsA]; omega) | (simp <;> omega)⟩, (by refine ⟨?_, ?_⟩ <;> (first | omega | (simp only [lsA]; omega) | (simp <;> omega))), hint_bool (decide_eq_false h14), (by exact hf0), trivial⟩ fun a w h => then_normal ?_
            refine at_test ((D_spec_l30Done x0 (x0.2.2.2.1.getD i (0,(0,(0,(0,[]))))).1)) h (by kernel_rfl) (fun h16=>?_) (fun h16=>?_)
            ·refine wp_seq ?_
             refine at_regq [] { ts:=[1,2,3,54,55,58,59,60,61,62,63,64,65,66,69,70,71,72,73,74,75,76,77,78,79,80,81,82,85,86,87,88],os:=[1,2] } [] gamOK hT h (by kernel_rfl) trivial fun a w h=>then_normal (wp_ret (in_ret (then_ret ?_)))
             have hs17:(allN (fun i=>decB x0 i && clsB x0 i) (List.length x0.2.2.2.1))=false:=by exact allN_at (i:=i) (by omega) (by exact and_f (by first | (left;exact decB_f (by first | (left;assumption) | (right;left;simp_all [D_spec_IsComplete];done) | (right;right;left;assumption) | (right;right;right;omega))) | (right;simp_all [clsB,D_spec_l30Done];done)))
             refine then_ret (in_ret (then_ret ?_))
             exact at_return (false,()) [] h (by kernel_rfl) trivial (congrArg (fun z=>(z,())) (show (false)=validS x0 from by (first | (rw [← validS_spec (by assumption) (headS_y2 (by assumption) (by assumption) (by assumption) (by omega) (by assumption))];symm;assumption) | exact validS_no (by first | (right;right;assumption) | (left;exact headS_n2 (by first | (left;assumption) | (right;left;assumption) | (right;right;left;assumption) | (right;right;right;left;omega) | (right;right;right;right;assumption)))))))
            ·refine wp_skip (in_normal (then_normal ?_))
             refine at_regq [{},{ nw:=true }] { ts:=[1,2,3,54,55,58,59,60,61,62,63,64,65,66,69,70,71,72,73,74,75,76,77,78,79,80,81,82,85,86,87,88],os:=[1,2] } [I64 (((i:Nat):Int)+1)] gamOK hT h (by kernel_rfl) ⟨⟨by first | omega | (simp only [lsA];omega) | (simp<;>omega),by first | omega | (simp only [lsA];omega) | (simp<;>omega)⟩,trivial⟩ fun a w h=>?_
             replace h:=at_out (σ':=⟨[(1,aP 1 0),(2,aB false),(3,aI (((i:Nat):Int)+1))],[(1,oX 31 [cI x0.1,cI x0.2.1,.ro (.int 3) x0.2.2.1,.ro s97 x0.2.2.2.1,.ro s68 x0.2.2.2.2.1,cI x0.2.2.2.2.2])]⟩) { ts:=[1,2,3],os:=[1] } h (by kernel_rfl)
             exact ⟨i+1,at_eq h (st_congr1 (fun (d0:Int)=>(⟨[(1,aP 1 0),(2,aB false),(3,aI d0)],[(1,oX 31 [cI x0.1,cI x0.2.1,.ro (.int 3) x0.2.2.1,.ro s97 x0.2.2.2.1,.ro s68 x0.2.2.2.2.1,cI x0.2.2.2.2.2])]⟩:St)) (show (((i:Nat):Int)+1:Int)=(((i+1):Nat):Int) from by first | with_reducible rfl | (omega) | rfl)),(by exact ⟨by omega,allN_succ hok0.2 (by exact and_t (decB_t (by assumption) (isC_f (by assumption) (by assumption)) (by assumption) (by omega)) (clsB_t (by assumption)))⟩),(by omega)⟩
          ·refine at_anyq [{}, {}, { hint := some (aB false) }, {}, {}, { hint := some (aB false) }, {}, {}, {}, {}, {}, {}, {}, {}, {}, {}, { hint := some (aB false) }, {}, {}, {}, { hint := some (aB false) }, {}, {}, {}, {}, {}, {}, {}, {}, {}, {}, {}, {}, {}, {}, {}, {}, {}, {}, {}] { ts := [1, 2, 3, 54, 55, 58, 59, 60, 61, 62, 63, 64, 65, 66, 69, 70, 71, 72, 73, 74, 75, 76, 77, 78, 79, 80, 81, 82, 85, 86, 87, 88, 89], os := [1, 2] } [Q_spec_IsValidDecoder (x0.2.2.2.1.getD i (0, (0, (0, (0, []))))), (AV.p (.c (.v (.bool (!(validD (x0.2.2.2.1.getD i (0, (0, (0, (0, [])))))))))) = AV.p (.c (.v (.bool false)))), Q_spec_IsComplete (x0.2.2.2.1.getD i (0, (0, (0, (0, []))))), (AV.p (.c (.v (.bool ((D_spec_IsComplete (x0.2.2.2.1.getD i (0, (0, (0, (0, [])))))))))) = AV.p (.c (.v (.bool false)))), Q_spec_l30Fits x0 (x0.2.2.2.1.getD i (0, (0, (0, (0, []))))).1 (x0.2.2.2.1.getD i (0, (0, (0, (0, []))))).2.1 (x0.2.2.2.1.getD i (0, (0, (0, (0, []))))).2.2.1, (AV.p (.c (.v (.bool (!(fitsS x0 (x0.2.2.2.1.getD i (0, (0, (0, (0, []))))).1 (x0.2.2.2.1.getD i (0, (0, (0, (0, []))))).2.1 (x0.2.2.2.1.getD i (0, (0, (0, (0, []))))).2.2.1))))) = AV.p (.c (.v (.bool false)))), (AV.p (.c (.v (.bool (decide (((i : Nat) : Int) > 0))))) = AV.p (.c (.v (.bool false)))), Q_spec_l30Done x0 (x0.2.2.2.1.getD i (0, (0, (0, (0, []))))).1] gamOK hT mixed h (by kernel_rfl) ⟨(by exact (Sh.fit_getD hf0.2.2.2.1 i)), hint_bool (h7), (by exact (Sh.fit_getD hf0.2.2.2.1 i)), hint_bool (h9), (by exact hf0), hint_bool (h11), hint_bool (decide_eq_false h13), (by exact hf0), trivial⟩ fun a w h => then_normal ?_
           refine at_test ((D_spec_l30Done x0 (x0.2.2.2.1.getD i (0,(0,(0,(0,[]))))).1)) h (by kernel_rfl) (fun h18=>?_) (fun h18=>?_)
           ·refine wp_seq ?_
            refine at_regq [] { ts:=[1,2,3,54,55,58,59,60,61,62,63,64,65,66,69,70,71,72,73,74,75,76,77,78,79,80,81,82,85,86,87,88],os:=[1,2] } [] gamOK hT h (by kernel_rfl) trivial fun a w h=>then_normal (wp_ret (in_ret (then_ret ?_)))
            have hs19:(allN (fun i=>decB x0 i && clsB x0 i) (List.length x0.2.2.2.1))=false:=by exact allN_at (i:=i) (by omega) (by exact and_f (by first | (left;exact decB_f (by first | (left;assumption) | (right;left;simp_all [D_spec_IsComplete];done) | (right;right;left;assumption) | (right;right;right;omega))) | (right;simp_all [clsB,D_spec_l30Done];done)))
            refine then_ret (in_ret (then_ret ?_))
            exact at_return (false,()) [] h (by kernel_rfl) trivial (congrArg (fun z=>(z,())) (show (false)=validS x0 from by (first | (rw [← validS_spec (by assumption) (headS_y2 (by assumption) (by assumption) (by assumption) (by omega) (by assumption))];symm;assumption) | exact validS_no (by first | (right;right;assumption) | (left;exact headS_n2 (by first | (left;assumption) | (right;left;assumption) | (right;right;left;assumption) | (right;right;right;left;omega) | (right;right;right;right;assumption)))))))
           ·refine wp_skip (in_normal (then_normal ?_))
            refine at_regq [{},{ nw:=true }] { ts:=[1,2,3,54,55,58,59,60,61,62,63,64,65,66,69,70,71,72,73,74,75,76,77,78,79,80,81,82,85,86,87,88],os:=[1,2] } [I64 (((i:Nat):Int)+1)] gamOK hT h (by kernel_rfl) ⟨⟨by first | omega | (simp only [lsA];omega) | (simp<;>omega),by first | omega | (simp only [lsA];omega) | (simp<;>omega)⟩,trivial⟩ fun a w h=>?_
            replace h:=at_out (σ':=⟨[(1,aP 1 0),(2,aB false),(3,aI (((i:Nat):Int)+1))],[(1,oX 31 [cI x0.1,cI x0.2.1,.ro (.int 3) x0.2.2.1,.ro s97 x0.2.2.2.1,.ro s68 x0.2.2.2.2.1,cI x0.2.2.2.2.2])]⟩) { ts:=[1,2,3],os:=[1] } h (by kernel_rfl)
            exact ⟨i+1,at_eq h (st_congr1 (fun (d0:Int)=>(⟨[(1,aP 1 0),(2,aB false),(3,aI d0)],[(1,oX 31 [cI x0.1,cI x0.2.1,.ro (.int 3) x0.2.2.1,.ro s97 x0.2.2.2.1,.ro s68 x0.2.2.2.2.1,cI x0.2.2.2.2.2])]⟩:St)) (show (((i:Nat):Int)+1:Int)=(((i+1):Nat):Int) from by first | with_reducible rfl | (omega) | rfl)),(by exact ⟨by omega,allN_succ hok0.2 (by exact and_t (decB_t (by assumption) (isC_f (by assumption) (by assumption)) (by assumption) (by omega)) (clsB_t (by assumption)))⟩),(by omega)⟩
      ·replace h6 : ¬ (((i : Nat) : Int) < ((List.length x0.2.2.2.1 : Nat) : Int)) := of_decide_eq_false h6
       refine wp_exit (then_exit ?_)
       have hs20:(allN (fun i=>decB x0 i && clsB x0 i) (List.length x0.2.2.2.1))=true:=by exact allN_eq (by omega) hok0.1 hok0.2
       refine then_exit (in_hit (then_normal (wp_seq (wp_seq ?_))))
       refine at_regq [] { ts:=[1,2,5],os:=[1] } [] gamOK hT h (by kernel_rfl) trivial fun a w h=>then_normal (wp_block ?_)
       replace h:=at_out (σ':=⟨[(1,aP 1 0),(2,aB false),(5,aI 0)],[(1,oX 31 [cI x0.1,cI x0.2.1,.ro (.int 3) x0.2.2.1,.ro s97 x0.2.2.2.1,.ro s68 x0.2.2.2.2.1,cI x0.2.2.2.2.2])]⟩) { ts:=[1,2,5],os:=[1] } h (by kernel_rfl)
       refine at_loop (fun i:Nat=>(⟨[(1,aP 1 0),(2,aB false),(5,aI ((i:Nat):Int))],[(1,oX 31 [cI x0.1,cI x0.2.1,.ro (.int 3) x0.2.2.1,.ro s97 x0.2.2.2.1,.ro s68 x0.2.2.2.2.1,cI x0.2.2.2.2.2])]⟩:St)) (fun i=>(i≤(List.length x0.2.2.2.2.1)∧allN (genB x0) i=true)) (fun i=>(List.length x0.2.2.2.2.1) - i) (0) h (st_congr1 (fun (d0:Int)=>(⟨[(1,aP 1 0),(2,aB false),(5,aI d0)],[(1,oX 31 [cI x0.1,cI x0.2.1,.ro (.int 3) x0.2.2.1,.ro s97 x0.2.2.2.1,.ro s68 x0.2.2.2.2.1,cI x0.2.2.2.2.2])]⟩:St)) (show (0:Int)=(((0):Nat):Int) from by first | with_reducible rfl | (rfl) | rfl)) (by exact ⟨Nat.zero_le _,rfl⟩) ?_
       intro i a w hok1 h
       refine wp_seq (wp_seq ?_)
       refine at_regq [] { ts:=[1,2,5,94],os:=[1] } [] gamOK hT h (by kernel_rfl) trivial fun a w h=>then_normal ?_
       refine at_test (decide (((i:Nat):Int) < ((List.length x0.2.2.2.2.1:Nat):Int))) h (by kernel_rfl) (fun h21=>?_) (fun h21=>?_)
       ·replace h21 : ((i : Nat) : Int) < ((List.length x0.2.2.2.2.1 : Nat) : Int) := of_decide_eq_true h21
        refine wp_skip (then_normal (wp_seq (wp_block (wp_seq ?_))))
        refine at_regq [{},{},{},{},{},{ ids:=[3] }] { ts:=[1,2,5,6],os:=[1,3] } [(0:Int)≤((i:Nat):Int)∧((i:Nat):Int) < ((List.length x0.2.2.2.2.1:Nat):Int)] gamOK hT h (by kernel_rfl) ⟨(by refine ⟨?_,?_⟩<;>(first | omega | (simp only [lsA];omega) | (simp<;>omega))),trivial⟩ fun a w h=>then_normal (wp_seq ?_)
        rcases Bool.eq_false_or_eq_true (!(validG (x0.2.2.2.2.1.getD i (0,[])))) with h22 | h22
        ·have hzh22 : (validG (x0.2.2.2.2.1.getD i (0, []))) = false := notT h22
         refine at_anyq [{},{},{ hint:=some (aB true) },{},{},{},{},{},{},{},{},{},{},{},{},{},{},{},{},{},{},{},{},{},{},{},{},{},{},{},{},{}] { ts:=[1,2,5,106,107,108,109,110,111,112,113,114,115,116,119,120,121,122,123,124,125,126,127,128,129,130,131,132,133],os:=[1] } [Q_spec_IsValidGeneration (x0.2.2.2.2.1.getD i (0,[])),(AV.p (.c (.v (.bool (!(validG (x0.2.2.2.2.1.getD i (0,[])))))))=AV.p (.c (.v (.bool true))))] gamOK hT mixed h (by kernel_rfl) ⟨(by exact (Sh.fit_getD hf0.2.2.2.2.1 i)),hint_bool (h22),trivial⟩ fun a w h=>then_normal ?_
         refine at_test true h (by kernel_rfl) (fun hh=>?_) (fun hh=>nomatch hh)
         refine wp_seq ?_
         refine at_regq [] { ts:=[1,2,5,106,107,108,109,110,111,112,113,114,115,116,119,120,121,122,123,124,125,126,127,128,129,130,131,132],os:=[1] } [] gamOK hT h (by kernel_rfl) trivial fun a w h=>then_normal (wp_ret (in_ret (then_ret ?_)))
         have hs23:(allN (genB x0) (List.length x0.2.2.2.2.1))=false:=by exact allN_at (i:=i) (by omega) (by exact genB_f (by first | (left;assumption) | (right;left;assumption) | (right;right;omega)))
         refine then_ret (in_ret (then_ret ?_))
         exact at_return (false,()) [] h (by kernel_rfl) trivial (congrArg (fun z=>(z,())) (show (false)=validS x0 from by (first | (rw [← validS_spec (by assumption) (headS_y2 (by assumption) (by assumption) (by assumption) (by omega) (by assumption))];symm;assumption) | exact validS_no (by first | (right;right;assumption) | (left;exact headS_n2 (by first | (left;assumption) | (right;left;assumption) | (right;right;left;assumption) | (right;right;right;left;omega) | (right;right;right;right;assumption)))))))
        ·have hzh22 : (validG (x0.2.2.2.2.1.getD i (0, []))) = true := notF h22
         have hvh22:=validG_t (notF h22)
         rcases Bool.eq_false_or_eq_true (!(fitsS x0 (x0.2.2.2.2.1.getD i (0,[])).1 ((List.length (x0.2.2.2.2.1.getD i (0,[])).2:Nat):Int) (colsOf (x0.2.2.2.2.1.getD i (0,[])).2))) with h24 | h24
         ·have hzh24 : (fitsS x0 (x0.2.2.2.2.1.getD i (0, [])).1 ((List.length (x0.2.2.2.2.1.getD i (0, [])).2 : Nat) : Int) (colsOf (x0.2.2.2.2.1.getD i (0, [])).2)) = false := notT h24
          refine at_anyq [{},{},{ hint:=some (aB false) },{},{},{},{},{},{},{},{},{},{},{},{ hint:=some (aB true) },{},{},{},{},{},{},{},{},{},{},{},{},{},{},{},{},{}] { ts:=[1,2,5,106,107,108,109,110,111,112,113,114,115,116,119,120,121,122,123,124,125,126,127,128,129,130,131,132,133],os:=[1,3] } [Q_spec_IsValidGeneration (x0.2.2.2.2.1.getD i (0,[])),(AV.p (.c (.v (.bool (!(validG (x0.2.2.2.2.1.getD i (0,[])))))))=AV.p (.c (.v (.bool false)))),Q_spec_ColumnsOf (x0.2.2.2.2.1.getD i (0,[])).2,Q_spec_l30Fits x0 (x0.2.2.2.2.1.getD i (0,[])).1 ((List.length (x0.2.2.2.2.1.getD i (0,[])).2:Nat):Int) (colsOf (x0.2.2.2.2.1.getD i (0,[])).2),(AV.p (.c (.v (.bool (!(fitsS x0 (x0.2.2.2.2.1.getD i (0,[])).1 ((List.length (x0.2.2.2.2.1.getD i (0,[])).2:Nat):Int) (colsOf (x0.2.2.2.2.1.getD i (0,[])).2))))))=AV.p (.c (.v (.bool true))))] gamOK hT mixed h (by kernel_rfl) ⟨(by exact (Sh.fit_getD hf0.2.2.2.2.1 i)),hint_bool (h22),(by exact (Sh.fit_getD hf0.2.2.2.2.1 i).2),(by exact hf0),hint_bool (h24),trivial⟩ fun a w h=>then_normal ?_
          refine at_test true h (by kernel_rfl) (fun hh=>?_) (fun hh=>nomatch hh)
          refine wp_seq ?_
          refine at_regq [] { ts:=[1,2,5,106,107,108,109,110,111,112,113,114,115,116,119,120,121,122,123,124,125,126,127,128,129,130,131,132],os:=[1,3] } [] gamOK hT h (by kernel_rfl) trivial fun a w h=>then_normal (wp_ret (in_ret (then_ret ?_)))
          have hs25:(allN (genB x0) (List.length x0.2.2.2.2.1))=false:=by exact allN_at (i:=i) (by omega) (by exact genB_f (by first | (left;assumption) | (right;left;assumption) | (right;right;omega)))
          refine then_ret (in_ret (then_ret ?_))
          exact at_return (false,()) [] h (by kernel_rfl) trivial (congrArg (fun z=>(z,())) (show (false)=validS x0 from by (first | (rw [← validS_spec (by assumption) (headS_y2 (by assumption) (by assumption) (by assumption) (by omega) (by assumption))];symm;assumption) | exact validS_no (by first | (right;right;assumption) | (left;exact headS_n2 (by first | (left;assumption) | (right;left;assumption) | (right;right;left;assumption) | (right;right;right;left;omega) | (right;right;right;right;assumption)))))))
         ·have hzh24 : (fitsS x0 (x0.2.2.2.2.1.getD i (0, [])).1 ((List.length (x0.2.2.2.2.1.getD i (0, [])).2 : Nat) : Int) (colsOf (x0.2.2.2.2.1.getD i (0, [])).2)) = true := notF h24
          by_cases h26:((i:Nat):Int) > 0
          ·refine at_anyq [{}, {}, { hint := some (aB false) }, {}, {}, {}, {}, {}, {}, {}, {}, {}, {}, {}, { hint := some (aB false) }, {}, {}, {}, { hint := some (aB true) }, {}, {}, {}, {}, { nw := true }, {}, {}, {}, {}, {}, {}, {}, {}] { ts := [1, 2, 5, 106, 107, 108, 109, 110, 111, 112, 113, 114, 115, 116, 119, 120, 121, 122, 123, 124, 125, 126, 127, 128, 129, 130, 131, 132, 133], os := [1, 3] } [Q_spec_IsValidGeneration (x0.2.2.2.2.1.getD i (0, [])), (AV.p (.c (.v (.bool (!(validG (x0.2.2.2.2.1.getD i (0, []))))))) = AV.p (.c (.v (.bool false)))), Q_spec_ColumnsOf (x0.2.2.2.2.1.getD i (0, [])).2, Q_spec_l30Fits x0 (x0.2.2.2.2.1.getD i (0, [])).1 ((List.length (x0.2.2.2.2.1.getD i (0, [])).2 : Nat) : Int) (colsOf (x0.2.2.2.2.1.getD i (0, [])).2), (AV.p (.c (.v (.bool (!(fitsS x0 (x0.2.2.2.2.1.getD i (0, [])).1 ((List.length (x0.2.2.2.2.1.getD i (0, [])).2 : Nat) : Int) (colsOf (x0.2.2.2.2.1.getD i (0, [])).2)))))) = AV.p (.c (.v (.bool false)))), (AV.p (.c (.v (.bool (decide (((i : Nat) : Int) > 0))))) = AV.p (.c (.v (.bool true)))), I64 (((i : Nat) : Int) - 1), (0 : Int) ≤ ((i : Nat) : Int) - 1 ∧ ((i : Nat) : Int) - 1 < ((List.length x0.2.2.2.2.1 : Nat) : Int)] gamOK hT mixed h (by kernel_rfl) ⟨(by exact (Sh.fit_getD hf0.2.2.2.2.1 i)), hint_bool (h22), (by exact (Sh.fit_getD hf0.2.2.2.2.1 i).2), (by exact hf0), hint_bool (h24), hint_bool (decide_eq_true h26), ⟨by first | omega | (simp only [lsA]; omega) | (simp <;> omega), by first | omega | (simp only [lsA]; omega) | (simp <;> omega)⟩, (by refine ⟨?_, ?_⟩ <;> (first | omega | (simp only [lsA]; omega) | (simp <;> omega))), trivial⟩ fun a w h => then_normal ?_
           refine at_test (decide ((x0.2.2.2.2.1.getD ((((i:Nat):Int) - 1).toNat) (0,[])).1≥(x0.2.2.2.2.1.getD i (0,[])).1)) h (by kernel_rfl) (fun h27=>?_) (fun h27=>?_)
           ·replace h27 : (x0.2.2.2.2.1.getD ((((i : Nat) : Int) - 1).toNat) (0, [])).1 ≥ (x0.2.2.2.2.1.getD i (0, [])).1 := of_decide_eq_true h27
            refine wp_seq ?_
            refine at_regq [] { ts:=[1,2,5,106,107,108,109,110,111,112,113,114,115,116,119,120,121,122,123,124,125,126,127,128,129,130,131,132],os:=[1,3] } [] gamOK hT h (by kernel_rfl) trivial fun a w h=>then_normal (wp_ret (in_ret (then_ret ?_)))
            have hs28:(allN (genB x0) (List.length x0.2.2.2.2.1))=false:=by exact allN_at (i:=i) (by omega) (by exact genB_f (by first | (left;assumption) | (right;left;assumption) | (right;right;omega)))
            refine then_ret (in_ret (then_ret ?_))
            exact at_return (false,()) [] h (by kernel_rfl) trivial (congrArg (fun z=>(z,())) (show (false)=validS x0 from by (first | (rw [← validS_spec (by assumption) (headS_y2 (by assumption) (by assumption) (by assumption) (by omega) (by assumption))];symm;assumption) | exact validS_no (by first | (right;right;assumption) | (left;exact headS_n2 (by first | (left;assumption) | (right;left;assumption) | (right;right;left;assumption) | (right;right;right;left;omega) | (right;right;right;right;assumption)))))))
           ·replace h27 : ¬ ((x0.2.2.2.2.1.getD ((((i : Nat) : Int) - 1).toNat) (0, [])).1 ≥ (x0.2.2.2.2.1.getD i (0, [])).1) := of_decide_eq_false h27
            refine wp_skip (in_normal (then_normal ?_))
            refine at_regq [{},{ nw:=true }] { ts:=[1,2,5,106,107,108,109,110,111,112,113,114,115,116,119,120,121,122,123,124,125,126,127,128,129,130,131,132],os:=[1,3] } [I64 (((i:Nat):Int)+1)] gamOK hT h (by kernel_rfl) ⟨⟨by first | omega | (simp only [lsA];omega) | (simp<;>omega),by first | omega | (simp only [lsA];omega) | (simp<;>omega)⟩,trivial⟩ fun a w h=>?_
            replace h:=at_out (σ':=⟨[(1,aP 1 0),(2,aB false),(5,aI (((i:Nat):Int)+1))],[(1,oX 31 [cI x0.1,cI x0.2.1,.ro (.int 3) x0.2.2.1,.ro s97 x0.2.2.2.1,.ro s68 x0.2.2.2.2.1,cI x0.2.2.2.2.2])]⟩) { ts:=[1,2,5],os:=[1] } h (by kernel_rfl)
            exact ⟨i+1,at_eq h (st_congr1 (fun (d0:Int)=>(⟨[(1,aP 1 0),(2,aB false),(5,aI d0)],[(1,oX 31 [cI x0.1,cI x0.2.1,.ro (.int 3) x0.2.2.1,.ro s97 x0.2.2.2.1,.ro s68 x0.2.2.2.2.1,cI x0.2.2.2.2.2])]⟩:St)) (show (((i:Nat):Int)+1:Int)=(((i+1):Nat):Int) from by first | with_reducible rfl | (omega) | rfl)),(by exact ⟨by omega,allN_succ hok1.2 (by exact genB_t (by assumption) (by assumption) (by omega))⟩),(by omega)⟩
          ·refine at_anyq [{}, {}, { hint := some (aB false) }, {}, {}, {}, {}, {}, {}, {}, {}, {}, {}, {}, { hint := some (aB false) }, {}, {}, {}, { hint := some (aB false) }, {}, {}, {}, {}, {}, {}, {}, {}, {}, {}, {}, {}, {}] { ts := [1, 2, 5, 106, 107, 108, 109, 110, 111, 112, 113, 114, 115, 116, 119, 120, 121, 122, 123, 124, 125, 126, 127, 128, 129, 130, 131, 132, 133], os := [1, 3] } [Q_spec_IsValidGeneration (x0.2.2.2.2.1.getD i (0, [])), (AV.p (.c (.v (.bool (!(validG (x0.2.2.2.2.1.getD i (0, []))))))) = AV.p (.c (.v (.bool false)))), Q_spec_ColumnsOf (x0.2.2.2.2.1.getD i (0, [])).2, Q_spec_l30Fits x0 (x0.2.2.2.2.1.getD i (0, [])).1 ((List.length (x0.2.2.2.2.1.getD i (0, [])).2 : Nat) : Int) (colsOf (x0.2.2.2.2.1.getD i (0, [])).2), (AV.p (.c (.v (.bool (!(fitsS x0 (x0.2.2.2.2.1.getD i (0, [])).1 ((List.length (x0.2.2.2.2.1.getD i (0, [])).2 : Nat) : Int) (colsOf (x0.2.2.2.2.1.getD i (0, [])).2)))))) = AV.p (.c (.v (.bool false)))), (AV.p (.c (.v (.bool (decide (((i : Nat) : Int) > 0))))) = AV.p (.c (.v (.bool false))))] gamOK hT mixed h (by kernel_rfl) ⟨(by exact (Sh.fit_getD hf0.2.2.2.2.1 i)), hint_bool (h22), (by exact (Sh.fit_getD hf0.2.2.2.2.1 i).2), (by exact hf0), hint_bool (h24), hint_bool (decide_eq_false h26), trivial⟩ fun a w h => then_normal ?_
           refine at_test false h (by kernel_rfl) (fun hh=>nomatch hh) (fun hh=>?_)
           refine wp_skip (in_normal (then_normal ?_))
           refine at_regq [{},{ nw:=true }] { ts:=[1,2,5,106,107,108,109,110,111,112,113,114,115,116,119,120,121,122,123,124,125,126,127,128,129,130,131,132],os:=[1,3] } [I64 (((i:Nat):Int)+1)] gamOK hT h (by kernel_rfl) ⟨⟨by first | omega | (simp only [lsA];omega) | (simp<;>omega),by first | omega | (simp only [lsA];omega) | (simp<;>omega)⟩,trivial⟩ fun a w h=>?_
           replace h:=at_out (σ':=⟨[(1,aP 1 0),(2,aB false),(5,aI (((i:Nat):Int)+1))],[(1,oX 31 [cI x0.1,cI x0.2.1,.ro (.int 3) x0.2.2.1,.ro s97 x0.2.2.2.1,.ro s68 x0.2.2.2.2.1,cI x0.2.2.2.2.2])]⟩) { ts:=[1,2,5],os:=[1] } h (by kernel_rfl)
           exact ⟨i+1,at_eq h (st_congr1 (fun (d0:Int)=>(⟨[(1,aP 1 0),(2,aB false),(5,aI d0)],[(1,oX 31 [cI x0.1,cI x0.2.1,.ro (.int 3) x0.2.2.1,.ro s97 x0.2.2.2.1,.ro s68 x0.2.2.2.2.1,cI x0.2.2.2.2.2])]⟩:St)) (show (((i:Nat):Int)+1:Int)=(((i+1):Nat):Int) from by first | with_reducible rfl | (omega) | rfl)),(by exact ⟨by omega,allN_succ hok1.2 (by exact genB_t (by assumption) (by assumption) (by omega))⟩),(by omega)⟩
       ·replace h21 : ¬ (((i : Nat) : Int) < ((List.length x0.2.2.2.2.1 : Nat) : Int)) := of_decide_eq_false h21
        refine wp_exit (then_exit ?_)
        have hs29:(allN (genB x0) (List.length x0.2.2.2.2.1))=true:=by exact allN_eq (by omega) hok1.1 hok1.2
        refine then_exit (in_hit (then_normal (wp_seq ?_)))
        refine at_regq [] { ts:=[2],os:=[] } [] gamOK hT h (by kernel_rfl) trivial fun a w h=>then_normal (wp_ret ?_)
        exact at_return (true,()) [] h (by kernel_rfl) trivial (congrArg (fun z=>(z,())) (show (true)=validS x0 from by (first | (rw [← validS_spec (by assumption) (headS_y2 (by assumption) (by assumption) (by assumption) (by omega) (by assumption))];symm;assumption) | exact validS_no (by first | (right;right;assumption) | (left;exact headS_n2 (by first | (left;assumption) | (right;left;assumption) | (right;right;left;assumption) | (right;right;right;left;omega) | (right;right;right;right;assumption)))))))

abbrev Q__impl_Generation_clone:=(fun (x0:T68)=>Sh.fit s68 x0)
def S__impl_Generation_clone:Sum:={ fid:=71,dom:=[s68],cod:=[s68],dp:=true,fz:=false,pre:=fun x=>Q__impl_Generation_clone x.1,g:=fun x=>(((idD s68) x.1),()) }
def S__impl_Generation_clone_tab:List (Nat×Sum):=[(111,S_impl_copyMatrix)]
theorem S__impl_Generation_clone_ok:FnOK Try.prog 71 S__impl_Generation_clone:=by
 refine at_enter 9 (fun x=>⟨[(0,aG [cI x.1.1,.ro s22 x.1.2])],[]⟩) Try.func71 rfl (by kernel_rfl) (fun x=>rfl) ?_
 rintro w0 Z0 ⟨x0,u⟩ a w
 revert x0
 intro (x0:T68) hpre hlens h
 replace hpre:Q__impl_Generation_clone x0:=hpre
 have hT:TabOK Try.prog S__impl_Generation_clone_tab:=(.cons S_impl_copyMatrix_ok .nil)
 have hf0:Sh.fit s68 x0:=hpre
 have hn0_1:List.length x0.2≤1073741824:=hf0.2.1
 refine wp_seq ?_
 refine at_regq [{ ids:=[1] },{ ids:=[2] }] { ts:=[1,2],os:=[1,2] } [] gamOK hT h (by kernel_rfl) trivial fun a w h=>then_normal (wp_seq ?_)
 refine at_anyq [{},{},{},{},{ ids:=[3] },{},{}] { ts:=[2],os:=[2,3] } [Q_impl_copyMatrix x0.2] gamOK hT mixed h (by kernel_rfl) ⟨(by exact hf0.2),trivial⟩ fun a w h=>then_normal (wp_ret ?_)
 exact at_return (x0,()) [] h (by kernel_rfl) trivial (congrArg (fun z=>(z,())) (show (x0)=(idD s68) x0 from by rfl))

abbrev Q_spec_l10Copy:=(fun (x0:T68)=>Sh.fit s68 x0)
def S_spec_l10Copy:Sum:={ fid:=58,dom:=[s68],cod:=[s68],dp:=false,fz:=false,pre:=fun x=>Q_spec_l10Copy x.1,g:=fun x=>(((idD s68) x.1),()) }
def S_spec_l10Copy_tab:List (Nat×Sum):=[(103,S_spec_l6Copy)]
theorem S_spec_l10Copy_ok:FnOK Try.prog 58 S_spec_l10Copy:=by
 refine at_enter 9 (fun x=>⟨[(0,aG [cI x.1.1,.ro s22 x.1.2])],[]⟩) Try.func58 rfl (by kernel_rfl) (fun x=>rfl) ?_
 rintro w0 Z0 ⟨x0,u⟩ a w
 revert x0
 intro (x0:T68) hpre hlens h
 replace hpre:Q_spec_l10Copy x0:=hpre
 have hT:TabOK Try.prog S_spec_l10Copy_tab:=(.cons S_spec_l6Copy_ok .nil)
 have hf0:Sh.fit s68 x0:=hpre
 have hn0_1:List.length x0.2≤1073741824:=hf0.2.1
 refine wp_seq ?_
 refine at_regq [{ ids:=[1] },{ ids:=[2] }] { ts:=[1,2],os:=[1,2] } [] gamOK hT h (by kernel_rfl) trivial fun a w h=>then_normal (wp_seq ?_)
 refine at_anyq [{},{},{},{},{ ids:=[3] },{},{}] { ts:=[2],os:=[2,3] } [Q_spec_l6Copy x0.2] gamOK hT mixed h (by kernel_rfl) ⟨(by exact hf0.2),trivial⟩ fun a w h=>then_normal (wp_ret ?_)
 exact at_return (x0,()) [] h (by kernel_rfl) trivial (congrArg (fun z=>(z,())) (show (x0)=(idD s68) x0 from by rfl))

abbrev Q__impl_Decoder_clone:=(fun (x0:T97)=>Sh.fit s97 x0)
def S__impl_Decoder_clone:Sum:={ fid:=70,dom:=[s97],cod:=[s97],dp:=true,fz:=false,pre:=fun x=>Q__impl_Decoder_clone x.1,g:=fun x=>(((idD s97) x.1),()) }
def S__impl_Decoder_clone_tab:List (Nat×Sum):=[(110,S__impl_Basis_clone)]
theorem S__impl_Decoder_clone_ok:FnOK Try.prog 70 S__impl_Decoder_clone:=by
 refine at_enter 8 (fun x=>⟨[(0,aG [cI x.1.1,cI x.1.2.1,cI x.1.2.2.1,cI x.1.2.2.2.1,.ro s22 x.1.2.2.2.2])],[]⟩) Try.func70 rfl (by kernel_rfl) (fun x=>rfl) ?_
 rintro w0 Z0 ⟨x0,u⟩ a w
 revert x0
 intro (x0:T97) hpre hlens h
 replace hpre:Q__impl_Decoder_clone x0:=hpre
 have hT:TabOK Try.prog S__impl_Decoder_clone_tab:=(.cons S__impl_Basis_clone_ok .nil)
 have hf0:Sh.fit s97 x0:=hpre
 have hn0_1:List.length x0.2.2.2.2≤1073741824:=hf0.2.2.2.2.1
 refine wp_seq ?_
 refine at_regq [{ ids:=[1] },{ ids:=[2] }] { ts:=[1,2],os:=[1,2] } [] gamOK hT h (by kernel_rfl) trivial fun a w h=>then_normal (wp_seq ?_)
 refine at_regq [{},{},{ ids:=[3] }] { ts:=[1,2],os:=[1,2,3] } [Q__impl_Basis_clone x0.2.2.2] gamOK hT h (by kernel_rfl) ⟨(by exact hf0.2.2.2),trivial⟩ fun a w h=>then_normal (wp_seq ?_)
 refine at_regq [] { ts:=[2],os:=[2,3] } [] gamOK hT h (by kernel_rfl) trivial fun a w h=>then_normal (wp_ret ?_)
 exact at_return (x0,()) [] h (by kernel_rfl) trivial (congrArg (fun z=>(z,())) (show (x0)=(idD s97) x0 from by rfl))

abbrev Q_spec_l14Copy:=(fun (x0:T97)=>Sh.fit s97 x0)
def S_spec_l14Copy:Sum:={ fid:=57,dom:=[s97],cod:=[s97],dp:=false,fz:=false,pre:=fun x=>Q_spec_l14Copy x.1,g:=fun x=>(((idD s97) x.1),()) }
def S_spec_l14Copy_tab:List (Nat×Sum):=[(102,S_spec_l8Copy)]
theorem S_spec_l14Copy_ok:FnOK Try.prog 57 S_spec_l14Copy:=by
 refine at_enter 10 (fun x=>⟨[(0,aG [cI x.1.1,cI x.1.2.1,cI x.1.2.2.1,cI x.1.2.2.2.1,.ro s22 x.1.2.2.2.2])],[]⟩) Try.func57 rfl (by kernel_rfl) (fun x=>rfl) ?_
 rintro w0 Z0 ⟨x0,u⟩ a w
 revert x0
 intro (x0:T97) hpre hlens h
 replace hpre:Q_spec_l14Copy x0:=hpre
 have hT:TabOK Try.prog S_spec_l14Copy_tab:=(.cons S_spec_l8Copy_ok .nil)
 have hf0:Sh.fit s97 x0:=hpre
 have hn0_1:List.length x0.2.2.2.2≤1073741824:=hf0.2.2.2.2.1
 refine wp_seq ?_
 refine at_regq [{ ids:=[1] },{ ids:=[2] }] { ts:=[1,2],os:=[1,2] } [] gamOK hT h (by kernel_rfl) trivial fun a w h=>then_normal (wp_seq ?_)
 refine at_regq [{},{ ids:=[3] }] { ts:=[1,2,3],os:=[1,2,3] } [] gamOK hT h (by kernel_rfl) trivial fun a w h=>then_normal (wp_seq ?_)
 refine at_regq [{},{},{ ids:=[4] }] { ts:=[2,3],os:=[2,3,4] } [Q_spec_l8Copy x0.2.2.2] gamOK hT h (by kernel_rfl) ⟨(by exact hf0.2.2.2),trivial⟩ fun a w h=>then_normal (wp_seq ?_)
 refine at_regq [] { ts:=[2],os:=[2,4] } [] gamOK hT h (by kernel_rfl) trivial fun a w h=>then_normal (wp_ret ?_)
 exact at_return (x0,()) [] h (by kernel_rfl) trivial (congrArg (fun z=>(z,())) (show (x0)=(idD s97) x0 from by rfl))

abbrev Q__impl_Sink_clone:=(fun (x0:T31)=>Sh.fit s31 x0)
def S__impl_Sink_clone:Sum:={ fid:=31,dom:=[s31],cod:=[s31],dp:=true,fz:=false,pre:=fun x=>Q__impl_Sink_clone x.1,g:=fun x=>(((idD s31) x.1),()) }
def S__impl_Sink_clone_tab:List (Nat×Sum):=[(69,S_slices_Clone_S_int_int_),(70,S__impl_Decoder_clone),(71,S__impl_Generation_clone)]
theorem S__impl_Sink_clone_ok:FnOK Try.prog 31 S__impl_Sink_clone:=by
 refine at_enter 48 (fun x=>⟨[(0,aG [cI x.1.1,cI x.1.2.1,.ro (.int 3) x.1.2.2.1,.ro s97 x.1.2.2.2.1,.ro s68 x.1.2.2.2.2.1,cI x.1.2.2.2.2.2])],[]⟩) Try.func31 rfl (by kernel_rfl) (fun x=>rfl) ?_
 rintro w0 Z0 ⟨x0,u⟩ a w
 revert x0
 intro (x0:T31) hpre hlens h
 replace hpre:Q__impl_Sink_clone x0:=hpre
 have hT:TabOK Try.prog S__impl_Sink_clone_tab:=(.cons S_slices_Clone_S_int_int__ok (.cons S__impl_Decoder_clone_ok (.cons S__impl_Generation_clone_ok .nil)))
 have hf0:Sh.fit s31 x0:=hpre
 have hn0_1:List.length x0.2.2.1≤1073741824:=hf0.2.2.1.1
 have hn0_2:List.length x0.2.2.2.1≤1073741824:=hf0.2.2.2.1.1
 have hn0_3:List.length x0.2.2.2.2.1≤1073741824:=hf0.2.2.2.2.1.1
 refine wp_seq ?_
 refine at_regq [{ ids:=[1] },{ ids:=[2] }] { ts:=[1,2],os:=[1,2] } [] gamOK hT h (by kernel_rfl) trivial fun a w h=>then_normal (wp_seq ?_)
 refine at_anyq [{},{},{},{},{},{}] { ts:=[1,2,3,4],os:=[1,2] } [] gamOK hT mixed h (by kernel_rfl) trivial fun a w h=>then_normal (wp_seq ?_)
 refine at_regq [{},{},{ ids:=[3] }] { ts:=[1,2,3,4],os:=[1,2,3] } [(lenOK (α:=Int)) x0.2.2.1] gamOK hT h (by kernel_rfl) ⟨(by first | assumption | trivial | (first | omega | (simp only [lsA];omega) | (simp<;>omega))),trivial⟩ fun a w h=>then_normal (wp_seq (wp_seq ?_))
 refine at_regq [] { ts:=[1,2,4,19,20,21],os:=[1,2,3] } [] gamOK hT h (by kernel_rfl) trivial fun a w h=>then_normal (wp_block ?_)
 replace h:=at_out (σ':=⟨[(1,aP 1 0),(2,aP 2 0),(4,aF s68 x0.2.2.2.2.1),(19,aF s97 x0.2.2.2.1),(20,aI ((List.length x0.2.2.2.1:Nat):Int)),(21,aI 0)],[(1,oX 31 [cI x0.1,cI x0.2.1,.sl 3,.sl 4,cN,cI x0.2.2.2.2.2]),(2,oX 31 [cI 0,cI 0,cN,cN,cN,cI 0]),(3,oR (.int 3) x0.2.2.1),(4,oR s97 ([]:List T97))]⟩) { mt:=[⟨some 1,3,4,true,s97⟩],ts:=[1,2,4,19,20,21],os:=[1,2,3,4] } h (by kernel_rfl)
 refine at_loop (fun i:Nat=>(⟨[(1,aP 1 0),(2,aP 2 0),(4,aF s68 x0.2.2.2.2.1),(19,aF s97 x0.2.2.2.1),(20,aI ((List.length x0.2.2.2.1:Nat):Int)),(21,aI ((i:Nat):Int))],[(1,oX 31 [cI x0.1,cI x0.2.1,.sl 3,.sl 4,cN,cI x0.2.2.2.2.2]),(2,oX 31 [cI 0,cI 0,cN,cN,cN,cI 0]),(3,oR (.int 3) x0.2.2.1),(4,oR s97 (List.take i x0.2.2.2.1))]⟩:St)) (fun i=>i≤List.length x0.2.2.2.1) (fun i=>List.length x0.2.2.2.1 - i) (0) h (st_congr2 (fun (d0:List T97) (d1:Int)=>(⟨[(1,aP 1 0),(2,aP 2 0),(4,aF s68 x0.2.2.2.2.1),(19,aF s97 x0.2.2.2.1),(20,aI ((List.length x0.2.2.2.1:Nat):Int)),(21,aI d1)],[(1,oX 31 [cI x0.1,cI x0.2.1,.sl 3,.sl 4,cN,cI x0.2.2.2.2.2]),(2,oX 31 [cI 0,cI 0,cN,cN,cN,cI 0]),(3,oR (.int 3) x0.2.2.1),(4,oR s97 d0)]⟩:St)) (show (([]:List T97):List T97)=(List.take (0) x0.2.2.2.1) from by first | with_reducible rfl | (rfl) | rfl) (show (0:Int)=(((0):Nat):Int) from by first | with_reducible rfl | (rfl) | rfl)) (by omega) ?_
 intro i a w hok0 h
 have hlt0:=len_take_le (xs:=x0.2.2.2.1) i
 refine wp_seq ?_
 refine at_regq [] { ts:=[1,2,4,19,20,21,22],os:=[1,2,3,4] } [] gamOK hT h (by kernel_rfl) trivial fun a w h=>then_normal (wp_seq ?_)
 refine at_test (decide (((i:Nat):Int) < ((List.length x0.2.2.2.1:Nat):Int))) h (by kernel_rfl) (fun h1=>?_) (fun h1=>?_)
 ·replace h1 : ((i : Nat) : Int) < ((List.length x0.2.2.2.1 : Nat) : Int) := of_decide_eq_true h1
  refine wp_skip (then_normal (wp_seq (wp_block (wp_seq ?_))))
  refine at_regq [{},{},{ ids:=[5] }] { ts:=[1,2,4,6,19,20,21],os:=[1,2,3,4,5] } [(0:Int)≤((i:Nat):Int)∧((i:Nat):Int) < ((List.length x0.2.2.2.1:Nat):Int)] gamOK hT h (by kernel_rfl) ⟨(by refine ⟨?_,?_⟩<;>(first | omega | (simp only [lsA];omega) | (simp<;>omega))),trivial⟩ fun a w h=>then_normal ?_
  refine at_anyq [{},{},{},{ ids:=[6] },{ ids:=[7] },{ ids:=[8] },{},{}] { ts:=[1,2,4,19,20,21],os:=[1,2,3,8] } [Q__impl_Decoder_clone (x0.2.2.2.1.getD i (0,(0,(0,(0,[]))))),(List.length (List.take i x0.2.2.2.1)+List.length ([(x0.2.2.2.1.getD i (0,(0,(0,(0,[])))))]))*56≤140737488355328] gamOK hT mixed h (by kernel_rfl) ⟨(by exact (Sh.fit_getD hf0.2.2.2.1 i)),(by (have hL0:=(show List.length (List.take i x0.2.2.2.1)≤1073741824 from ((Sh.fit_take hf0.2.2.2.1 i)).1);first | omega | (simp only [lsA];omega) | (simp<;>omega))),trivial⟩ fun a w h=>in_normal (then_normal ?_)
  refine at_regq [{ nw:=true }] { ts:=[1,2,4,19,20,21],os:=[1,2,3,8] } [I64 (((i:Nat):Int)+1)] gamOK hT h (by kernel_rfl) ⟨⟨by first | omega | (simp only [lsA];omega) | (simp<;>omega),by first | omega | (simp only [lsA];omega) | (simp<;>omega)⟩,trivial⟩ fun a w h=>?_
  replace h:=at_out (σ':=⟨[(1,aP 1 0),(2,aP 2 0),(4,aF s68 x0.2.2.2.2.1),(19,aF s97 x0.2.2.2.1),(20,aI ((List.length x0.2.2.2.1:Nat):Int)),(21,aI (((i:Nat):Int)+1))],[(1,oX 31 [cI x0.1,cI x0.2.1,.sl 3,.sl 4,cN,cI x0.2.2.2.2.2]),(2,oX 31 [cI 0,cI 0,cN,cN,cN,cI 0]),(3,oR (.int 3) x0.2.2.1),(4,oR s97 ((List.take i x0.2.2.2.1)++([(x0.2.2.2.1.getD i (0,(0,(0,(0,[])))))])))]⟩) { ts:=[1,2,4,19,20,21],os:=[1,2,3,8],rn:=[(8,4)] } h (by kernel_rfl)
  exact ⟨i+1,at_eq h (st_congr2 (fun (d0:List T97) (d1:Int)=>(⟨[(1,aP 1 0),(2,aP 2 0),(4,aF s68 x0.2.2.2.2.1),(19,aF s97 x0.2.2.2.1),(20,aI ((List.length x0.2.2.2.1:Nat):Int)),(21,aI d1)],[(1,oX 31 [cI x0.1,cI x0.2.1,.sl 3,.sl 4,cN,cI x0.2.2.2.2.2]),(2,oX 31 [cI 0,cI 0,cN,cN,cN,cI 0]),(3,oR (.int 3) x0.2.2.1),(4,oR s97 d0)]⟩:St)) (show (((List.take i x0.2.2.2.1)++([(x0.2.2.2.1.getD i (0,(0,(0,(0,[])))))])):List T97)=(List.take (i+1) x0.2.2.2.1) from by first | with_reducible rfl | (rw [take_snoc (z:=(0,(0,(0,(0,[]))))) (by omega)]) | rfl) (show (((i:Nat):Int)+1:Int)=(((i+1):Nat):Int) from by first | with_reducible rfl | (omega) | rfl)),(by omega),(by omega)⟩
 ·replace h1 : ¬ (((i : Nat) : Int) < ((List.length x0.2.2.2.1 : Nat) : Int)) := of_decide_eq_false h1
  refine wp_exit (then_exit ?_)
  replace h:=at_out (σ':=⟨[(1,aP 1 0),(2,aP 2 0),(4,aF s68 x0.2.2.2.2.1)],[(1,oX 31 [cI x0.1,cI x0.2.1,.sl 3,.sl 4,cN,cI x0.2.2.2.2.2]),(2,oX 31 [cI 0,cI 0,cN,cN,cN,cI 0]),(3,oR (.int 3) x0.2.2.1),(4,oR s97 (List.take i x0.2.2.2.1))]⟩) { ts:=[1,2,4],os:=[1,2,3,4] } h (by kernel_rfl)
  replace h:=at_eq (σ':=⟨[(1,aP 1 0),(2,aP 2 0),(4,aF s68 x0.2.2.2.2.1)],[(1,oX 31 [cI x0.1,cI x0.2.1,.sl 3,.sl 4,cN,cI x0.2.2.2.2.2]),(2,oX 31 [cI 0,cI 0,cN,cN,cN,cI 0]),(3,oR (.int 3) x0.2.2.1),(4,oR s97 x0.2.2.2.1)]⟩) h (st_congr1 (fun (d0:List T97)=>(⟨[(1,aP 1 0),(2,aP 2 0),(4,aF s68 x0.2.2.2.2.1)],[(1,oX 31 [cI x0.1,cI x0.2.1,.sl 3,.sl 4,cN,cI x0.2.2.2.2.2]),(2,oX 31 [cI 0,cI 0,cN,cN,cN,cI 0]),(3,oR (.int 3) x0.2.2.1),(4,oR s97 d0)]⟩:St)) (show ((List.take i x0.2.2.2.1):List T97)=x0.2.2.2.1 from by first | with_reducible rfl | (rw [take_all (by omega)]) | rfl))
  refine then_exit (in_hit (then_normal (wp_seq (wp_seq ?_))))
  refine at_regq [] { ts:=[1,2,33,34,35],os:=[1,2,3,4] } [] gamOK hT h (by kernel_rfl) trivial fun a w h=>then_normal (wp_block ?_)
  replace h:=at_out (σ':=⟨[(1,aP 1 0),(2,aP 2 0),(33,aF s68 x0.2.2.2.2.1),(34,aI ((List.length x0.2.2.2.2.1:Nat):Int)),(35,aI 0)],[(1,oX 31 [cI x0.1,cI x0.2.1,.sl 3,.sl 4,.sl 9,cI x0.2.2.2.2.2]),(2,oX 31 [cI 0,cI 0,cN,cN,cN,cI 0]),(3,oR (.int 3) x0.2.2.1),(4,oR s97 x0.2.2.2.1),(9,oR s68 ([]:List T68))]⟩) { mt:=[⟨some 1,4,9,true,s68⟩],ts:=[1,2,33,34,35],os:=[1,2,3,4,9] } h (by kernel_rfl)
  refine at_loop (fun i:Nat=>(⟨[(1,aP 1 0),(2,aP 2 0),(33,aF s68 x0.2.2.2.2.1),(34,aI ((List.length x0.2.2.2.2.1:Nat):Int)),(35,aI ((i:Nat):Int))],[(1,oX 31 [cI x0.1,cI x0.2.1,.sl 3,.sl 4,.sl 9,cI x0.2.2.2.2.2]),(2,oX 31 [cI 0,cI 0,cN,cN,cN,cI 0]),(3,oR (.int 3) x0.2.2.1),(4,oR s97 x0.2.2.2.1),(9,oR s68 (List.take i x0.2.2.2.2.1))]⟩:St)) (fun i=>i≤List.length x0.2.2.2.2.1) (fun i=>List.length x0.2.2.2.2.1 - i) (0) h (st_congr2 (fun (d0:List T68) (d1:Int)=>(⟨[(1,aP 1 0),(2,aP 2 0),(33,aF s68 x0.2.2.2.2.1),(34,aI ((List.length x0.2.2.2.2.1:Nat):Int)),(35,aI d1)],[(1,oX 31 [cI x0.1,cI x0.2.1,.sl 3,.sl 4,.sl 9,cI x0.2.2.2.2.2]),(2,oX 31 [cI 0,cI 0,cN,cN,cN,cI 0]),(3,oR (.int 3) x0.2.2.1),(4,oR s97 x0.2.2.2.1),(9,oR s68 d0)]⟩:St)) (show (([]:List T68):List T68)=(List.take (0) x0.2.2.2.2.1) from by first | with_reducible rfl | (rfl) | rfl) (show (0:Int)=(((0):Nat):Int) from by first | with_reducible rfl | (rfl) | rfl)) (by omega) ?_
  intro i a w hok1 h
  have hlt1:=len_take_le (xs:=x0.2.2.2.2.1) i
  refine wp_seq ?_
  refine at_regq [] { ts:=[1,2,33,34,35,36],os:=[1,2,3,4,9] } [] gamOK hT h (by kernel_rfl) trivial fun a w h=>then_normal (wp_seq ?_)
  refine at_test (decide (((i:Nat):Int) < ((List.length x0.2.2.2.2.1:Nat):Int))) h (by kernel_rfl) (fun h2=>?_) (fun h2=>?_)
  ·replace h2 : ((i : Nat) : Int) < ((List.length x0.2.2.2.2.1 : Nat) : Int) := of_decide_eq_true h2
   refine wp_skip (then_normal (wp_seq (wp_block (wp_seq ?_))))
   refine at_regq [{},{},{ ids:=[10] }] { ts:=[1,2,8,33,34,35],os:=[1,2,3,4,9,10] } [(0:Int)≤((i:Nat):Int)∧((i:Nat):Int) < ((List.length x0.2.2.2.2.1:Nat):Int)] gamOK hT h (by kernel_rfl) ⟨(by refine ⟨?_,?_⟩<;>(first | omega | (simp only [lsA];omega) | (simp<;>omega))),trivial⟩ fun a w h=>then_normal ?_
   refine at_anyq [{},{},{},{ ids:=[11] },{ ids:=[12] },{ ids:=[13] },{},{}] { ts:=[1,2,33,34,35],os:=[1,2,3,4,13] } [Q__impl_Generation_clone (x0.2.2.2.2.1.getD i (0,[])),(List.length (List.take i x0.2.2.2.2.1)+List.length ([(x0.2.2.2.2.1.getD i (0,[]))]))*32≤140737488355328] gamOK hT mixed h (by kernel_rfl) ⟨(by exact (Sh.fit_getD hf0.2.2.2.2.1 i)),(by (have hL0:=(show List.length (List.take i x0.2.2.2.2.1)≤1073741824 from ((Sh.fit_take hf0.2.2.2.2.1 i)).1);first | omega | (simp only [lsA];omega) | (simp<;>omega))),trivial⟩ fun a w h=>in_normal (then_normal ?_)
   refine at_regq [{ nw:=true }] { ts:=[1,2,33,34,35],os:=[1,2,3,4,13] } [I64 (((i:Nat):Int)+1)] gamOK hT h (by kernel_rfl) ⟨⟨by first | omega | (simp only [lsA];omega) | (simp<;>omega),by first | omega | (simp only [lsA];omega) | (simp<;>omega)⟩,trivial⟩ fun a w h=>?_
   replace h:=at_out (σ':=⟨[(1,aP 1 0),(2,aP 2 0),(33,aF s68 x0.2.2.2.2.1),(34,aI ((List.length x0.2.2.2.2.1:Nat):Int)),(35,aI (((i:Nat):Int)+1))],[(1,oX 31 [cI x0.1,cI x0.2.1,.sl 3,.sl 4,.sl 9,cI x0.2.2.2.2.2]),(2,oX 31 [cI 0,cI 0,cN,cN,cN,cI 0]),(3,oR (.int 3) x0.2.2.1),(4,oR s97 x0.2.2.2.1),(9,oR s68 ((List.take i x0.2.2.2.2.1)++([(x0.2.2.2.2.1.getD i (0,[]))])))]⟩) { ts:=[1,2,33,34,35],os:=[1,2,3,4,13],rn:=[(13,9)] } h (by kernel_rfl)
   exact ⟨i+1,at_eq h (st_congr2 (fun (d0:List T68) (d1:Int)=>(⟨[(1,aP 1 0),(2,aP 2 0),(33,aF s68 x0.2.2.2.2.1),(34,aI ((List.length x0.2.2.2.2.1:Nat):Int)),(35,aI d1)],[(1,oX 31 [cI x0.1,cI x0.2.1,.sl 3,.sl 4,.sl 9,cI x0.2.2.2.2.2]),(2,oX 31 [cI 0,cI 0,cN,cN,cN,cI 0]),(3,oR (.int 3) x0.2.2.1),(4,oR s97 x0.2.2.2.1),(9,oR s68 d0)]⟩:St)) (show (((List.take i x0.2.2.2.2.1)++([(x0.2.2.2.2.1.getD i (0,[]))])):List T68)=(List.take (i+1) x0.2.2.2.2.1) from by first | with_reducible rfl | (rw [take_snoc (z:=(0,[])) (by omega)]) | rfl) (show (((i:Nat):Int)+1:Int)=(((i+1):Nat):Int) from by first | with_reducible rfl | (omega) | rfl)),(by omega),(by omega)⟩
  ·replace h2 : ¬ (((i : Nat) : Int) < ((List.length x0.2.2.2.2.1 : Nat) : Int)) := of_decide_eq_false h2
   refine wp_exit (then_exit ?_)
   replace h:=at_out (σ':=⟨[(1,aP 1 0),(2,aP 2 0)],[(1,oX 31 [cI x0.1,cI x0.2.1,.sl 3,.sl 4,.sl 9,cI x0.2.2.2.2.2]),(2,oX 31 [cI 0,cI 0,cN,cN,cN,cI 0]),(3,oR (.int 3) x0.2.2.1),(4,oR s97 x0.2.2.2.1),(9,oR s68 (List.take i x0.2.2.2.2.1))]⟩) { ts:=[1,2],os:=[1,2,3,4,9] } h (by kernel_rfl)
   replace h:=at_eq (σ':=⟨[(1,aP 1 0),(2,aP 2 0)],[(1,oX 31 [cI x0.1,cI x0.2.1,.sl 3,.sl 4,.sl 9,cI x0.2.2.2.2.2]),(2,oX 31 [cI 0,cI 0,cN,cN,cN,cI 0]),(3,oR (.int 3) x0.2.2.1),(4,oR s97 x0.2.2.2.1),(9,oR s68 x0.2.2.2.2.1)]⟩) h (st_congr1 (fun (d0:List T68)=>(⟨[(1,aP 1 0),(2,aP 2 0)],[(1,oX 31 [cI x0.1,cI x0.2.1,.sl 3,.sl 4,.sl 9,cI x0.2.2.2.2.2]),(2,oX 31 [cI 0,cI 0,cN,cN,cN,cI 0]),(3,oR (.int 3) x0.2.2.1),(4,oR s97 x0.2.2.2.1),(9,oR s68 d0)]⟩:St)) (show ((List.take i x0.2.2.2.2.1):List T68)=x0.2.2.2.2.1 from by first | with_reducible rfl | (rw [take_all (by omega)]) | rfl))
   refine then_exit (in_hit (then_normal (wp_seq ?_)))
   refine at_regq [] { ts:=[2],os:=[2,3,4,9] } [] gamOK hT h (by kernel_rfl) trivial fun a w h=>then_normal (wp_ret ?_)
   exact at_return (x0,()) [] h (by kernel_rfl) trivial (congrArg (fun z=>(z,())) (show (x0)=(idD s31) x0 from by rfl))

abbrev Q_spec_l30Copy:=(fun (x0:T31)=>Sh.fit s31 x0)
def S_spec_l30Copy:Sum:={ fid:=26,dom:=[s31],cod:=[s31],dp:=false,fz:=false,pre:=fun x=>Q_spec_l30Copy x.1,g:=fun x=>(((idD s31) x.1),()) }
def S_spec_l30Copy_tab:List (Nat×Sum):=[(57,S_spec_l14Copy),(58,S_spec_l10Copy)]
theorem S_spec_l30Copy_ok:FnOK Try.prog 26 S_spec_l30Copy:=by
 refine at_enter 53 (fun x=>⟨[(0,aG [cI x.1.1,cI x.1.2.1,.ro (.int 3) x.1.2.2.1,.ro s97 x.1.2.2.2.1,.ro s68 x.1.2.2.2.2.1,cI x.1.2.2.2.2.2])],[]⟩) Try.func26 rfl (by kernel_rfl) (fun x=>rfl) ?_
 rintro w0 Z0 ⟨x0,u⟩ a w
 revert x0
 intro (x0:T31) hpre hlens h
 replace hpre:Q_spec_l30Copy x0:=hpre
 have hT:TabOK Try.prog S_spec_l30Copy_tab:=(.cons S_spec_l14Copy_ok (.cons S_spec_l10Copy_ok .nil))
 have hf0:Sh.fit s31 x0:=hpre
 have hn0_1:List.length x0.2.2.1≤1073741824:=hf0.2.2.1.1
 have hn0_2:List.length x0.2.2.2.1≤1073741824:=hf0.2.2.2.1.1
 have hn0_3:List.length x0.2.2.2.2.1≤1073741824:=hf0.2.2.2.2.1.1
 refine wp_seq ?_
 refine at_regq [{ ids:=[1] },{ ids:=[2] }] { ts:=[1,2],os:=[1,2] } [] gamOK hT h (by kernel_rfl) trivial fun a w h=>then_normal (wp_seq ?_)
 refine at_regq [{},{ ids:=[3] }] { ts:=[1,2,3],os:=[1,2,3] } [] gamOK hT h (by kernel_rfl) trivial fun a w h=>then_normal (wp_seq ?_)
 refine at_regq [{ ids:=[4],dp:=false },{},{},{ ids:=[5],dp:=false }] { ts:=[1,2,3],os:=[1,2,3,5] } [(List.length ([]:List Int)+List.length x0.2.2.1)*8≤140737488355328] gamOK hT h (by kernel_rfl) ⟨(by first | omega | (simp only [lsA];omega) | (simp<;>omega)),trivial⟩ fun a w h=>then_normal (wp_seq ?_)
 refine at_regq [{ ids:=[6],dp:=false }] { ts:=[1,2,3],os:=[1,2,3,5,6] } [] gamOK hT h (by kernel_rfl) trivial fun a w h=>then_normal (wp_seq (wp_seq ?_))
 refine at_regq [] { ts:=[1,2,3,4],os:=[1,2,3,5,6] } [] gamOK hT h (by kernel_rfl) trivial fun a w h=>then_normal (wp_block ?_)
 replace h:=at_out (σ':=⟨[(1,aP 1 0),(2,aP 2 0),(3,aP 3 0),(4,aI 0)],[(1,oX 31 [cI x0.1,cI x0.2.1,.ro (.int 3) x0.2.2.1,.ro s97 x0.2.2.2.1,.ro s68 x0.2.2.2.2.1,cI x0.2.2.2.2.2]),(2,oX 31 [cI 0,cI 0,cN,cN,cN,cI 0]),(3,oX 31 [cI x0.1,cI x0.2.1,.sl 5,.sl 6,.ro s68 x0.2.2.2.2.1,cI x0.2.2.2.2.2]),(5,oF (.int 3) (([]:List Int)++x0.2.2.1)),(6,oF s97 ([]:List T97))]⟩) { ts:=[1,2,3,4],os:=[1,2,3,5,6] } h (by kernel_rfl)
 refine at_loop (fun i:Nat=>(⟨[(1,aP 1 0),(2,aP 2 0),(3,aP 3 0),(4,aI ((i:Nat):Int))],[(1,oX 31 [cI x0.1,cI x0.2.1,.ro (.int 3) x0.2.2.1,.ro s97 x0.2.2.2.1,.ro s68 x0.2.2.2.2.1,cI x0.2.2.2.2.2]),(2,oX 31 [cI 0,cI 0,cN,cN,cN,cI 0]),(3,oX 31 [cI x0.1,cI x0.2.1,.sl 5,.sl 6,.ro s68 x0.2.2.2.2.1,cI x0.2.2.2.2.2]),(5,oF (.int 3) (([]:List Int)++x0.2.2.1)),(6,oF s97 (List.take i x0.2.2.2.1))]⟩:St)) (fun i=>i≤List.length x0.2.2.2.1) (fun i=>List.length x0.2.2.2.1 - i) (0) h (st_congr2 (fun (d0:List T97) (d1:Int)=>(⟨[(1,aP 1 0),(2,aP 2 0),(3,aP 3 0),(4,aI d1)],[(1,oX 31 [cI x0.1,cI x0.2.1,.ro (.int 3) x0.2.2.1,.ro s97 x0.2.2.2.1,.ro s68 x0.2.2.2.2.1,cI x0.2.2.2.2.2]),(2,oX 31 [cI 0,cI 0,cN,cN,cN,cI 0]),(3,oX 31 [cI x0.1,cI x0.2.1,.sl 5,.sl 6,.ro s68 x0.2.2.2.2.1,cI x0.2.2.2.2.2]),(5,oF (.int 3) (([]:List Int)++x0.2.2.1)),(6,oF s97 d0)]⟩:St)) (show (([]:List T97):List T97)=(List.take (0) x0.2.2.2.1) from by first | with_reducible rfl | (rfl) | rfl) (show (0:Int)=(((0):Nat):Int) from by first | with_reducible rfl | (rfl) | rfl)) (by omega) ?_
 intro i a w hok0 h
 have hlt0:=len_take_le (xs:=x0.2.2.2.1) i
 refine wp_seq (wp_seq ?_)
 refine at_regq [] { ts:=[1,2,3,4,18],os:=[1,2,3,5,6] } [] gamOK hT h (by kernel_rfl) trivial fun a w h=>then_normal ?_
 refine at_test (decide (((i:Nat):Int) < ((List.length x0.2.2.2.1:Nat):Int))) h (by kernel_rfl) (fun h1=>?_) (fun h1=>?_)
 ·replace h1 : ((i : Nat) : Int) < ((List.length x0.2.2.2.1 : Nat) : Int) := of_decide_eq_true h1
  refine wp_skip (then_normal (wp_seq (wp_block ?_)))
  refine at_anyq [{},{},{},{},{},{},{},{ frz:=true },{ ids:=[7],dp:=false },{ ids:=[8],dp:=false },{},{}] { ts:=[1,2,3,4],os:=[1,2,3,5,8] } [(0:Int)≤((i:Nat):Int)∧((i:Nat):Int) < ((List.length x0.2.2.2.1:Nat):Int),Q_spec_l14Copy (x0.2.2.2.1.getD i (0,(0,(0,(0,[]))))),(List.length (List.take i x0.2.2.2.1)+List.length ([(x0.2.2.2.1.getD i (0,(0,(0,(0,[])))))]))*56≤140737488355328] gamOK hT mixed h (by kernel_rfl) ⟨(by refine ⟨?_,?_⟩<;>(first | omega | (simp only [lsA];omega) | (simp<;>omega))),(by exact (Sh.fit_getD hf0.2.2.2.1 i)),(by (have hL0:=(show List.length (List.take i x0.2.2.2.1)≤1073741824 from ((Sh.fit_take hf0.2.2.2.1 i)).1);first | omega | (simp only [lsA];omega) | (simp<;>omega))),trivial⟩ fun a w h=>in_normal (then_normal ?_)
  refine at_regq [{},{ nw:=true }] { ts:=[1,2,3,4],os:=[1,2,3,5,8] } [I64 (((i:Nat):Int)+1)] gamOK hT h (by kernel_rfl) ⟨⟨by first | omega | (simp only [lsA];omega) | (simp<;>omega),by first | omega | (simp only [lsA];omega) | (simp<;>omega)⟩,trivial⟩ fun a w h=>?_
  replace h:=at_out (σ':=⟨[(1,aP 1 0),(2,aP 2 0),(3,aP 3 0),(4,aI (((i:Nat):Int)+1))],[(1,oX 31 [cI x0.1,cI x0.2.1,.ro (.int 3) x0.2.2.1,.ro s97 x0.2.2.2.1,.ro s68 x0.2.2.2.2.1,cI x0.2.2.2.2.2]),(2,oX 31 [cI 0,cI 0,cN,cN,cN,cI 0]),(3,oX 31 [cI x0.1,cI x0.2.1,.sl 5,.sl 6,.ro s68 x0.2.2.2.2.1,cI x0.2.2.2.2.2]),(5,oF (.int 3) (([]:List Int)++x0.2.2.1)),(6,oF s97 ((List.take i x0.2.2.2.1)++([(x0.2.2.2.1.getD i (0,(0,(0,(0,[])))))])))]⟩) { ts:=[1,2,3,4],os:=[1,2,3,5,8],rn:=[(8,6)] } h (by kernel_rfl)
  exact ⟨i+1,at_eq h (st_congr2 (fun (d0:List T97) (d1:Int)=>(⟨[(1,aP 1 0),(2,aP 2 0),(3,aP 3 0),(4,aI d1)],[(1,oX 31 [cI x0.1,cI x0.2.1,.ro (.int 3) x0.2.2.1,.ro s97 x0.2.2.2.1,.ro s68 x0.2.2.2.2.1,cI x0.2.2.2.2.2]),(2,oX 31 [cI 0,cI 0,cN,cN,cN,cI 0]),(3,oX 31 [cI x0.1,cI x0.2.1,.sl 5,.sl 6,.ro s68 x0.2.2.2.2.1,cI x0.2.2.2.2.2]),(5,oF (.int 3) (([]:List Int)++x0.2.2.1)),(6,oF s97 d0)]⟩:St)) (show (((List.take i x0.2.2.2.1)++([(x0.2.2.2.1.getD i (0,(0,(0,(0,[])))))])):List T97)=(List.take (i+1) x0.2.2.2.1) from by first | with_reducible rfl | (rw [take_snoc (z:=(0,(0,(0,(0,[]))))) (by omega)]) | rfl) (show (((i:Nat):Int)+1:Int)=(((i+1):Nat):Int) from by first | with_reducible rfl | (omega) | rfl)),(by omega),(by omega)⟩
 ·replace h1 : ¬ (((i : Nat) : Int) < ((List.length x0.2.2.2.1 : Nat) : Int)) := of_decide_eq_false h1
  refine wp_exit (then_exit ?_)
  replace h:=at_out (σ':=⟨[(1,aP 1 0),(2,aP 2 0),(3,aP 3 0)],[(1,oX 31 [cI x0.1,cI x0.2.1,.ro (.int 3) x0.2.2.1,.ro s97 x0.2.2.2.1,.ro s68 x0.2.2.2.2.1,cI x0.2.2.2.2.2]),(2,oX 31 [cI 0,cI 0,cN,cN,cN,cI 0]),(3,oX 31 [cI x0.1,cI x0.2.1,.sl 5,.sl 6,.ro s68 x0.2.2.2.2.1,cI x0.2.2.2.2.2]),(5,oF (.int 3) (([]:List Int)++x0.2.2.1)),(6,oF s97 (List.take i x0.2.2.2.1))]⟩) { ts:=[1,2,3],os:=[1,2,3,5,6] } h (by kernel_rfl)
  replace h:=at_eq (σ':=⟨[(1,aP 1 0),(2,aP 2 0),(3,aP 3 0)],[(1,oX 31 [cI x0.1,cI x0.2.1,.ro (.int 3) x0.2.2.1,.ro s97 x0.2.2.2.1,.ro s68 x0.2.2.2.2.1,cI x0.2.2.2.2.2]),(2,oX 31 [cI 0,cI 0,cN,cN,cN,cI 0]),(3,oX 31 [cI x0.1,cI x0.2.1,.sl 5,.sl 6,.ro s68 x0.2.2.2.2.1,cI x0.2.2.2.2.2]),(5,oF (.int 3) (([]:List Int)++x0.2.2.1)),(6,oF s97 x0.2.2.2.1)]⟩) h (st_congr1 (fun (d0:List T97)=>(⟨[(1,aP 1 0),(2,aP 2 0),(3,aP 3 0)],[(1,oX 31 [cI x0.1,cI x0.2.1,.ro (.int 3) x0.2.2.1,.ro s97 x0.2.2.2.1,.ro s68 x0.2.2.2.2.1,cI x0.2.2.2.2.2]),(2,oX 31 [cI 0,cI 0,cN,cN,cN,cI 0]),(3,oX 31 [cI x0.1,cI x0.2.1,.sl 5,.sl 6,.ro s68 x0.2.2.2.2.1,cI x0.2.2.2.2.2]),(5,oF (.int 3) (([]:List Int)++x0.2.2.1)),(6,oF s97 d0)]⟩:St)) (show ((List.take i x0.2.2.2.1):List T97)=x0.2.2.2.1 from by first | with_reducible rfl | (rw [take_all (by omega)]) | rfl))
  refine then_exit (in_hit (then_normal (wp_seq ?_)))
  refine at_regq [{ ids:=[9],dp:=false }] { ts:=[1,2,3],os:=[1,2,3,5,6,9] } [] gamOK hT h (by kernel_rfl) trivial fun a w h=>then_normal (wp_seq (wp_seq ?_))
  refine at_regq [] { ts:=[1,2,3,5],os:=[1,2,3,5,6,9] } [] gamOK hT h (by kernel_rfl) trivial fun a w h=>then_normal (wp_block ?_)
  replace h:=at_out (σ':=⟨[(1,aP 1 0),(2,aP 2 0),(3,aP 3 0),(5,aI 0)],[(1,oX 31 [cI x0.1,cI x0.2.1,.ro (.int 3) x0.2.2.1,.ro s97 x0.2.2.2.1,.ro s68 x0.2.2.2.2.1,cI x0.2.2.2.2.2]),(2,oX 31 [cI 0,cI 0,cN,cN,cN,cI 0]),(3,oX 31 [cI x0.1,cI x0.2.1,.sl 5,.sl 6,.sl 9,cI x0.2.2.2.2.2]),(5,oF (.int 3) (([]:List Int)++x0.2.2.1)),(6,oF s97 x0.2.2.2.1),(9,oF s68 ([]:List T68))]⟩) { ts:=[1,2,3,5],os:=[1,2,3,5,6,9] } h (by kernel_rfl)
  refine at_loop (fun i:Nat=>(⟨[(1,aP 1 0),(2,aP 2 0),(3,aP 3 0),(5,aI ((i:Nat):Int))],[(1,oX 31 [cI x0.1,cI x0.2.1,.ro (.int 3) x0.2.2.1,.ro s97 x0.2.2.2.1,.ro s68 x0.2.2.2.2.1,cI x0.2.2.2.2.2]),(2,oX 31 [cI 0,cI 0,cN,cN,cN,cI 0]),(3,oX 31 [cI x0.1,cI x0.2.1,.sl 5,.sl 6,.sl 9,cI x0.2.2.2.2.2]),(5,oF (.int 3) (([]:List Int)++x0.2.2.1)),(6,oF s97 x0.2.2.2.1),(9,oF s68 (List.take i x0.2.2.2.2.1))]⟩:St)) (fun i=>i≤List.length x0.2.2.2.2.1) (fun i=>List.length x0.2.2.2.2.1 - i) (0) h (st_congr2 (fun (d0:List T68) (d1:Int)=>(⟨[(1,aP 1 0),(2,aP 2 0),(3,aP 3 0),(5,aI d1)],[(1,oX 31 [cI x0.1,cI x0.2.1,.ro (.int 3) x0.2.2.1,.ro s97 x0.2.2.2.1,.ro s68 x0.2.2.2.2.1,cI x0.2.2.2.2.2]),(2,oX 31 [cI 0,cI 0,cN,cN,cN,cI 0]),(3,oX 31 [cI x0.1,cI x0.2.1,.sl 5,.sl 6,.sl 9,cI x0.2.2.2.2.2]),(5,oF (.int 3) (([]:List Int)++x0.2.2.1)),(6,oF s97 x0.2.2.2.1),(9,oF s68 d0)]⟩:St)) (show (([]:List T68):List T68)=(List.take (0) x0.2.2.2.2.1) from by first | with_reducible rfl | (rfl) | rfl) (show (0:Int)=(((0):Nat):Int) from by first | with_reducible rfl | (rfl) | rfl)) (by omega) ?_
  intro i a w hok1 h
  have hlt1:=len_take_le (xs:=x0.2.2.2.2.1) i
  refine wp_seq (wp_seq ?_)
  refine at_regq [] { ts:=[1,2,3,5,38],os:=[1,2,3,5,6,9] } [] gamOK hT h (by kernel_rfl) trivial fun a w h=>then_normal ?_
  refine at_test (decide (((i:Nat):Int) < ((List.length x0.2.2.2.2.1:Nat):Int))) h (by kernel_rfl) (fun h2=>?_) (fun h2=>?_)
  ·replace h2 : ((i : Nat) : Int) < ((List.length x0.2.2.2.2.1 : Nat) : Int) := of_decide_eq_true h2
   refine wp_skip (then_normal (wp_seq (wp_block ?_)))
   refine at_anyq [{},{},{},{},{},{},{},{ frz:=true },{ ids:=[10],dp:=false },{ ids:=[11],dp:=false },{},{}] { ts:=[1,2,3,5],os:=[1,2,3,5,6,11] } [(0:Int)≤((i:Nat):Int)∧((i:Nat):Int) < ((List.length x0.2.2.2.2.1:Nat):Int),Q_spec_l10Copy (x0.2.2.2.2.1.getD i (0,[])),(List.length (List.take i x0.2.2.2.2.1)+List.length ([(x0.2.2.2.2.1.getD i (0,[]))]))*32≤140737488355328] gamOK hT mixed h (by kernel_rfl) ⟨(by refine ⟨?_,?_⟩<;>(first | omega | (simp only [lsA];omega) | (simp<;>omega))),(by exact (Sh.fit_getD hf0.2.2.2.2.1 i)),(by (have hL0:=(show List.length (List.take i x0.2.2.2.2.1)≤1073741824 from ((Sh.fit_take hf0.2.2.2.2.1 i)).1);first | omega | (simp only [lsA];omega) | (simp<;>omega))),trivial⟩ fun a w h=>in_normal (then_normal ?_)
   refine at_regq [{},{ nw:=true }] { ts:=[1,2,3,5],os:=[1,2,3,5,6,11] } [I64 (((i:Nat):Int)+1)] gamOK hT h (by kernel_rfl) ⟨⟨by first | omega | (simp only [lsA];omega) | (simp<;>omega),by first | omega | (simp only [lsA];omega) | (simp<;>omega)⟩,trivial⟩ fun a w h=>?_
   replace h:=at_out (σ':=⟨[(1,aP 1 0),(2,aP 2 0),(3,aP 3 0),(5,aI (((i:Nat):Int)+1))],[(1,oX 31 [cI x0.1,cI x0.2.1,.ro (.int 3) x0.2.2.1,.ro s97 x0.2.2.2.1,.ro s68 x0.2.2.2.2.1,cI x0.2.2.2.2.2]),(2,oX 31 [cI 0,cI 0,cN,cN,cN,cI 0]),(3,oX 31 [cI x0.1,cI x0.2.1,.sl 5,.sl 6,.sl 9,cI x0.2.2.2.2.2]),(5,oF (.int 3) (([]:List Int)++x0.2.2.1)),(6,oF s97 x0.2.2.2.1),(9,oF s68 ((List.take i x0.2.2.2.2.1)++([(x0.2.2.2.2.1.getD i (0,[]))])))]⟩) { ts:=[1,2,3,5],os:=[1,2,3,5,6,11],rn:=[(11,9)] } h (by kernel_rfl)
   exact ⟨i+1,at_eq h (st_congr2 (fun (d0:List T68) (d1:Int)=>(⟨[(1,aP 1 0),(2,aP 2 0),(3,aP 3 0),(5,aI d1)],[(1,oX 31 [cI x0.1,cI x0.2.1,.ro (.int 3) x0.2.2.1,.ro s97 x0.2.2.2.1,.ro s68 x0.2.2.2.2.1,cI x0.2.2.2.2.2]),(2,oX 31 [cI 0,cI 0,cN,cN,cN,cI 0]),(3,oX 31 [cI x0.1,cI x0.2.1,.sl 5,.sl 6,.sl 9,cI x0.2.2.2.2.2]),(5,oF (.int 3) (([]:List Int)++x0.2.2.1)),(6,oF s97 x0.2.2.2.1),(9,oF s68 d0)]⟩:St)) (show (((List.take i x0.2.2.2.2.1)++([(x0.2.2.2.2.1.getD i (0,[]))])):List T68)=(List.take (i+1) x0.2.2.2.2.1) from by first | with_reducible rfl | (rw [take_snoc (z:=(0,[])) (by omega)]) | rfl) (show (((i:Nat):Int)+1:Int)=(((i+1):Nat):Int) from by first | with_reducible rfl | (omega) | rfl)),(by omega),(by omega)⟩
  ·replace h2 : ¬ (((i : Nat) : Int) < ((List.length x0.2.2.2.2.1 : Nat) : Int)) := of_decide_eq_false h2
   refine wp_exit (then_exit ?_)
   replace h:=at_out (σ':=⟨[(2,aP 2 0),(3,aP 3 0)],[(2,oX 31 [cI 0,cI 0,cN,cN,cN,cI 0]),(3,oX 31 [cI x0.1,cI x0.2.1,.sl 5,.sl 6,.sl 9,cI x0.2.2.2.2.2]),(5,oF (.int 3) (([]:List Int)++x0.2.2.1)),(6,oF s97 x0.2.2.2.1),(9,oF s68 (List.take i x0.2.2.2.2.1))]⟩) { ts:=[2,3],os:=[2,3,5,6,9] } h (by kernel_rfl)
   replace h:=at_eq (σ':=⟨[(2,aP 2 0),(3,aP 3 0)],[(2,oX 31 [cI 0,cI 0,cN,cN,cN,cI 0]),(3,oX 31 [cI x0.1,cI x0.2.1,.sl 5,.sl 6,.sl 9,cI x0.2.2.2.2.2]),(5,oF (.int 3) (([]:List Int)++x0.2.2.1)),(6,oF s97 x0.2.2.2.1),(9,oF s68 x0.2.2.2.2.1)]⟩) h (st_congr1 (fun (d0:List T68)=>(⟨[(2,aP 2 0),(3,aP 3 0)],[(2,oX 31 [cI 0,cI 0,cN,cN,cN,cI 0]),(3,oX 31 [cI x0.1,cI x0.2.1,.sl 5,.sl 6,.sl 9,cI x0.2.2.2.2.2]),(5,oF (.int 3) (([]:List Int)++x0.2.2.1)),(6,oF s97 x0.2.2.2.1),(9,oF s68 d0)]⟩:St)) (show ((List.take i x0.2.2.2.2.1):List T68)=x0.2.2.2.2.1 from by first | with_reducible rfl | (rw [take_all (by omega)]) | rfl))
   refine then_exit (in_hit (then_normal (wp_seq ?_)))
   refine at_regq [] { ts:=[2],os:=[2,5,6,9] } [] gamOK hT h (by kernel_rfl) trivial fun a w h=>then_normal (wp_ret ?_)
   exact at_return ((x0.1,(x0.2.1,((([]:List Int)++x0.2.2.1),x0.2.2.2))),()) [] h (by kernel_rfl) trivial (congrArg (fun z=>(z,())) (show ((x0.1,(x0.2.1,((([]:List Int)++x0.2.2.1),x0.2.2.2))))=(idD s31) x0 from by rfl))

def crashS (s:T31):T31:=if validS s=true then (s.1,s.2.1,s.2.2.1,[],List.take s.2.2.2.2.2.toNat s.2.2.2.2.1,s.2.2.2.2.2) else s
theorem hd_stored {s:T31} (h:headS s=true):0≤s.2.2.2.2.2∧s.2.2.2.2.2≤((List.length s.2.2.2.2.1:Nat):Int):=by
 unfold headS at h;simp only [Bool.and_eq_true] at h;exact inR_t h.2.2.2.2
theorem crashS_y {s:T31} (h:validS s=true):(s.1,s.2.1,s.2.2.1,[],List.take s.2.2.2.2.2.toNat s.2.2.2.2.1,s.2.2.2.2.2)=crashS s:=(if_pos h).symm
theorem crashS_n {s:T31} (h:validS s=false):s=crashS s:=(if_neg (by rw [h];decide)).symm
theorem ctL_take1 {α:Type} (c:α→Nat):∀ (xs:List α) (i:Nat),ctL c (xs.take i)≤ctL c xs
 | [],_=>by simp [List.take_nil]
 | _::_,0=>Nat.zero_le _
 | x::l,i+1=>by have:=ctL_take1 c l i;show c x+ctL c (l.take i)≤c x+ctL c l;omega
theorem crashS_sz (s:T31):Sh.sz s31 (crashS s)≤Sh.sz s31 s:=by
 have e:∀ q:T31,Sh.sz s31 q=0+(0+(Sh.sz s22 q.2.2.1+((List.length q.2.2.2.1+ctL (Sh.sz s97) q.2.2.2.1)+((List.length q.2.2.2.2.1+ctL (Sh.sz s68) q.2.2.2.2.1)+0)))):=fun _=>rfl
 unfold crashS;split
 ·have h1 := ctL_take1 (Sh.sz s68) s.2.2.2.2.1 s.2.2.2.2.2.toNat
  have h2:List.length (List.take s.2.2.2.2.2.toNat s.2.2.2.2.1)≤List.length s.2.2.2.2.1:=by rw [List.length_take];omega
  rw [e,e]
  show 0+(0+(Sh.sz s22 s.2.2.1+((0+0)+((List.length (List.take s.2.2.2.2.2.toNat s.2.2.2.2.1)+ctL (Sh.sz s68) (List.take s.2.2.2.2.2.toNat s.2.2.2.2.1))+0))))≤_
  omega
 ·exact Nat.le_refl _
def S_slices_Clip_S_impl_Generation_impl_Generation_:Sum:={ fid:=33,dom:=[s29],cod:=[s29],dp:=true,fz:=false,pre:=fun x=>True,g:=fun x=>(((idD s29) x.1),()),kinds:=[.tk],upd:=fun x=>(x.1,()) }
def S_slices_Clip_S_impl_Generation_impl_Generation__tab:List (Nat×Sum):=[]
theorem S_slices_Clip_S_impl_Generation_impl_Generation__ok:FnOK Try.prog 33 S_slices_Clip_S_impl_Generation_impl_Generation_:=by
 refine at_enterI 9 [1] [] (fun us x=>⟨[(0,aS 1)],[(1,oR s68 x.1)]⟩) Try.func33 rfl (by kernel_rfl) (fun us x=>rfl) ?_
 rintro w0 Z0 us ⟨x0,u⟩ L a w
 revert x0
 intro (x0:(List T68)) hio hpre hlens h
 replace h:At w0 Z0 L 9 ⟨[(0,aS 1)],[(1,oR s68 x0)]⟩ a w:=h
 have hl1:List.length x0≤9223372036854775807:=hlens.1.1
 have hT:TabOK Try.prog S_slices_Clip_S_impl_Generation_impl_Generation__tab:=.nil
 refine wp_seq ?_
 refine at_regq [] { ts:=[0,2],os:=[1] } [] gamOK hT h (by kernel_rfl) trivial fun a w h=>then_normal (wp_seq ?_)
 refine at_regq [{},{},{},{},{},{ ids:=[2] }] { ts:=[2],os:=[2] } [(((List.length x0:Nat):Int):Int)=((List.length x0:Nat):Int)∧(((List.length x0:Nat):Int):Int)=((List.length x0:Nat):Int)] gamOK hT h (by kernel_rfl) ⟨(by refine ⟨?_,?_⟩<;>(first | omega | (simp only [lsA];omega) | (simp<;>omega))),trivial⟩ fun a w h=>then_normal (wp_ret ?_)
 exact at_returnI (S:=S_slices_Clip_S_impl_Generation_impl_Generation_) (x:=(x0,())) [1] [] (x0,()) (some (x0,())) [] hio h (by kernel_rfl) trivial (by first | rfl | (show (x0,())=(x0,()))) (fun z e=>(Option.some.inj e) ▸ (congrArg (fun z=>(z,())) (show (x0)=(idD s29) x0 from by rfl)))

abbrev Q_impl_CrashSink:=(fun (x0:T31)=>Sh.fit s31 x0)
def S_impl_CrashSink:Sum:={ fid:=8,dom:=[s31],cod:=[s31],dp:=true,fz:=false,pre:=fun x=>Q_impl_CrashSink x.1,g:=fun x=>((crashS x.1),()) }
def S_impl_CrashSink_tab:List (Nat×Sum):=[(31,S__impl_Sink_clone),(32,S_impl_IsValidSink),(33,S_slices_Clip_S_impl_Generation_impl_Generation_)]
theorem S_impl_CrashSink_ok:FnOK Try.prog 8 S_impl_CrashSink:=by
 refine at_enter 17 (fun x=>⟨[(0,aG [cI x.1.1,cI x.1.2.1,.ro (.int 3) x.1.2.2.1,.ro s97 x.1.2.2.2.1,.ro s68 x.1.2.2.2.2.1,cI x.1.2.2.2.2.2])],[]⟩) Try.func8 rfl (by kernel_rfl) (fun x=>rfl) ?_
 rintro w0 Z0 ⟨x0,u⟩ a w
 revert x0
 intro (x0:T31) hpre hlens h
 replace hpre:Q_impl_CrashSink x0:=hpre
 have hT:TabOK Try.prog S_impl_CrashSink_tab:=(.cons S__impl_Sink_clone_ok (.cons S_impl_IsValidSink_ok (.cons S_slices_Clip_S_impl_Generation_impl_Generation__ok .nil)))
 have hf0:Sh.fit s31 x0:=hpre
 have hn0_1:List.length x0.2.2.1≤1073741824:=hf0.2.2.1.1
 have hn0_2:List.length x0.2.2.2.1≤1073741824:=hf0.2.2.2.1.1
 have hn0_3:List.length x0.2.2.2.2.1≤1073741824:=hf0.2.2.2.2.1.1
 refine wp_seq ?_
 refine at_regq [{ ids:=[1] },{ ids:=[2] }] { ts:=[1,2],os:=[1,2] } [] gamOK hT h (by kernel_rfl) trivial fun a w h=>then_normal (wp_seq ?_)
 refine at_regq [{},{ ids:=[3,4,5] },{ ids:=[6] }] { ts:=[1,2,3],os:=[1,2,3,4,5,6] } [Q__impl_Sink_clone x0] gamOK hT h (by kernel_rfl) ⟨(by exact hf0),trivial⟩ fun a w h=>then_normal (wp_seq (wp_seq ?_))
 refine at_regq [] { ts:=[1,2,3,7],os:=[1,2,3,4,5,6] } [Q_impl_IsValidSink x0] gamOK hT h (by kernel_rfl) ⟨(by exact hf0),trivial⟩ fun a w h=>then_normal ?_
 refine at_test ((validS x0)) h (by kernel_rfl) (fun h1=>?_) (fun h1=>?_)
 ·have hvh1 := validS_t h1
  have hst:=hd_stored (validS_t (s:=x0) (by assumption)).1
  refine wp_seq ?_
  refine at_regq [{},{},{},{},{ ids:=[7] },{ ids:=[8] }] { ts:=[2,3],os:=[2,3,4,6,8] } [(0:Int)≤x0.2.2.2.2.2∧x0.2.2.2.2.2≤((List.length x0.2.2.2.2.1:Nat):Int),True] gamOK hT h (by kernel_rfl) ⟨(by refine ⟨?_,?_⟩<;>(first | omega | (simp only [lsA];omega) | (simp<;>omega))),trivial,trivial⟩ fun a w h=>then_normal ?_
  refine at_regq [] { ts:=[2,3],os:=[2,3,6,8] } [] gamOK hT h (by kernel_rfl) trivial fun a w h=>then_normal (wp_seq ?_)
  refine at_regq [] { ts:=[2],os:=[2,3,8] } [] gamOK hT h (by kernel_rfl) trivial fun a w h=>then_normal (wp_ret ?_)
  exact at_return ((x0.1,(x0.2.1,(x0.2.2.1,(([]:List T97),(((idD s29) (List.take ((x0.2.2.2.2.2).toNat) x0.2.2.2.2.1)),x0.2.2.2.2.2))))),()) [] h (by kernel_rfl) trivial (congrArg (fun z=>(z,())) (show ((x0.1,(x0.2.1,(x0.2.2.1,(([]:List T97),(((idD s29) (List.take ((x0.2.2.2.2.2).toNat) x0.2.2.2.2.1)),x0.2.2.2.2.2))))))=crashS x0 from by (first | exact crashS_n (by assumption) | exact crashS_y (by assumption))))
 ·refine wp_skip (then_normal (wp_seq ?_))
  refine at_regq [] { ts:=[2],os:=[2,3,4,5] } [] gamOK hT h (by kernel_rfl) trivial fun a w h=>then_normal (wp_ret ?_)
  exact at_return (x0,()) [] h (by kernel_rfl) trivial (congrArg (fun z=>(z,())) (show (x0)=crashS x0 from by (first | exact crashS_n (by assumption) | exact crashS_y (by assumption))))

abbrev Q_spec_CrashSink:=(fun (x0:T31)=>Sh.fit s31 x0)
def S_spec_CrashSink:Sum:={ fid:=6,dom:=[s31],cod:=[s31],dp:=false,fz:=true,pre:=fun x=>Q_spec_CrashSink x.1,g:=fun x=>((crashS x.1),()) }
def S_spec_CrashSink_tab:List (Nat×Sum):=[(26,S_spec_l30Copy),(27,S_spec_IsValidSink)]
theorem S_spec_CrashSink_ok:FnOK Try.prog 6 S_spec_CrashSink:=by
 refine at_enter 19 (fun x=>⟨[(0,aG [cI x.1.1,cI x.1.2.1,.ro (.int 3) x.1.2.2.1,.ro s97 x.1.2.2.2.1,.ro s68 x.1.2.2.2.2.1,cI x.1.2.2.2.2.2])],[]⟩) Try.func6 rfl (by kernel_rfl) (fun x=>rfl) ?_
 rintro w0 Z0 ⟨x0,u⟩ a w
 revert x0
 intro (x0:T31) hpre hlens h
 replace hpre:Q_spec_CrashSink x0:=hpre
 have hT:TabOK Try.prog S_spec_CrashSink_tab:=(.cons S_spec_l30Copy_ok (.cons S_spec_IsValidSink_ok .nil))
 have hf0:Sh.fit s31 x0:=hpre
 have hn0_1:List.length x0.2.2.1≤1073741824:=hf0.2.2.1.1
 have hn0_2:List.length x0.2.2.2.1≤1073741824:=hf0.2.2.2.1.1
 have hn0_3:List.length x0.2.2.2.2.1≤1073741824:=hf0.2.2.2.2.1.1
 refine wp_seq ?_
 refine at_regq [{ ids:=[1] },{ ids:=[2] }] { ts:=[1,2],os:=[1,2] } [] gamOK hT h (by kernel_rfl) trivial fun a w h=>then_normal (wp_seq ?_)
 refine at_regq [{},{ ids:=[3,4,5] },{ ids:=[6] }] { ts:=[1,2,3],os:=[1,2,3,4,5,6] } [Q_spec_l30Copy x0] gamOK hT h (by kernel_rfl) ⟨(by exact hf0),trivial⟩ fun a w h=>then_normal (wp_seq (wp_seq ?_))
 refine at_regq [] { ts:=[1,2,3,8],os:=[1,2,3,4,5,6] } [Q_spec_IsValidSink x0] gamOK hT h (by kernel_rfl) ⟨(by exact hf0),trivial⟩ fun a w h=>then_normal ?_
 refine at_test (!(validS x0)) h (by kernel_rfl) (fun h1=>?_) (fun h1=>?_)
 ·replace h1 : (validS x0) = false := notT h1
  refine wp_seq ?_
  refine at_regq [] { ts:=[1,2,3],os:=[1,2,3,4,5,6] } [] gamOK hT h (by kernel_rfl) trivial fun a w h=>then_normal (wp_ret (then_ret ?_))
  exact at_return (x0,()) [] h (by kernel_rfl) trivial (congrArg (fun z=>(z,())) (show (x0)=crashS x0 from by (first | exact crashS_n (by assumption) | exact crashS_y (by assumption))))
 ·replace h1 : (validS x0) = true := notF h1
  have hvh1:=validS_t h1
  have hst:=hd_stored (validS_t (s:=x0) (by assumption)).1
  refine wp_skip (then_normal (wp_seq ?_))
  refine at_regq [{},{},{},{},{ ids:=[7] }] { ts:=[2,3],os:=[2,3,4,6,7] } [(0:Int)≤x0.2.2.2.2.2∧x0.2.2.2.2.2≤((List.length x0.2.2.2.2.1:Nat):Int)] gamOK hT h (by kernel_rfl) ⟨(by refine ⟨?_,?_⟩<;>(first | omega | (simp only [lsA];omega) | (simp<;>omega))),trivial⟩ fun a w h=>then_normal (wp_seq ?_)
  refine at_regq [{ ids:=[8],dp:=false }] { ts:=[2,3],os:=[2,3,6,7,8] } [] gamOK hT h (by kernel_rfl) trivial fun a w h=>then_normal (wp_seq ?_)
  refine at_regq [] { ts:=[2],os:=[2,3,7,8] } [] gamOK hT h (by kernel_rfl) trivial fun a w h=>then_normal (wp_ret ?_)
  exact at_return ((x0.1,(x0.2.1,(x0.2.2.1,(([]:List T97),((List.take ((x0.2.2.2.2.2).toNat) x0.2.2.2.2.1),x0.2.2.2.2.2))))),()) [] h (by kernel_rfl) trivial (congrArg (fun z=>(z,())) (show ((x0.1,(x0.2.1,(x0.2.2.1,(([]:List T97),((List.take ((x0.2.2.2.2.2).toNat) x0.2.2.2.2.1),x0.2.2.2.2.2))))))=crashS x0 from by (first | exact crashS_n (by assumption) | exact crashS_y (by assumption))))

def D_laws_FnExactCrashSink:=(fun (_:T26)=>true)
abbrev Q_laws_FnExactCrashSink:=(fun (x0:T26)=>Sh.i64 s26 x0)
def S_laws_FnExactCrashSink:Sum:={ fid:=3,dom:=[s26],cod:=[(.bool 4)],dp:=true,fz:=false,pre:=fun x=>Q_laws_FnExactCrashSink x.1,g:=fun x=>((D_laws_FnExactCrashSink x.1),()) }
def S_laws_FnExactCrashSink_tab:List (Nat×Sum):=[(5,S_laws_szSink),(7,S_laws_toSink),(6,S_spec_CrashSink),(8,S_impl_CrashSink),(9,S_laws_eqSink),(10,S_laws_markSink),(11,S_laws_heldSink)]
theorem S_laws_FnExactCrashSink_ok:FnOK Try.prog 3 S_laws_FnExactCrashSink:=by
 refine at_enter 69 (fun x=>⟨[(0,aG [cI x.1.1,cI x.1.2.1,.ro (.int 3) x.1.2.2.1,.ro s92 x.1.2.2.2.1,.ro s94 x.1.2.2.2.2.1,cI x.1.2.2.2.2.2])],[]⟩) Try.func3 rfl (by kernel_rfl) (fun x=>rfl) ?_
 rintro w0 Z0 ⟨x0,u⟩ a w
 revert x0
 intro (x0:T26) hpre hlens h
 replace hpre:Q_laws_FnExactCrashSink x0:=hpre
 have hl1:List.length x0.2.2.1≤9223372036854775807:=hlens.1.2.2.1.1
 have hl2:List.length x0.2.2.2.1≤9223372036854775807:=hlens.1.2.2.2.1.1
 have hl3:List.length x0.2.2.2.2.1≤9223372036854775807:=hlens.1.2.2.2.2.1.1
 have hT:TabOK Try.prog S_laws_FnExactCrashSink_tab:=(.cons S_laws_szSink_ok (.cons S_laws_toSink_ok (.cons S_spec_CrashSink_ok (.cons S_impl_CrashSink_ok (.cons S_laws_eqSink_ok (.cons S_laws_markSink_ok (.cons S_laws_heldSink_ok .nil)))))))
 have hq0:Sh.sz s31 x0=Sh.sz s26 x0:=rfl
 have hb0:Sh.ctT s31 x0≤11*Sh.sz s31 x0:=Sh.ctT_le2 s31 x0
 have hz0:Sh.ct s31 x0≤11*(1+Sh.sz s31 x0):=Sh.ct_le s31 x0
 have ht0:Sh.sz s26 x0=(0+(0+((Sh.sz s22 x0.2.2.1)+((Sh.sz s23 x0.2.2.2.1)+((Sh.sz s24 x0.2.2.2.2.1)+0))))):=rfl
 have hs0_1:Sh.sz s22 x0.2.2.1=List.length x0.2.2.1:=sz_flat (by rfl) _
 have hs0_2:Sh.sz s23 x0.2.2.2.1=List.length x0.2.2.2.1+ctL (Sh.sz s92) x0.2.2.2.1:=rfl
 have hs0_3:Sh.sz s24 x0.2.2.2.2.1=List.length x0.2.2.2.2.1+ctL (Sh.sz s94) x0.2.2.2.2.1:=rfl
 have hr1:Sh.ctT s31 (crashS x0)≤11*Sh.sz s31 (crashS x0):=Sh.ctT_le2 s31 _
 have hr2:=crashS_sz x0
 refine wp_seq ?_
 refine at_regq [{ ids:=[1] }] { ts:=[1,2],os:=[1] } [] gamOK hT h (by kernel_rfl) trivial fun a w h=>then_normal (wp_seq ?_)
 refine at_regq [] { ts:=[1,2,3],os:=[1] } [] gamOK hT h (by kernel_rfl) trivial fun a w h=>then_normal (wp_seq ?_)
 refine at_regq [] { ts:=[1,2,3],os:=[1] } [(pSz s26) x0 1048576] gamOK hT h (by kernel_rfl) ⟨(by (show (0:Int)≤_∧_≤(9223372036854775807:Int);constructor<;>omega)),trivial⟩ fun a w h=>then_normal (wp_seq (wp_seq ?_))
 refine at_regq [] { ts:=[1,2,15],os:=[1] } [] gamOK hT h (by kernel_rfl) trivial fun a w h=>then_normal ?_
 refine at_test (decide (((szD s26) x0 1048576) < 0)) h (by kernel_rfl) (fun h1=>?_) (fun h1=>?_)
 ·replace h1 : ((szD s26) x0 1048576) < 0 := of_decide_eq_true h1
  have hvh1:=szD_neg h1 (by omega)
  refine wp_seq ?_
  refine at_regq [] { ts:=[1,2],os:=[1] } [] gamOK hT h (by kernel_rfl) trivial fun a w h=>then_normal (wp_ret (then_ret ?_))
  exact at_return (true,()) [] h (by kernel_rfl) trivial (congrArg (fun z=>(z,())) (show (true)=D_laws_FnExactCrashSink x0 from by unfold D_laws_FnExactCrashSink;rfl))
 ·replace h1 : ¬ (((szD s26) x0 1048576) < 0) := of_decide_eq_false h1
  have hvh1:=szD_val h1 (by omega)
  refine wp_skip (then_normal (wp_seq ?_))
  refine at_regq [{},{ frz:=true },{},{ ids:=[2] }] { ts:=[1,2,4],os:=[1,2] } [(pTo s26) x0,Q_spec_CrashSink x0] gamOK hT h (by kernel_rfl) ⟨(by (show Sh.sz _ _≤1048576;omega)),(by exact (Sh.fit_of_sz s31 rfl (x:=x0) (by omega))),trivial⟩ fun a w h=>then_normal (wp_seq ?_)
  refine at_regq [{},{ ids:=[3,4,5] },{ ids:=[6] }] { ts:=[1,2,4,5],os:=[1,2,3,4,5,6] } [(pTo s26) x0] gamOK hT h (by kernel_rfl) ⟨(by (show Sh.sz _ _≤1048576;omega)),trivial⟩ fun a w h=>then_normal (wp_seq ?_)
  refine at_regq [{},{ ids:=[7,8,9] },{ ids:=[10] }] { ts:=[1,2,4,5,6],os:=[1,2,3,4,5,6,7,8,9,10] } [Q_impl_CrashSink x0] gamOK hT h (by kernel_rfl) ⟨(by exact (Sh.fit_of_sz s31 rfl (x:=x0) (by omega))),trivial⟩ fun a w h=>then_normal (wp_seq (wp_seq ?_))
  refine at_regq [] { ts:=[1,2,4,5,6,26],os:=[1,2,3,4,5,6,7,8,9,10] } [True] gamOK hT h (by kernel_rfl) ⟨trivial,trivial⟩ fun a w h=>then_normal ?_
  refine at_test (!((Sh.eqB s31) (crashS x0) (crashS x0))) h (by kernel_rfl) (fun h2=>?_) (fun h2=>?_)
  ·replace h2 : ((Sh.eqB s31) (crashS x0) (crashS x0)) = false := notT h2
   refine wp_seq ?_
   refine at_regq [] { ts:=[1,2,4,5,6],os:=[1,2,3,4,5,6,7,8,9,10] } [] gamOK hT h (by kernel_rfl) trivial fun a w h=>then_normal (wp_ret (then_ret ?_))
   exact at_return (false,()) [] h (by kernel_rfl) trivial (congrArg (fun z=>(z,())) (show (false)=D_laws_FnExactCrashSink x0 from by unfold D_laws_FnExactCrashSink;exact absurd ((Sh.eqB_iff _).2 (show _=_ from by first | rfl | (rfl))) (neT h2)))
  ·replace h2 : ((Sh.eqB s31) (crashS x0) (crashS x0)) = true := notF h2
   refine wp_skip (then_normal (wp_seq (wp_seq ?_)))
   refine at_anyq [{},{},{ ids:=[11,12,13] },{},{}] { ts:=[1,2,4,5,6,31],os:=[1,2,3,4,5,6,7,8,9,10] } [(pTo s26) x0,True] gamOK hT mixed h (by kernel_rfl) ⟨(by (show Sh.sz _ _≤1048576;omega)),trivial,trivial⟩ fun a w h=>then_normal ?_
   refine at_test (!((Sh.eqB s31) x0 x0)) h (by kernel_rfl) (fun h3=>?_) (fun h3=>?_)
   ·replace h3 : ((Sh.eqB s31) x0 x0) = false := notT h3
    refine wp_seq ?_
    refine at_regq [] { ts:=[1,2,4,5,6],os:=[1,2,3,4,5,6,7,8,9,10] } [] gamOK hT h (by kernel_rfl) trivial fun a w h=>then_normal (wp_ret (then_ret ?_))
    exact at_return (false,()) [] h (by kernel_rfl) trivial (congrArg (fun z=>(z,())) (show (false)=D_laws_FnExactCrashSink x0 from by unfold D_laws_FnExactCrashSink;exact absurd ((Sh.eqB_iff _).2 (show _=_ from by first | rfl | (rfl))) (neT h3)))
   ·replace h3 : ((Sh.eqB s31) x0 x0) = true := notF h3
    refine wp_skip (then_normal (wp_seq ?_))
    refine at_regq [] { ts:=[1,2,4,5,6,7],os:=[1,2,3,4,5,6,7,8,9,10] } [] gamOK hT h (by kernel_rfl) trivial fun a w h=>then_normal (wp_seq ?_)
    refine at_regq [] { ts:=[1,2,4,6,7],os:=[1,2,7,8,9,10] } [(pMkT s31) x0 1] gamOK hT h (by kernel_rfl) ⟨(by (show (0:Int)≤_∧_+((Sh.ctT _ _:Nat):Int)≤(4611686018427387904:Int);(try simp only [held_marked,held_markedT,mkK,mkKT,Sh.ctT_mkT,Sh.ct_mk]);constructor<;>omega)),trivial⟩ fun a w h=>then_normal (wp_seq (wp_seq ?_))
    by_cases h4:((mkKT s31) x0 1) < 0
    ·refine at_regq [{}, { hint := some (aB true) }] { ts := [1, 2, 4, 6, 42], os := [1, 2, 7, 8, 9, 10] } [(AV.p (.c (.v (.bool (decide (((mkKT s31) x0 1) < 0))))) = AV.p (.c (.v (.bool true))))] gamOK hT h (by kernel_rfl) ⟨hint_bool (decide_eq_true h4), trivial⟩ fun a w h => then_normal ?_
     refine at_test true h (by kernel_rfl) (fun hh=>?_) (fun hh=>nomatch hh)
     refine wp_seq ?_
     refine at_regq [] { ts:=[1,2,4,6],os:=[1,2,7,8,9,10] } [] gamOK hT h (by kernel_rfl) trivial fun a w h=>then_normal (wp_ret (then_ret ?_))
     exact at_return (false,()) [] h (by kernel_rfl) trivial (congrArg (fun z=>(z,())) (show (false)=D_laws_FnExactCrashSink x0 from by unfold D_laws_FnExactCrashSink;(exfalso;simp only [mkK,mkKT,Sh.ctT_mkT,Sh.ct_mk] at h4;first | omega | exact h4 trivial | exact h4 rfl)))
    ·refine at_regq [{}, { hint := some (aB false) }] { ts := [1, 2, 4, 6, 42], os := [1, 2, 7, 8, 9, 10] } [(AV.p (.c (.v (.bool (decide (((mkKT s31) x0 1) < 0))))) = AV.p (.c (.v (.bool false)))), True] gamOK hT h (by kernel_rfl) ⟨hint_bool (decide_eq_false h4), trivial, trivial⟩ fun a w h => then_normal ?_
     refine at_test (!((Sh.eqB s31) (crashS x0) (crashS x0))) h (by kernel_rfl) (fun h5=>?_) (fun h5=>?_)
     ·replace h5 : ((Sh.eqB s31) (crashS x0) (crashS x0)) = false := notT h5
      refine wp_seq ?_
      refine at_regq [] { ts:=[1,2,4,6],os:=[1,2,7,8,9,10] } [] gamOK hT h (by kernel_rfl) trivial fun a w h=>then_normal (wp_ret (then_ret ?_))
      exact at_return (false,()) [] h (by kernel_rfl) trivial (congrArg (fun z=>(z,())) (show (false)=D_laws_FnExactCrashSink x0 from by unfold D_laws_FnExactCrashSink;exact absurd ((Sh.eqB_iff _).2 (show _=_ from by first | rfl | (rfl))) (neT h5)))
     ·replace h5 : ((Sh.eqB s31) (crashS x0) (crashS x0)) = true := notF h5
      refine wp_skip (then_normal (wp_seq ?_))
      refine at_regq [] { ts:=[1,2,4,6,8],os:=[1,2,7,8,9,10] } [] gamOK hT h (by kernel_rfl) trivial fun a w h=>then_normal (wp_seq ?_)
      refine at_regq [] { ts:=[1,2,4,6,8],os:=[1,2,7,8,9,10] } [(pMkT s31) (crashS x0) 1] gamOK hT h (by kernel_rfl) ⟨(by (show (0:Int)≤_∧_+((Sh.ctT _ _:Nat):Int)≤(4611686018427387904:Int);(try simp only [held_marked,held_markedT,mkK,mkKT,Sh.ctT_mkT,Sh.ct_mk]);constructor<;>omega)),trivial⟩ fun a w h=>then_normal (wp_seq ?_)
      refine at_regq [] { ts:=[1,2,4,6,8,9],os:=[1,2,7,8,9,10] } [] gamOK hT h (by kernel_rfl) trivial fun a w h=>then_normal (wp_seq ?_)
      refine at_regq [] { ts:=[1,2,4,6,8,9],os:=[1,2,7,8,9,10] } [(pMkT s31) ((Sh.mkT s31) (crashS x0) 1) 1] gamOK hT h (by kernel_rfl) ⟨(by (show (0:Int)≤_∧_+((Sh.ctT _ _:Nat):Int)≤(4611686018427387904:Int);(try simp only [held_marked,held_markedT,mkK,mkKT,Sh.ctT_mkT,Sh.ct_mk]);constructor<;>omega)),trivial⟩ fun a w h=>then_normal (wp_seq (wp_seq ?_))
      refine at_regq [] { ts:=[1,2,4,6,8,9,50],os:=[1,2,7,8,9,10] } [] gamOK hT h (by kernel_rfl) trivial fun a w h=>then_normal ?_
      refine at_test (decide (((heldDT s31) ((Sh.mkT s31) (crashS x0) 1) 1) < 0)) h (by kernel_rfl) (fun h6=>?_) (fun h6=>?_)
      ·replace h6 : ((heldDT s31) ((Sh.mkT s31) (crashS x0) 1) 1) < 0 := of_decide_eq_true h6
       refine wp_seq ?_
       refine at_regq [] { ts:=[1,2,4,6,8,9],os:=[1,2,7,8,9,10] } [] gamOK hT h (by kernel_rfl) trivial fun a w h=>then_normal (wp_ret (then_ret ?_))
       exact at_return (false,()) [] h (by kernel_rfl) trivial (congrArg (fun z=>(z,())) (show (false)=D_laws_FnExactCrashSink x0 from by unfold D_laws_FnExactCrashSink;(exfalso;simp only [held_marked,held_markedT,mkK,mkKT,Sh.ctT_mkT,Sh.ct_mk] at h6;first | omega | exact h6 trivial | exact h6 rfl)))
      ·replace h6 : ¬ (((heldDT s31) ((Sh.mkT s31) (crashS x0) 1) 1) < 0) := of_decide_eq_false h6
       refine wp_skip (then_normal (wp_seq (wp_seq ?_)))
       refine at_regq [] { ts:=[1,2,4,6,8,53],os:=[1,2,7,8,9,10] } [] gamOK hT h (by kernel_rfl) trivial fun a w h=>then_normal ?_
       refine at_test (!decide (((heldDT s31) ((Sh.mkT s31) (crashS x0) 1) 1)=((mkKT s31) (crashS x0) 1))) h (by kernel_rfl) (fun h7=>?_) (fun h7=>?_)
       ·replace h7 : ¬ (((heldDT s31) ((Sh.mkT s31) (crashS x0) 1) 1) = ((mkKT s31) (crashS x0) 1)) := of_decide_eq_false (notT h7)
        refine wp_seq ?_
        refine at_regq [] { ts:=[1,2,4,6,8],os:=[1,2,7,8,9,10] } [] gamOK hT h (by kernel_rfl) trivial fun a w h=>then_normal (wp_ret (then_ret ?_))
        exact at_return (false,()) [] h (by kernel_rfl) trivial (congrArg (fun z=>(z,())) (show (false)=D_laws_FnExactCrashSink x0 from by unfold D_laws_FnExactCrashSink;(exfalso;simp only [held_marked,held_markedT,mkK,mkKT,Sh.ctT_mkT,Sh.ct_mk] at h7;first | omega | exact h7 trivial | exact h7 rfl)))
       ·replace h7 : ((heldDT s31) ((Sh.mkT s31) (crashS x0) 1) 1) = ((mkKT s31) (crashS x0) 1) := of_decide_eq_true (notF h7)
        refine wp_skip (then_normal (wp_seq ?_))
        refine at_regq [{},{ ids:=[14,15,16] },{ ids:=[17,18,19] },{ ids:=[20] }] { ts:=[2,4,6,8,10],os:=[2,7,8,9,10,17,18,19,20] } [(pTo s26) x0,Q_impl_CrashSink x0] gamOK hT h (by kernel_rfl) ⟨(by (show Sh.sz _ _≤1048576;omega)),(by exact (Sh.fit_of_sz s31 rfl (x:=x0) (by omega))),trivial⟩ fun a w h=>then_normal (wp_seq (wp_seq ?_))
        refine at_regq [] { ts:=[2,6,8,60],os:=[7,8,9,10] } [True] gamOK hT h (by kernel_rfl) ⟨trivial,trivial⟩ fun a w h=>then_normal ?_
        refine at_test (!((Sh.eqB s31) (crashS x0) (crashS x0))) h (by kernel_rfl) (fun h8=>?_) (fun h8=>?_)
        ·replace h8 : ((Sh.eqB s31) (crashS x0) (crashS x0)) = false := notT h8
         refine wp_seq ?_
         refine at_regq [] { ts:=[2,6,8],os:=[7,8,9,10] } [] gamOK hT h (by kernel_rfl) trivial fun a w h=>then_normal (wp_ret (then_ret ?_))
         exact at_return (false,()) [] h (by kernel_rfl) trivial (congrArg (fun z=>(z,())) (show (false)=D_laws_FnExactCrashSink x0 from by unfold D_laws_FnExactCrashSink;exact absurd ((Sh.eqB_iff _).2 (show _=_ from by first | rfl | (rfl))) (neT h8)))
        ·replace h8 : ((Sh.eqB s31) (crashS x0) (crashS x0)) = true := notF h8
         refine wp_skip (then_normal (wp_seq ?_))
         refine at_regq [] { ts:=[2,6,8,9],os:=[7,8,9,10] } [] gamOK hT h (by kernel_rfl) trivial fun a w h=>then_normal (wp_seq ?_)
         refine at_regq [] { ts:=[2,8,9],os:=[] } [(pMkT s31) ((Sh.mkT s31) (crashS x0) 1) 1] gamOK hT h (by kernel_rfl) ⟨(by (show (0:Int)≤_∧_+((Sh.ctT _ _:Nat):Int)≤(4611686018427387904:Int);(try simp only [held_marked,held_markedT,mkK,mkKT,Sh.ctT_mkT,Sh.ct_mk]);constructor<;>omega)),trivial⟩ fun a w h=>then_normal (wp_seq (wp_seq ?_))
         refine at_regq [] { ts:=[2,8,9,65],os:=[] } [] gamOK hT h (by kernel_rfl) trivial fun a w h=>then_normal ?_
         refine at_test (decide (((heldDT s31) ((Sh.mkT s31) (crashS x0) 1) 1) < 0)) h (by kernel_rfl) (fun h9=>?_) (fun h9=>?_)
         ·replace h9 : ((heldDT s31) ((Sh.mkT s31) (crashS x0) 1) 1) < 0 := of_decide_eq_true h9
          refine wp_seq ?_
          refine at_regq [] { ts:=[2,8,9],os:=[] } [] gamOK hT h (by kernel_rfl) trivial fun a w h=>then_normal (wp_ret (then_ret ?_))
          exact at_return (false,()) [] h (by kernel_rfl) trivial (congrArg (fun z=>(z,())) (show (false)=D_laws_FnExactCrashSink x0 from by unfold D_laws_FnExactCrashSink;(exfalso;simp only [held_marked,held_markedT,mkK,mkKT,Sh.ctT_mkT,Sh.ct_mk] at h9;first | omega | exact h9 trivial | exact h9 rfl)))
         ·replace h9 : ¬ (((heldDT s31) ((Sh.mkT s31) (crashS x0) 1) 1) < 0) := of_decide_eq_false h9
          refine wp_skip (then_normal (wp_seq (wp_seq ?_)))
          refine at_regq [] { ts:=[2,68],os:=[] } [] gamOK hT h (by kernel_rfl) trivial fun a w h=>then_normal ?_
          refine at_test (!decide (((heldDT s31) ((Sh.mkT s31) (crashS x0) 1) 1)=((mkKT s31) (crashS x0) 1))) h (by kernel_rfl) (fun h10=>?_) (fun h10=>?_)
          ·replace h10 : ¬ (((heldDT s31) ((Sh.mkT s31) (crashS x0) 1) 1) = ((mkKT s31) (crashS x0) 1)) := of_decide_eq_false (notT h10)
           refine wp_seq ?_
           refine at_regq [] { ts:=[2],os:=[] } [] gamOK hT h (by kernel_rfl) trivial fun a w h=>then_normal (wp_ret (then_ret ?_))
           exact at_return (false,()) [] h (by kernel_rfl) trivial (congrArg (fun z=>(z,())) (show (false)=D_laws_FnExactCrashSink x0 from by unfold D_laws_FnExactCrashSink;(exfalso;simp only [held_marked,held_markedT,mkK,mkKT,Sh.ctT_mkT,Sh.ct_mk] at h10;first | omega | exact h10 trivial | exact h10 rfl)))
          ·replace h10 : ((heldDT s31) ((Sh.mkT s31) (crashS x0) 1) 1) = ((mkKT s31) (crashS x0) 1) := of_decide_eq_true (notF h10)
           refine wp_skip (then_normal (wp_seq ?_))
           refine at_regq [] { ts:=[2],os:=[] } [] gamOK hT h (by kernel_rfl) trivial fun a w h=>then_normal (wp_ret ?_)
           exact at_return (true,()) [] h (by kernel_rfl) trivial (congrArg (fun z=>(z,())) (show (true)=D_laws_FnExactCrashSink x0 from by unfold D_laws_FnExactCrashSink;rfl))

theorem opn3:OpensS Try.prog 3 (.int 3):=opensS_int Try.underlying3
theorem co3:Try.prog.cellsOf 3=1:=by kernel_rfl
theorem opn22:OpensS Try.prog 22 s22:=opensS_slice (a:=(.int 3)) Try.underlying22 co3 opn3
theorem co22:Try.prog.cellsOf 22=1:=by kernel_rfl
theorem opn66:OpensS Try.prog 66 s66:=opensS_slice (a:=s22) Try.underlying66 co22 opn22
theorem co66:Try.prog.cellsOf 66=1:=by kernel_rfl
theorem co90:Try.prog.cellsOf 90=2:=by kernel_rfl
theorem opn90:OpensS Try.prog 90 s90:=by
  intro H enc w base spare held fuel cs x h
  obtain ⟨xs,n,_,_,hl,hlen,hf⟩:=DataW.trod_struct Try.underlying90 h
  obtain ⟨a0,k0,i0⟩:=opensS_field (a:=(.int 3)) (i:=0) 0 1 hf hlen rfl rfl rfl co3 opn3
  obtain ⟨a1,k1,i1⟩:=opensS_field (a:=s66) (i:=1) 1 1 hf hlen rfl rfl rfl co66 opn66
  rw [co90] at hl
  exact ⟨(a0,a1),(rdS_pair (off:=0) k0 (rdS_last (off:=1) k1 (by omega))),⟨i0,i1⟩⟩
theorem co92:Try.prog.cellsOf 92=5:=by kernel_rfl
theorem opn92:OpensS Try.prog 92 s92:=by
  intro H enc w base spare held fuel cs x h
  obtain ⟨xs,n,_,_,hl,hlen,hf⟩:=DataW.trod_struct Try.underlying92 h
  obtain ⟨a0,k0,i0⟩:=opensS_field (a:=(.int 3)) (i:=0) 0 1 hf hlen rfl rfl rfl co3 opn3
  obtain ⟨a1,k1,i1⟩:=opensS_field (a:=(.int 3)) (i:=1) 1 1 hf hlen rfl rfl rfl co3 opn3
  obtain ⟨a2,k2,i2⟩:=opensS_field (a:=(.int 3)) (i:=2) 2 1 hf hlen rfl rfl rfl co3 opn3
  obtain ⟨a3,k3,i3⟩:=opensS_field (a:=s90) (i:=3) 3 2 hf hlen rfl rfl rfl co90 opn90
  rw [co92] at hl
  exact ⟨(a0,(a1,(a2,a3))),(rdS_pair (off:=0) k0 (rdS_pair (off:=1) k1 (rdS_pair (off:=2) k2 (rdS_last (off:=3) k3 (by omega))))),⟨i0,⟨i1,⟨i2,i3⟩⟩⟩⟩
theorem opn23:OpensS Try.prog 23 s23:=opensS_slice (a:=s92) Try.underlying23 co92 opn92
theorem co23:Try.prog.cellsOf 23=1:=by kernel_rfl
theorem co94:Try.prog.cellsOf 94=2:=by kernel_rfl
theorem opn94:OpensS Try.prog 94 s94:=by
  intro H enc w base spare held fuel cs x h
  obtain ⟨xs,n,_,_,hl,hlen,hf⟩:=DataW.trod_struct Try.underlying94 h
  obtain ⟨a0,k0,i0⟩:=opensS_field (a:=(.int 3)) (i:=0) 0 1 hf hlen rfl rfl rfl co3 opn3
  obtain ⟨a1,k1,i1⟩:=opensS_field (a:=s66) (i:=1) 1 1 hf hlen rfl rfl rfl co66 opn66
  rw [co94] at hl
  exact ⟨(a0,a1),(rdS_pair (off:=0) k0 (rdS_last (off:=1) k1 (by omega))),⟨i0,i1⟩⟩
theorem opn24:OpensS Try.prog 24 s24:=opensS_slice (a:=s94) Try.underlying24 co94 opn94
theorem co24:Try.prog.cellsOf 24=1:=by kernel_rfl
theorem co26:Try.prog.cellsOf 26=6:=by kernel_rfl
theorem opn26:OpensS Try.prog 26 s26:=by
  intro H enc w base spare held fuel cs x h
  obtain ⟨xs,n,_,_,hl,hlen,hf⟩:=DataW.trod_struct Try.underlying26 h
  obtain ⟨a0,k0,i0⟩:=opensS_field (a:=(.int 3)) (i:=0) 0 1 hf hlen rfl rfl rfl co3 opn3
  obtain ⟨a1,k1,i1⟩:=opensS_field (a:=(.int 3)) (i:=1) 1 1 hf hlen rfl rfl rfl co3 opn3
  obtain ⟨a2,k2,i2⟩:=opensS_field (a:=s22) (i:=2) 2 1 hf hlen rfl rfl rfl co22 opn22
  obtain ⟨a3,k3,i3⟩:=opensS_field (a:=s23) (i:=3) 3 1 hf hlen rfl rfl rfl co23 opn23
  obtain ⟨a4,k4,i4⟩:=opensS_field (a:=s24) (i:=4) 4 1 hf hlen rfl rfl rfl co24 opn24
  obtain ⟨a5,k5,i5⟩:=opensS_field (a:=(.int 3)) (i:=5) 5 1 hf hlen rfl rfl rfl co3 opn3
  rw [co26] at hl
  exact ⟨(a0,(a1,(a2,(a3,(a4,a5))))),(rdS_pair (off:=0) k0 (rdS_pair (off:=1) k1 (rdS_pair (off:=2) k2 (rdS_pair (off:=3) k3 (rdS_pair (off:=4) k4 (rdS_last (off:=5) k5 (by omega))))))),⟨i0,⟨i1,⟨i2,⟨i3,⟨i4,i5⟩⟩⟩⟩⟩⟩
namespace fnExactCrashSink
open Go.ChangeShapes Go.WideShapes Go.ChangeAt Go.RowKit
theorem own:ownKnob Try.prog.godebug=none:=by kernel_rfl
theorem laidOut:laidOutB Try.prog=true:=fxLaid
set_option maxRecDepth 100000 in
theorem lifted (os:Os) (started:os.Started) (H:Type) (enc:TypeId×Value→H) :
    ReturnsInHanded {} Try.checked os 3 .any (Rows.fnExactCrashSinkSpec.pre6 enc Try.prog Try.f3 Rows.fnExactCrashSinkRow.domain false) (Rows.fnExactCrashSinkSpec.post enc Try.prog Try.f3 false true false false):=by
  refine returnsInHanded_of_change (C:=Try.checked) own started (by kernel_rfl) Try.func3
    (ChangeSpec.witness6 (enc:=enc) (C:=Try.checked) false ⟨#[],#[.agg #[.int .i64 0,.int .i64 0,.slice none 0 0,.slice none 0 0,.slice none 0 0,.int .i64 0]],[]⟩ 8 (by kernel_rfl) (by kernel_rfl) (by kernel_rfl) (by kernel_rfl)) ?_
  intro W base args ds gs before hval0 hW hcnd _
  have hval:∀ (j:Nat) t v,Try.f3.params[j]?=some t→args[j]?=some v→Value.okWide Try.prog W .any base t v:=hval0
  have hW':=hW
  obtain ⟨p,q,hA0,hV,rfl,hfz,hnd⟩:=hW
  have hA:DataW.TrodAll enc Try.prog W 0 (fun _=>true) true Try.f3.params.toList args.toList ds p:=hA0
  rw [Try.params3] at hA hval
  obtain ⟨v0,vs0,d0,ds0,p0,q0,hargs,rfl,rfl,h0,r0⟩:=trodAll_cons hA
  obtain ⟨rfl,rfl,rfl⟩:=trodAll_nil r0
  obtain rfl:args=#[v0]:=by cases args;simp_all
  obtain ⟨rfl,rfl⟩:=trodVars_none hV
  have k0:=h0
  have lt0:∀ x∈p0,x.block < W.heap.size:=by obtain ⟨m,hm⟩:=k0;exact DataW.trod_lt m _ _ _ hm
  obtain ⟨cs0,rfl,_⟩:=okWide_struct Try.underlying26 (hval 0 26 v0 rfl rfl)
  obtain ⟨cs0⟩:=cs0
  obtain ⟨x0,hx0,i0⟩:∃ x:(s26).D,(s26).rd W (fun b=>b < W.heap.size) cs0 x∧(s26).i64 x:=by obtain ⟨fuel,hf⟩:=h0;exact opn26 hf
  clear hA0 hval0
  refine (calls_law S_laws_FnExactCrashSink_ok (by kernel_rfl) W (fun b=>b < W.heap.size) [.agg cs0.toArray] (x0,()) (fun _ h=>h) ⟨argRd_st hx0,trivial⟩ i0).mono fun e W' hr=>?_
  obtain ⟨he,bel⟩:=ret_bool hr
  subst he
  exact ⟨_,rfl,_,_,_,[],_,[],hW',trodAll_mk1 (shut_bool Try.underlying4 _),(trodAll_cons_mk (Below.trod laidOut (by kernel_rfl) (of_decide_eq_true (by kernel_rfl)) k0 bel lt0) trodAll_mk0),rfl,bel.frame _,fun h=>by cases h⟩
theorem closed:joinedFacts Try.prog 3 Try.f3 (Rows.fnExactCrashSinkSpec) Rows.fnExactCrashSinkRow=true:=by
  unfold joinedFacts
  exact (and2 (and2 (and2 (and2 (and2 (and2 (and2 (and2 (and2 (and2 (and2 (and2 (and2 (and2 (and2 (and2 (and2 (and2 (and2 (and2 (and2 (and2 (and2 (and2 (and2 (and2 (and2 (and2 (and2 (and2 (and2 (by kernel_rfl) fxLaid) fxMaps) (by kernel_rfl)) (by kernel_rfl)) (by kernel_rfl)) (by kernel_rfl)) (by kernel_rfl)) (by kernel_rfl)) (by kernel_rfl)) (by kernel_rfl)) (by kernel_rfl)) (by kernel_rfl)) (by kernel_rfl)) (by kernel_rfl)) (by kernel_rfl)) (by kernel_rfl)) (by kernel_rfl)) (by kernel_rfl)) (by kernel_rfl)) (by kernel_rfl)) (by kernel_rfl)) (by kernel_rfl)) (by kernel_rfl)) (by kernel_rfl)) fxEnter) (by rw [fxLifts];kernel_rfl)) (by rw [fxMake];kernel_rfl)) (by kernel_rfl)) (by kernel_rfl)) (by kernel_rfl)) (by kernel_rfl))
theorem over:Rows.fnExactCrashSinkRow.holds Try.pinned (OpenSpec.ofChange Rows.fnExactCrashSinkSpec) :=
  OpenClaim.holds_of_wide 3 Try.f3 rfl rfl rfl rfl rfl rfl rfl ⟨rfl,rfl,rfl,rfl,rfl⟩ rfl rfl rfl rfl rfl (by kernel_rfl) Try.func3 closed
    (of_decide_eq_true (by kernel_rfl)) (by unfold Func.isWrapper;first | (rw [if_pos (by decide +kernel)];kernel_rfl) | (rw [if_neg (by decide +kernel)];exact ⟨rfl,rfl⟩))
    (fun os started H enc _=>lifted os started H enc)
/-- the statement -/
theorem proved:Rows.FnExactCrashSinkSaid:=over
end fnExactCrashSink

end Go.Proofs.Ytamibfjeldfphaa
