/- The walks of the functions that the law reaches: each summary holds. No condition. -/
import Derived.Test.YtamibfjeldfphaaY1
import Derived.Test.YtamibfjeldfphaaLA
import Derived.Test.YtamibfjeldfphaaProg
namespace Go.Proofs.Ytamibfjeldfphaa
open Go.RowKit
set_option linter.unusedVariables false
set_option linter.unusedSimpArgs false
def newSink (x0:Int) (x1:Int) (x2:(List Int)):T31:=(if (inR x0 0 7)=true then (if (inR x1 1 16)=true then (if ((List.length x2:Nat):Int) > 60 then (0,(0,(([]:List Int),(([]:List T97),(([]:List T68),0))))) else (if (D_slices_ContainsFunc_S_int_int__NewSink_1 x2 ())=true then (0,(0,(([]:List Int),(([]:List T97),(([]:List T68),0))))) else (x0,(x1,(x2,(([]:List T97),(([]:List T68),0))))))) else (0,(0,(([]:List Int),(([]:List T97),(([]:List T68),0)))))) else (0,(0,(([]:List Int),(([]:List T97),(([]:List T68),0))))))
abbrev Q_impl_NewSink:=(fun (x0:Int) (x1:Int) (x2:(List Int))=>Sh.fit s22 x2)
def S_impl_NewSink:Sum:={ fid:=72,dom:=[(.int 3),(.int 3),s22],cod:=[s31],dp:=true,fz:=false,pre:=fun x=>Q_impl_NewSink x.1 x.2.1 x.2.2.1,g:=fun x=>((newSink x.1 x.2.1 x.2.2.1),()) }
def S_impl_NewSink_tab:List (Nat×Sum):=[(73,S_impl_InRange),(100002,S_slices_ContainsFunc_S_int_int__NewSink_1),(69,S_slices_Clone_S_int_int_)]
theorem S_impl_NewSink_ok:FnOK Try.prog 72 S_impl_NewSink:=by
 refine at_enter 29 (fun x=>⟨[(0,aI x.1),(1,aI x.2.1),(2,aF (.int 3) x.2.2.1)],[]⟩) Try.func72 rfl (by kernel_rfl) (fun x=>rfl) ?_
 rintro w0 Z0 ⟨x0,x1,x2,u⟩ a w
 revert x0 x1 x2
 intro (x0:Int) (x1:Int) (x2:(List Int)) hpre hlens h
 replace hpre:Q_impl_NewSink x0 x1 x2:=hpre
 have hT:TabOK Try.prog S_impl_NewSink_tab:=(.cons S_impl_InRange_ok (.cons S_slices_ContainsFunc_S_int_int__NewSink_1_ok (.cons S_slices_Clone_S_int_int__ok .nil)))
 have hf2:Sh.fit s22 x2:=hpre
 have hn2_1:List.length x2≤1073741824:=hf2.1
 refine wp_seq ?_
 refine at_regq [{ ids:=[1] }] { ts:=[0,1,2,6],os:=[1] } [] gamOK hT h (by kernel_rfl) trivial fun a w h=>then_normal (wp_seq (wp_seq ?_))
 rcases Bool.eq_false_or_eq_true (!(inR x0 0 7)) with h1 | h1
 ·have hzh1 : (inR x0 0 7) = false := notT h1
  have hvh1:=inR_f (notT h1)
  refine at_regq [{},{},{ hint:=some (aB true) }] { ts:=[0,1,2,6,19],os:=[1] } [True,(AV.p (.c (.v (.bool (!(inR x0 0 7)))))=AV.p (.c (.v (.bool true))))] gamOK hT h (by kernel_rfl) ⟨trivial,hint_bool (h1),trivial⟩ fun a w h=>then_normal ?_
  refine at_test true h (by kernel_rfl) (fun hh=>?_) (fun hh=>nomatch hh)
  refine wp_seq ?_
  refine at_regq [] { ts:=[0,1,2,6],os:=[1] } [] gamOK hT h (by kernel_rfl) trivial fun a w h=>then_normal (wp_ret (then_ret ?_))
  exact at_return ((0,(0,(([]:List Int),(([]:List T97),(([]:List T68),0))))),()) [] h (by kernel_rfl) trivial (congrArg (fun z=>(z,())) (show ((0,(0,(([]:List Int),(([]:List T97),(([]:List T68),0))))))=newSink x0 x1 x2 from by first | rfl | (unfold newSink;rw [if_neg (neT (notT h1))])))
 ·have hzh1 : (inR x0 0 7) = true := notF h1
  have hvh1:=inR_t (notF h1)
  rcases Bool.eq_false_or_eq_true (!(inR x1 1 16)) with h2 | h2
  ·have hzh2 : (inR x1 1 16) = false := notT h2
   have hvh2:=inR_f (notT h2)
   refine at_regq [{},{},{ hint:=some (aB false) },{},{},{},{ hint:=some (aB true) }] { ts:=[0,1,2,6,19],os:=[1] } [True,(AV.p (.c (.v (.bool (!(inR x0 0 7)))))=AV.p (.c (.v (.bool false)))),True,(AV.p (.c (.v (.bool (!(inR x1 1 16)))))=AV.p (.c (.v (.bool true))))] gamOK hT h (by kernel_rfl) ⟨trivial,hint_bool (h1),trivial,hint_bool (h2),trivial⟩ fun a w h=>then_normal ?_
   refine at_test true h (by kernel_rfl) (fun hh=>?_) (fun hh=>nomatch hh)
   refine wp_seq ?_
   refine at_regq [] { ts:=[0,1,2,6],os:=[1] } [] gamOK hT h (by kernel_rfl) trivial fun a w h=>then_normal (wp_ret (then_ret ?_))
   exact at_return ((0,(0,(([]:List Int),(([]:List T97),(([]:List T68),0))))),()) [] h (by kernel_rfl) trivial (congrArg (fun z=>(z,())) (show ((0,(0,(([]:List Int),(([]:List T97),(([]:List T68),0))))))=newSink x0 x1 x2 from by first | rfl | (unfold newSink;rw [if_pos (notF h1),if_neg (neT (notT h2))])))
  ·have hzh2 : (inR x1 1 16) = true := notF h2
   have hvh2:=inR_t (notF h2)
   refine at_regq [{},{},{ hint:=some (aB false) },{},{},{},{ hint:=some (aB false) }] { ts:=[0,1,2,6,19],os:=[1] } [True,(AV.p (.c (.v (.bool (!(inR x0 0 7)))))=AV.p (.c (.v (.bool false)))),True,(AV.p (.c (.v (.bool (!(inR x1 1 16)))))=AV.p (.c (.v (.bool false))))] gamOK hT h (by kernel_rfl) ⟨trivial,hint_bool (h1),trivial,hint_bool (h2),trivial⟩ fun a w h=>then_normal ?_
   refine at_test (decide (((List.length x2:Nat):Int) > 60)) h (by kernel_rfl) (fun h3=>?_) (fun h3=>?_)
   ·replace h3 : ((List.length x2 : Nat) : Int) > 60 := of_decide_eq_true h3
    refine wp_seq ?_
    refine at_regq [] { ts:=[0,1,2,6],os:=[1] } [] gamOK hT h (by kernel_rfl) trivial fun a w h=>then_normal (wp_ret (then_ret ?_))
    exact at_return ((0,(0,(([]:List Int),(([]:List T97),(([]:List T68),0))))),()) [] h (by kernel_rfl) trivial (congrArg (fun z=>(z,())) (show ((0,(0,(([]:List Int),(([]:List T97),(([]:List T68),0))))))=newSink x0 x1 x2 from by first | rfl | (unfold newSink;rw [if_pos (notF h1),if_pos (notF h2),if_pos h3])))
   ·replace h3 : ¬ (((List.length x2 : Nat) : Int) > 60) := of_decide_eq_false h3
    refine wp_skip (then_normal (wp_seq (wp_seq ?_)))
    refine at_regq [{},{ key:=some 100002 }] { ts:=[0,1,2,6,22],os:=[1] } [True] gamOK hT h (by kernel_rfl) ⟨trivial,trivial⟩ fun a w h=>then_normal ?_
    refine at_test ((D_slices_ContainsFunc_S_int_int__NewSink_1 x2 ())) h (by kernel_rfl) (fun h4=>?_) (fun h4=>?_)
    ·refine wp_seq ?_
     refine at_regq [] { ts:=[0,1,2,6],os:=[1] } [] gamOK hT h (by kernel_rfl) trivial fun a w h=>then_normal (wp_ret (then_ret ?_))
     exact at_return ((0,(0,(([]:List Int),(([]:List T97),(([]:List T68),0))))),()) [] h (by kernel_rfl) trivial (congrArg (fun z=>(z,())) (show ((0,(0,(([]:List Int),(([]:List T97),(([]:List T68),0))))))=newSink x0 x1 x2 from by first | rfl | (unfold newSink;rw [if_pos (notF h1),if_pos (notF h2),if_neg h3,if_pos h4])))
    ·refine wp_skip (then_normal (wp_seq ?_))
     refine at_regq [{},{},{},{ ids:=[2] }] { ts:=[6],os:=[1,2] } [(lenOK (α:=Int)) x2] gamOK hT h (by kernel_rfl) ⟨(by first | assumption | trivial | (first | omega | (simp only [lsA];omega) | (simp<;>omega))),trivial⟩ fun a w h=>then_normal (wp_ret ?_)
     exact at_return ((x0,(x1,(x2,(([]:List T97),(([]:List T68),0))))),()) [] h (by kernel_rfl) trivial (congrArg (fun z=>(z,())) (show ((x0,(x1,(x2,(([]:List T97),(([]:List T68),0))))))=newSink x0 x1 x2 from by first | rfl | (unfold newSink;rw [if_pos (notF h1),if_pos (notF h2),if_neg h3,if_neg (neT h4)])))

def bsF (p:Nat→Bool) (i j:Nat):Nat:=if h:i < j then (if p ((i+j) / 2)=true then bsF p ((i+j) / 2+1) j else bsF p i ((i+j) / 2)) else i
termination_by j - i
theorem bsF_up {p:Nat→Bool} {i j:Nat} (h:i < j) (hp:p ((i+j) / 2)=true):bsF p i j=bsF p ((i+j) / 2+1) j:=by rw [bsF,dif_pos h,if_pos hp]
theorem bsF_down {p:Nat→Bool} {i j:Nat} (h:i < j) (hp:p ((i+j) / 2)=false):bsF p i j=bsF p i ((i+j) / 2):=by rw [bsF,dif_pos h,if_neg (by rw [hp];decide)]
theorem bsF_end {p:Nat→Bool} {i j:Nat} (h:¬ i < j):bsF p i j=i:=by rw [bsF,dif_neg h]
theorem bsF_bd (p:Nat→Bool):∀ (d i j:Nat),j - i≤d→i≤j→i≤bsF p i j∧bsF p i j≤j
 | 0,i,j,h,hij=>by rw [bsF_end (by omega)];omega
 | d + 1, i, j, h, hij => by
  by_cases hl:i < j
  ·cases hp : p ((i + j) / 2) with
   | true=>rw [bsF_up hl hp];have:=bsF_bd p d ((i+j) / 2+1) j (by omega) (by omega);omega
   | false=>rw [bsF_down hl hp];have:=bsF_bd p d i ((i+j) / 2) (by omega) (by omega);omega
  ·rw [bsF_end hl];omega
theorem bsF_first {p:Nat→Bool} {n:Nat} (hm:∀ a b,a≤b→b < n→p b=true→p a=true):∀ (d i j:Nat),j - i≤d→i≤j→j≤n→(∀ a,a < i→p a=true)→(∀ a,j≤a→a < n→p a=false) →
  (∀ a,a < bsF p i j→p a=true)∧∀ a,bsF p i j≤a→a < n→p a=false
 | 0,i,j,h,hij,hjn,h1,h2=>by rw [bsF_end (by omega)];exact ⟨h1,fun a ha hn=>h2 a (by omega) hn⟩
 | d + 1, i, j, h, hij, hjn, h1, h2 => by
  by_cases hl:i < j
  ·cases hp : p ((i + j) / 2) with
   | true=>rw [bsF_up hl hp];exact bsF_first hm d _ j (by omega) (by omega) hjn (fun a ha=>hm a _ (by omega) (by omega) hp) h2
   | false =>
    rw [bsF_down hl hp]
    refine bsF_first hm d i _ (by omega) (by omega) (by omega) h1 fun a ha hn=>?_
    cases hpa:p a with
    | false=>rfl
    | true=>rw [hm _ a ha hn hpa] at hp;cases hp
  ·rw [bsF_end hl];exact ⟨h1,fun a ha hn=>h2 a (by omega) hn⟩
theorem half_eq {i j:Nat} (h:i+j≤2147483648):IntKind.i64.wrap (Int.fdiv (IntKind.u64.wrap ((i:Int)+(j:Int))) (2 ^ (min (1:Int).toNat (IntKind.u64).bits)))=(((i+j) / 2:Nat):Int):=by
 have e1:IntKind.u64.wrap ((i:Int)+(j:Int))=((i+j:Nat):Int):=by
  simp only [IntKind.wrap,IntKind.bits,IntKind.signed]
  simp
  omega
 have e2:(2:Int) ^ (min (1:Int).toNat (IntKind.u64).bits)=2:=by decide
 rw [e1,e2,Int.fdiv_eq_ediv_of_nonneg _ (by omega),IntKind.wrap_i64]
 omega
def D_cmp_isNaN_int_:=(fun (_:Int)=>false)
def S_cmp_isNaN_int_:Sum:={ fid:=144,dom:=[(.int 3)],cod:=[(.bool 4)],dp:=true,fz:=false,pre:=fun x=>True,g:=fun x=>((D_cmp_isNaN_int_ x.1),()) }
def S_cmp_isNaN_int__tab:List (Nat×Sum):=[]
theorem S_cmp_isNaN_int__ok:FnOK Try.prog 144 S_cmp_isNaN_int_:=by
 refine at_enter 6 (fun x=>⟨[(0,aI x.1)],[]⟩) Try.func144 rfl (by kernel_rfl) (fun x=>rfl) ?_
 rintro w0 Z0 ⟨x0,u⟩ a w
 revert x0
 intro (x0:Int) hpre hlens h
 have hT:TabOK Try.prog S_cmp_isNaN_int__tab:=.nil
 refine wp_seq ?_
 refine at_regq [] { ts:=[0,2],os:=[] } [] gamOK hT h (by kernel_rfl) trivial fun a w h=>then_normal (wp_seq ?_)
 refine at_regq [] { ts:=[2],os:=[] } [] gamOK hT h (by kernel_rfl) trivial fun a w h=>then_normal (wp_ret ?_)
 exact at_return (!decide (x0=x0),()) [] h (by kernel_rfl) trivial (congrArg (fun z=>(z,())) (show (!decide (x0=x0))=D_cmp_isNaN_int_ x0 from by unfold D_cmp_isNaN_int_;simp))

theorem shr1 {n:Nat}:Int.fdiv (n:Int) (2 ^ (min (1:Int).toNat (IntKind.i64).bits))=((n / 2:Nat):Int):=by
 have e2:(2:Int) ^ (min (1:Int).toNat (IntKind.i64).bits)=2:=by decide
 rw [e2,Int.fdiv_eq_ediv_of_nonneg _ (by omega)];omega
theorem and1 {n:Nat} (h:n≤4611686018427387904):IntKind.i64.wrap ((BitVec.ofInt (IntKind.i64).bits (n:Int) &&& BitVec.ofInt (IntKind.i64).bits 1).toNat:Int)=((n % 2:Nat):Int):=by
 have e:(BitVec.ofInt (IntKind.i64).bits (n:Int) &&& BitVec.ofInt (IntKind.i64).bits 1).toNat=n % 2:=by
  rw [BitVec.toNat_and]
  have h1:(BitVec.ofInt (IntKind.i64).bits (n:Int)).toNat=n:=by
   rw [BitVec.toNat_ofInt]
   simp [IntKind.bits]
   omega
  have h2:(BitVec.ofInt (IntKind.i64).bits 1).toNat=1:=by decide
  rw [h1,h2,Nat.and_one_is_mod]
 rw [e,IntKind.wrap_i64];omega
theorem lead_idx:∀ {xs:List Int},idxF (fun e=>!decide (e=0)) xs=LA.leadS xs
 | []=>rfl
 | x :: l => by
  have ih:=lead_idx (xs:=l)
  simp only [idxF,LA.leadS,ih]
  by_cases h:x=0
  ·rw [if_neg (show ¬ (!decide (x=0))=true by simp [h]),if_neg (show ¬ x≠0 from fun e=>e h)]
  ·rw [if_pos (show (!decide (x=0))=true by simp [h]),if_pos h]
def powP (a n m:Int):Prop:=(0≤a∧a < m)∧(0≤n∧n≤4611686018427387904)∧1 < m∧m≤1048576
def powD (a n m:Int):Int:=LA.pmL m 1 a n.toNat
def powOK (x0 x1 x2:Int) (q:Int×Int×Nat):Prop:=LA.pmL x2 q.1 q.2.1 q.2.2=powD x0 x1 x2∧(0≤q.1∧q.1 < x2)∧(0≤q.2.1∧q.2.1 < x2)∧q.2.2≤4611686018427387904
theorem powOK_odd {x0 x1 x2:Int} {q:Int×Int×Nat} (h:powOK x0 x1 x2 q) (hm:1 < x2) (h2:q.2.2 % 2=1):powOK x0 x1 x2 ((q.1*q.2.1).tmod x2,(q.2.1*q.2.1).tmod x2,q.2.2 / 2):=by
 obtain ⟨h0,⟨h3,h4⟩,⟨h5,h6⟩,h7⟩:=h
 exact ⟨by rw [← h0];exact (LA.pmL_odd h2).symm,LA.tmod_lt (Int.mul_nonneg h3 h5) (by omega),LA.tmod_lt (Int.mul_nonneg h5 h5) (by omega),by dsimp only;omega⟩
theorem powOK_even {x0 x1 x2:Int} {q:Int×Int×Nat} (h:powOK x0 x1 x2 q) (hm:1 < x2) (h1:q.2.2≠0) (h2:q.2.2 % 2=0):powOK x0 x1 x2 (q.1,(q.2.1*q.2.1).tmod x2,q.2.2 / 2):=by
 obtain ⟨h0,⟨h3,h4⟩,⟨h5,h6⟩,h7⟩:=h
 exact ⟨by rw [← h0];exact (LA.pmL_even h1 h2).symm,⟨h3,h4⟩,LA.tmod_lt (Int.mul_nonneg h5 h5) (by omega),by dsimp only;omega⟩
def invF (x:Int):Int:=if isEl x=true then LA.invS x else 0
theorem invS_zero:LA.invS 0=0:=by
 have h:=LA.pmL_bd (m:=1019) (by decide) 10 1017 1 0 (by decide) (by decide) (by decide) (by decide)
 have h2:=LA.pmL_c 10 1017 1 0 (by decide) (by decide) (by decide)
 have h3:LA.c (LA.invS 0)=0:=by unfold LA.invS;rw [h2];decide +kernel
 exact (LA.c_ne ⟨h.1,by have:=h.2;show LA.pmL 1019 1 0 1017≤1018;omega⟩).1 h3
theorem invF_bd (x:Int):0≤invF x∧invF x≤1018:=by
 unfold invF
 split
 ·rename_i h
  have hx:=isEl_t h
  have:=LA.pmL_bd (m:=1019) (by decide) 10 1017 1 x (by decide) (by decide) (by decide) hx.1
  unfold LA.invS;omega
 ·omega
theorem invF_el {x:Int} (h:0≤x∧x≤1018):invF x=LA.invS x:=if_pos (inR_true h)
theorem elB {v:List Int} (h:∀ x∈v,LA.El x) (j:Nat):0≤v.getD j 0∧v.getD j 0≤1018:=LA.VokB.at_ (n:=v.length) ⟨rfl,h⟩ j
theorem validV_el {v:List Int} (h:List.all v isEl=true):∀ x∈v,LA.El x:=fun x hx=>isEl_t (List.all_eq_true.1 h x hx)
abbrev scF (k x:Int):Int:=(x*k).tmod 1019
theorem addS_take_le (a b:List Int) (k:Int) (i:Nat):List.length (List.take i (LA.addS a b k))≤List.length a:=by simp [LA.addS];omega
def prevL (m:List (List Int)) (i:Nat):Int:=if i=0 then -1 else LA.leadS (m.getD (i - 1) [])
theorem prevL_bd (m:List (List Int)) (i:Nat):-1≤prevL m i:=by
 unfold prevL;split
 ·omega
 ·have:=LA.leadS_bd (m.getD (i - 1) []);omega
def clrB (m:List (List Int)) (i k:Nat):Bool:=decide (k=i) || decide ((m.getD k []).getD (LA.leadS (m.getD i [])).toNat 0=0)
theorem clrB_t {m:List (List Int)} {i k:Nat} (h:(k:Int)=(i:Int)∨(m.getD k []).getD (LA.leadS (m.getD i [])).toNat 0=0):clrB m i k=true:=by
 unfold clrB;rw [Bool.or_eq_true,decide_eq_true_iff,decide_eq_true_iff];omega
theorem clrB_f {m:List (List Int)} {i k:Nat} (h1:¬ (k:Int)=(i:Int)) (h2:¬ (m.getD k []).getD (LA.leadS (m.getD i [])).toNat 0=0):clrB m i k=false:=by
 unfold clrB;rw [Bool.or_eq_false_iff,decide_eq_false_iff_not,decide_eq_false_iff_not];omega
def redB (m:List (List Int)) (i:Nat):Bool:=decide (prevL m i < LA.leadS (m.getD i [])) && (decide ((m.getD i []).getD (LA.leadS (m.getD i [])).toNat 0=1) && allN (clrB m i) m.length)
theorem redB_t {m:List (List Int)} {i:Nat} (h1:prevL m i < LA.leadS (m.getD i [])) (h2:(m.getD i []).getD (LA.leadS (m.getD i [])).toNat 0=1) (h3:allN (clrB m i) m.length=true):redB m i=true:=by
 unfold redB;rw [decide_eq_true h1,decide_eq_true h2,h3];rfl
theorem redB_f1 {m:List (List Int)} {i:Nat} (h:LA.leadS (m.getD i [])≤prevL m i):redB m i=false:=by
 unfold redB;rw [decide_eq_false (by omega)];rfl
theorem redB_f2 {m:List (List Int)} {i:Nat} (h:¬ (m.getD i []).getD (LA.leadS (m.getD i [])).toNat 0=1):redB m i=false:=by
 unfold redB;rw [decide_eq_false h,Bool.false_and,Bool.and_false]
theorem redB_f3 {m:List (List Int)} {i:Nat} (h:allN (clrB m i) m.length=false):redB m i=false:=by
 unfold redB;rw [h,Bool.and_false,Bool.and_false]
theorem redB_iff {m:List (List Int)} {i:Nat}:redB m i=true↔LA.redAt m i:=by
 unfold redB LA.redAt prevL
 rw [Bool.and_eq_true,Bool.and_eq_true,decide_eq_true_iff,decide_eq_true_iff,allN_iff]
 constructor
 ·rintro ⟨h1, h2, h3⟩
  refine ⟨h1,h2,fun k hk hne=>?_⟩
  have:=h3 k hk
  unfold clrB at this
  rw [Bool.or_eq_true,decide_eq_true_iff,decide_eq_true_iff] at this
  rcases this with h | h
  ·exact absurd h hne
  ·exact h
 ·rintro ⟨h1, h2, h3⟩
  refine ⟨h1,h2,fun k hk=>?_⟩
  unfold clrB
  rw [Bool.or_eq_true,decide_eq_true_iff,decide_eq_true_iff]
  by_cases e:k=i
  ·exact Or.inl e
  ·exact Or.inr (h3 k hk e)
theorem red_all {m:List (List Int)} {n:Nat} (h:∀ r∈m,LA.VokB n r):allN (redB m) m.length=true↔LA.RedL n m:=by
 rw [← LA.redAt_iff h,allN_iff]
 exact ⟨fun g i hi=>redB_iff.1 (g i hi),fun g i hi=>redB_iff.2 (g i hi)⟩
def S_spec_l4Pow:Sum:={ fid:=166,dom:=[(.int 3),(.int 3),(.int 3)],cod:=[(.int 3)],dp:=true,fz:=false,pre:=fun x=>powP x.1 x.2.1 x.2.2.1,g:=fun x=>((powD x.1 x.2.1 x.2.2.1),()) }
def S_spec_l4Pow_tab:List (Nat×Sum):=[]
theorem S_spec_l4Pow_ok:FnOK Try.prog 166 S_spec_l4Pow:=by
 refine at_enter 26 (fun x=>⟨[(0,aI x.1),(1,aI x.2.1),(2,aI x.2.2.1)],[]⟩) Try.func166 rfl (by kernel_rfl) (fun x=>rfl) ?_
 rintro w0 Z0 ⟨x0,x1,x2,u⟩ a w
 revert x0 x1 x2
 intro (x0:Int) (x1:Int) (x2:Int) hpre hlens h
 replace hpre:powP x0 x1 x2:=hpre
 have hT:TabOK Try.prog S_spec_l4Pow_tab:=.nil
 have hp:(0≤x0∧x0 < x2)∧(0≤x1∧x1≤4611686018427387904)∧1 < x2∧x2≤1048576:=hpre
 refine wp_seq ?_
 refine at_regq [] { ts:=[0,1,2,6],os:=[] } [] gamOK hT h (by kernel_rfl) trivial fun a w h=>then_normal (wp_seq ?_)
 refine at_regq [] { ts:=[0,1,2,6,7],os:=[] } [] gamOK hT h (by kernel_rfl) trivial fun a w h=>then_normal (wp_seq (wp_block ?_))
 replace h:=at_out (σ':=⟨[(0,aI x0),(1,aI x1),(2,aI x2),(6,aI 0),(7,aI 1)],[]⟩) { ts:=[0,1,2,6,7],os:=[] } h (by kernel_rfl)
 refine at_loop (fun q:(Int×Int×Nat)=>(⟨[(0,aI q.2.1),(1,aI ((q.2.2:Nat):Int)),(2,aI x2),(6,aI 0),(7,aI q.1)],[]⟩:St)) (fun q=>powOK x0 x1 x2 q) (fun q=>q.2.2) ((1,x0,x1.toNat)) h (st_congr3 (fun (d0:Int) (d1:Int) (d2:Int)=>(⟨[(0,aI d1),(1,aI d2),(2,aI x2),(6,aI 0),(7,aI d0)],[]⟩:St)) (show (1:Int)=((1,x0,x1.toNat)).1 from by first | with_reducible rfl | (show x1=((x1.toNat:Nat):Int);omega) | rfl) (show (x0:Int)=((1,x0,x1.toNat)).2.1 from by first | with_reducible rfl | (show x1=((x1.toNat:Nat):Int);omega) | rfl) (show (x1:Int)=((((1,x0,x1.toNat)).2.2:Nat):Int) from by first | with_reducible rfl | (show x1=((x1.toNat:Nat):Int);omega) | rfl)) (by exact ⟨rfl,⟨(show (0:Int)≤1 by decide),by dsimp only;omega⟩,⟨by dsimp only;omega,by dsimp only;omega⟩,by dsimp only;omega⟩) ?_
 intro q a w hok0 h
 have hq:=hok0.2
 refine wp_seq (wp_seq ?_)
 refine at_regq [] { ts:=[0,1,2,6,7,9],os:=[] } [] gamOK hT h (by kernel_rfl) trivial fun a w h=>then_normal ?_
 refine at_test (decide (((q.2.2:Nat):Int) > 0)) h (by kernel_rfl) (fun h1=>?_) (fun h1=>?_)
 ·replace h1 : ((q.2.2 : Nat) : Int) > 0 := of_decide_eq_true h1
  refine wp_skip (then_normal (wp_block (wp_seq (wp_seq ?_))))
  refine at_regq [{},{ hint:=some (aI ((q.2.2 % 2:Nat):Int)) }] { ts:=[0,1,2,6,7,12],os:=[] } [(AV.p (.c (.v (.int .i64 (IntKind.i64.wrap ((BitVec.ofInt (IntKind.i64).bits ((q.2.2:Nat):Int) &&& BitVec.ofInt (IntKind.i64).bits 1).toNat:Int)))))=AV.p (.c (.v (.int .i64 (((q.2.2 % 2:Nat):Int))))))] gamOK hT h (by kernel_rfl) ⟨hint_int (by exact and1 (by omega)),trivial⟩ fun a w h=>then_normal ?_
  refine at_test (decide (((q.2.2 % 2:Nat):Int)=1)) h (by kernel_rfl) (fun h2=>?_) (fun h2=>?_)
  ·replace h2 : ((q.2.2 % 2 : Nat) : Int) = 1 := of_decide_eq_true h2
   refine at_regq [{},{},{ nw:=true }] { ts:=[0,1,2,6,7],os:=[] } [I64 (q.1*q.2.1),(x2:Int)≠0] gamOK hT h (by kernel_rfl) ⟨⟨by (have hA0:=mul_f q.1 q.2.1;first | omega | (simp only [lsA];omega) | (simp<;>omega)),by (have hA0:=mul_f q.1 q.2.1;first | omega | (simp only [lsA];omega) | (simp<;>omega))⟩,(by first | omega | (simp only [lsA];omega) | (simp<;>omega)),trivial⟩ fun a w h=>then_normal (wp_seq ?_)
   refine at_regq [{},{},{ nw:=true }] { ts:=[0,1,2,6,7],os:=[] } [I64 (q.2.1*q.2.1),(x2:Int)≠0] gamOK hT h (by kernel_rfl) ⟨⟨by (have hA0:=mul_f q.2.1 q.2.1;first | omega | (simp only [lsA];omega) | (simp<;>omega)),by (have hA0:=mul_f q.2.1 q.2.1;first | omega | (simp only [lsA];omega) | (simp<;>omega))⟩,(by first | omega | (simp only [lsA];omega) | (simp<;>omega)),trivial⟩ fun a w h=>then_normal ?_
   refine at_regq [{},{ hint:=some (aI ((q.2.2 / 2:Nat):Int)) }] { ts:=[0,1,2,6,7],os:=[] } [(0:Int)≤1,(AV.p (.c (.v (.int .i64 ((Int.fdiv ((q.2.2:Nat):Int) (2 ^ (min (1:Int).toNat (IntKind.i64).bits)))))))=AV.p (.c (.v (.int .i64 (((q.2.2 / 2:Nat):Int))))))] gamOK hT h (by kernel_rfl) ⟨(by first | omega | (simp only [lsA];omega) | (simp<;>omega)),hint_int (by exact shr1),trivial⟩ fun a w h=>in_normal ?_
   replace h:=at_out (σ':=⟨[(0,aI (Int.tmod (q.2.1*q.2.1) x2)),(1,aI ((q.2.2 / 2:Nat):Int)),(2,aI x2),(6,aI 0),(7,aI (Int.tmod (q.1*q.2.1) x2))],[]⟩) { ts:=[0,1,2,6,7],os:=[] } h (by kernel_rfl)
   exact ⟨((q.1*q.2.1).tmod x2,(q.2.1*q.2.1).tmod x2,q.2.2 / 2),at_eq h (st_congr3 (fun (d0:Int) (d1:Int) (d2:Int)=>(⟨[(0,aI d1),(1,aI d2),(2,aI x2),(6,aI 0),(7,aI d0)],[]⟩:St)) (show ((Int.tmod (q.1*q.2.1) x2):Int)=(((q.1*q.2.1).tmod x2,(q.2.1*q.2.1).tmod x2,q.2.2 / 2)).1 from by first | with_reducible rfl | (rfl) | rfl) (show ((Int.tmod (q.2.1*q.2.1) x2):Int)=(((q.1*q.2.1).tmod x2,(q.2.1*q.2.1).tmod x2,q.2.2 / 2)).2.1 from by first | with_reducible rfl | (rfl) | rfl) (show (((q.2.2 / 2:Nat):Int):Int)=(((((q.1*q.2.1).tmod x2,(q.2.1*q.2.1).tmod x2,q.2.2 / 2)).2.2:Nat):Int) from by first | with_reducible rfl | (rfl) | rfl)),(by first | exact powOK_odd hok0 (by omega) (by omega) | exact powOK_even hok0 (by omega) (by omega) (by omega)),(by dsimp only;omega)⟩
  ·replace h2 : ¬ (((q.2.2 % 2 : Nat) : Int) = 1) := of_decide_eq_false h2
   refine wp_skip (then_normal (wp_seq ?_))
   refine at_regq [{},{},{ nw:=true }] { ts:=[0,1,2,6,7],os:=[] } [I64 (q.2.1*q.2.1),(x2:Int)≠0] gamOK hT h (by kernel_rfl) ⟨⟨by (have hA0:=mul_f q.2.1 q.2.1;first | omega | (simp only [lsA];omega) | (simp<;>omega)),by (have hA0:=mul_f q.2.1 q.2.1;first | omega | (simp only [lsA];omega) | (simp<;>omega))⟩,(by first | omega | (simp only [lsA];omega) | (simp<;>omega)),trivial⟩ fun a w h=>then_normal ?_
   refine at_regq [{},{ hint:=some (aI ((q.2.2 / 2:Nat):Int)) }] { ts:=[0,1,2,6,7],os:=[] } [(0:Int)≤1,(AV.p (.c (.v (.int .i64 ((Int.fdiv ((q.2.2:Nat):Int) (2 ^ (min (1:Int).toNat (IntKind.i64).bits)))))))=AV.p (.c (.v (.int .i64 (((q.2.2 / 2:Nat):Int))))))] gamOK hT h (by kernel_rfl) ⟨(by first | omega | (simp only [lsA];omega) | (simp<;>omega)),hint_int (by exact shr1),trivial⟩ fun a w h=>in_normal ?_
   replace h:=at_out (σ':=⟨[(0,aI (Int.tmod (q.2.1*q.2.1) x2)),(1,aI ((q.2.2 / 2:Nat):Int)),(2,aI x2),(6,aI 0),(7,aI q.1)],[]⟩) { ts:=[0,1,2,6,7],os:=[] } h (by kernel_rfl)
   exact ⟨(q.1,(q.2.1*q.2.1).tmod x2,q.2.2 / 2),at_eq h (st_congr3 (fun (d0:Int) (d1:Int) (d2:Int)=>(⟨[(0,aI d1),(1,aI d2),(2,aI x2),(6,aI 0),(7,aI d0)],[]⟩:St)) (show (q.1:Int)=((q.1,(q.2.1*q.2.1).tmod x2,q.2.2 / 2)).1 from by first | with_reducible rfl | (rfl) | rfl) (show ((Int.tmod (q.2.1*q.2.1) x2):Int)=((q.1,(q.2.1*q.2.1).tmod x2,q.2.2 / 2)).2.1 from by first | with_reducible rfl | (rfl) | rfl) (show (((q.2.2 / 2:Nat):Int):Int)=((((q.1,(q.2.1*q.2.1).tmod x2,q.2.2 / 2)).2.2:Nat):Int) from by first | with_reducible rfl | (rfl) | rfl)),(by first | exact powOK_odd hok0 (by omega) (by omega) | exact powOK_even hok0 (by omega) (by omega) (by omega)),(by dsimp only;omega)⟩
 ·replace h1 : ¬ (((q.2.2 : Nat) : Int) > 0) := of_decide_eq_false h1
  refine wp_exit (then_exit (then_exit (in_hit (then_normal (wp_seq ?_)))))
  refine at_regq [] { ts:=[6],os:=[] } [] gamOK hT h (by kernel_rfl) trivial fun a w h=>then_normal (wp_ret ?_)
  exact at_return (q.1,()) [] h (by kernel_rfl) trivial (congrArg (fun z=>(z,())) (show (q.1)=powD x0 x1 x2 from by (have e:=hok0.1;rw [show q.2.2=0 by omega,LA.pmL_zero] at e;exact e)))

def S_spec_InverseField:Sum:={ fid:=162,dom:=[(.int 3)],cod:=[(.int 3)],dp:=true,fz:=false,pre:=fun x=>True,g:=fun x=>((invF x.1),()) }
def S_spec_InverseField_tab:List (Nat×Sum):=[(153,S_spec_IsElement),(166,S_spec_l4Pow)]
theorem S_spec_InverseField_ok:FnOK Try.prog 162 S_spec_InverseField:=by
 refine at_enter 12 (fun x=>⟨[(0,aI x.1)],[]⟩) Try.func162 rfl (by kernel_rfl) (fun x=>rfl) ?_
 rintro w0 Z0 ⟨x0,u⟩ a w
 revert x0
 intro (x0:Int) hpre hlens h
 have hT:TabOK Try.prog S_spec_InverseField_tab:=(.cons S_spec_IsElement_ok (.cons S_spec_l4Pow_ok .nil))
 refine wp_seq ?_
 refine at_regq [] { ts:=[0,2],os:=[] } [] gamOK hT h (by kernel_rfl) trivial fun a w h=>then_normal (wp_seq (wp_seq ?_))
 rcases Bool.eq_false_or_eq_true (!(isEl x0)) with h1 | h1
 ·have hzh1 : (isEl x0) = false := notT h1
  refine at_regq [{},{},{ hint:=some (aB true) }] { ts:=[0,2,9],os:=[] } [True,(AV.p (.c (.v (.bool (!(isEl x0)))))=AV.p (.c (.v (.bool true))))] gamOK hT h (by kernel_rfl) ⟨trivial,hint_bool (h1),trivial⟩ fun a w h=>then_normal ?_
  refine at_test true h (by kernel_rfl) (fun hh=>?_) (fun hh=>nomatch hh)
  refine wp_seq ?_
  refine at_regq [] { ts:=[0,2],os:=[] } [] gamOK hT h (by kernel_rfl) trivial fun a w h=>then_normal (wp_ret (then_ret ?_))
  exact at_return (0,()) [] h (by kernel_rfl) trivial (congrArg (fun z=>(z,())) (show (0)=invF x0 from by (unfold invF;first | (rw [if_pos (show isEl x0=true by first | assumption | simpa using h1)];first | rfl | (rw [show x0=0 by assumption,invS_zero])) | (rw [if_neg (by simp_all)]))))
 ·have hzh1 : (isEl x0) = true := notF h1
  have hvh1:=isEl_t (notF h1)
  refine at_regq [{},{},{ hint:=some (aB false) }] { ts:=[0,2,9],os:=[] } [True,(AV.p (.c (.v (.bool (!(isEl x0)))))=AV.p (.c (.v (.bool false))))] gamOK hT h (by kernel_rfl) ⟨trivial,hint_bool (h1),trivial⟩ fun a w h=>then_normal ?_
  refine at_test (decide (x0=0)) h (by kernel_rfl) (fun h2=>?_) (fun h2=>?_)
  ·replace h2 : x0 = 0 := of_decide_eq_true h2
   refine wp_seq ?_
   refine at_regq [] { ts:=[0,2],os:=[] } [] gamOK hT h (by kernel_rfl) trivial fun a w h=>then_normal (wp_ret (then_ret ?_))
   exact at_return (0,()) [] h (by kernel_rfl) trivial (congrArg (fun z=>(z,())) (show (0)=invF x0 from by (unfold invF;first | (rw [if_pos (show isEl x0=true by first | assumption | simpa using h1)];first | rfl | (rw [show x0=0 by assumption,invS_zero])) | (rw [if_neg (by simp_all)]))))
  ·replace h2 : ¬ (x0 = 0) := of_decide_eq_false h2
   refine wp_skip (then_normal (wp_seq ?_))
   refine at_regq [] { ts:=[2],os:=[] } [powP x0 1017 1019] gamOK hT h (by kernel_rfl) ⟨(by (show _∧_;refine ⟨⟨?_,?_⟩,⟨?_,?_⟩,?_,?_⟩<;>omega)),trivial⟩ fun a w h=>then_normal (wp_ret ?_)
   exact at_return ((powD x0 1017 1019),()) [] h (by kernel_rfl) trivial (congrArg (fun z=>(z,())) (show ((powD x0 1017 1019))=invF x0 from by (unfold invF;first | (rw [if_pos (show isEl x0=true by first | assumption | simpa using h1)];first | rfl | (rw [show x0=0 by assumption,invS_zero])) | (rw [if_neg (by simp_all)]))))

def validV (x0:(List Int)):Bool:=(if (List.all x0 isEl)=true then decide (((List.length x0:Nat):Int)≤40) else false)
abbrev Q_impl_IsValidVector:=(fun (x0:(List Int))=>Sh.fit s22 x0)
def S_impl_IsValidVector:Sum:={ fid:=117,dom:=[s22],cod:=[(.bool 4)],dp:=true,fz:=false,pre:=fun x=>Q_impl_IsValidVector x.1,g:=fun x=>((validV x.1),()) }
def S_impl_IsValidVector_tab:List (Nat×Sum):=[(143,S_impl_IsElement)]
theorem S_impl_IsValidVector_ok:FnOK Try.prog 117 S_impl_IsValidVector:=by
 refine at_enter 18 (fun x=>⟨[(0,aF (.int 3) x.1)],[]⟩) Try.func117 rfl (by kernel_rfl) (fun x=>rfl) ?_
 rintro w0 Z0 ⟨x0,u⟩ a w
 revert x0
 intro (x0:(List Int)) hpre hlens h
 replace hpre:Q_impl_IsValidVector x0:=hpre
 have hT:TabOK Try.prog S_impl_IsValidVector_tab:=(.cons S_impl_IsElement_ok .nil)
 have hf0:Sh.fit s22 x0:=hpre
 have hn0_1:List.length x0≤1073741824:=hf0.1
 refine wp_seq ?_
 refine at_regq [] { ts:=[0,2],os:=[] } [] gamOK hT h (by kernel_rfl) trivial fun a w h=>then_normal (wp_seq (wp_seq ?_))
 refine at_regq [] { ts:=[0,2,5,6,7],os:=[] } [] gamOK hT h (by kernel_rfl) trivial fun a w h=>then_normal (wp_block ?_)
 replace h:=at_out (σ':=⟨[(0,aF (.int 3) x0),(2,aB false),(5,aF (.int 3) x0),(6,aI ((List.length x0:Nat):Int)),(7,aI 0)],[]⟩) { ts:=[0,2,5,6,7],os:=[] } h (by kernel_rfl)
 refine at_loop (fun i:Nat=>(⟨[(0,aF (.int 3) x0),(2,aB false),(5,aF (.int 3) x0),(6,aI ((List.length x0:Nat):Int)),(7,aI ((i:Nat):Int))],[]⟩:St)) (fun i=>(i≤List.length x0∧allTo1 isEl x0 0 i)) (fun i=>List.length x0 - i) (0) h (st_congr1 (fun (d0:Int)=>(⟨[(0,aF (.int 3) x0),(2,aB false),(5,aF (.int 3) x0),(6,aI ((List.length x0:Nat):Int)),(7,aI d0)],[]⟩:St)) (show (0:Int)=(((0):Nat):Int) from by first | with_reducible rfl | (rfl) | rfl)) (by exact ⟨Nat.zero_le _,allTo1_zero⟩) ?_
 intro i a w hok0 h
 refine wp_seq ?_
 refine at_regq [] { ts:=[0,2,5,6,7,8],os:=[] } [] gamOK hT h (by kernel_rfl) trivial fun a w h=>then_normal (wp_seq ?_)
 refine at_test (decide (((i:Nat):Int) < ((List.length x0:Nat):Int))) h (by kernel_rfl) (fun h1=>?_) (fun h1=>?_)
 ·replace h1 : ((i : Nat) : Int) < ((List.length x0 : Nat) : Int) := of_decide_eq_true h1
  refine wp_skip (then_normal (wp_seq (wp_block (wp_seq ?_))))
  refine at_regq [] { ts:=[0,2,4,5,6,7],os:=[] } [(0:Int)≤((i:Nat):Int)∧((i:Nat):Int) < ((List.length x0:Nat):Int)] gamOK hT h (by kernel_rfl) ⟨(by refine ⟨?_,?_⟩<;>(first | omega | (simp only [lsA];omega) | (simp<;>omega))),trivial⟩ fun a w h=>then_normal (wp_seq ?_)
  refine at_regq [] { ts:=[0,2,5,6,7,13],os:=[] } [True] gamOK hT h (by kernel_rfl) ⟨trivial,trivial⟩ fun a w h=>then_normal ?_
  refine at_test (!(isEl (x0.getD i 0))) h (by kernel_rfl) (fun h2=>?_) (fun h2=>?_)
  ·replace h2 : (isEl (x0.getD i 0)) = false := notT h2
   refine wp_seq ?_
   refine at_regq [] { ts:=[0,2,5,6,7],os:=[] } [] gamOK hT h (by kernel_rfl) trivial fun a w h=>then_normal (wp_ret (in_ret (then_ret ?_)))
   have hs3:(List.all x0 isEl)=false:=by exact all_at (z:=0) (i:=i) (by omega) (by first | assumption | (simp_all;done))
   refine then_ret (in_ret (then_ret ?_))
   exact at_return (false,()) [] h (by kernel_rfl) trivial (congrArg (fun z=>(z,())) (show (false)=validV x0 from by first | rfl | (unfold validV;rw [if_neg (neT hs3)])))
  ·replace h2 : (isEl (x0.getD i 0)) = true := notF h2
   have hvh2:=isEl_t h2
   refine wp_skip (in_normal (then_normal ?_))
   refine at_regq [{ nw:=true }] { ts:=[0,2,5,6,7],os:=[] } [I64 (((i:Nat):Int)+1)] gamOK hT h (by kernel_rfl) ⟨⟨by first | omega | (simp only [lsA];omega) | (simp<;>omega),by first | omega | (simp only [lsA];omega) | (simp<;>omega)⟩,trivial⟩ fun a w h=>?_
   replace h:=at_out (σ':=⟨[(0,aF (.int 3) x0),(2,aB false),(5,aF (.int 3) x0),(6,aI ((List.length x0:Nat):Int)),(7,aI (((i:Nat):Int)+1))],[]⟩) { ts:=[0,2,5,6,7],os:=[] } h (by kernel_rfl)
   exact ⟨i+1,at_eq h (st_congr1 (fun (d0:Int)=>(⟨[(0,aF (.int 3) x0),(2,aB false),(5,aF (.int 3) x0),(6,aI ((List.length x0:Nat):Int)),(7,aI d0)],[]⟩:St)) (show (((i:Nat):Int)+1:Int)=(((i+1):Nat):Int) from by first | with_reducible rfl | (omega) | rfl)),(by exact ⟨by omega,allTo1_succ hok0.2 (by first | assumption | (simp_all;done))⟩),(by omega)⟩
 ·replace h1 : ¬ (((i : Nat) : Int) < ((List.length x0 : Nat) : Int)) := of_decide_eq_false h1
  refine wp_exit (then_exit ?_)
  have hs4:(List.all x0 isEl)=true:=by exact all_of (z:=0) (i:=i) (by omega) hok0.2
  refine then_exit (in_hit (then_normal (wp_seq ?_)))
  refine at_regq [] { ts:=[2],os:=[] } [] gamOK hT h (by kernel_rfl) trivial fun a w h=>then_normal (wp_ret ?_)
  exact at_return (decide (((List.length x0:Nat):Int)≤40),()) [] h (by kernel_rfl) trivial (congrArg (fun z=>(z,())) (show (decide (((List.length x0:Nat):Int)≤40))=validV x0 from by first | rfl | (unfold validV;rw [if_pos hs4])))
theorem validV_t {v:List Int} (h:validV v=true):List.length v≤40∧(∀ x∈v,LA.El x)∧(∀ j,0≤v.getD j 0∧v.getD j 0≤1018):=by
 unfold validV at h
 split at h
 ·rename_i ha
  have:=of_decide_eq_true h
  exact ⟨by omega,validV_el ha,elB (validV_el ha)⟩
 ·cases h
def scaleV (v:List Int) (k:Int):List Int:=if validV v=true∧isEl k=true then LA.scaleS v k else []
theorem scaleV_ok {v:List Int} {k:Int} (hv:validV v=true) (hk:0≤k∧k≤1018):scaleV v k=LA.scaleS v k:=if_pos ⟨hv,inR_true hk⟩
theorem scaleV_len (v:List Int) (k:Int):(scaleV v k).length≤v.length:=by unfold scaleV LA.scaleS;split<;>simp
def addV (a b:List Int) (k:Int):List Int:=if (validV a=true∧validV b=true∧List.length a=List.length b)∧isEl k=true then LA.addS a b k else []

abbrev Q_spec_IsValidVector:=(fun (x0:(List Int))=>Sh.fit s22 x0)
def S_spec_IsValidVector:Sum:={ fid:=139,dom:=[s22],cod:=[(.bool 4)],dp:=true,fz:=false,pre:=fun x=>Q_spec_IsValidVector x.1,g:=fun x=>((validV x.1),()) }
def S_spec_IsValidVector_tab:List (Nat×Sum):=[(153,S_spec_IsElement)]
theorem S_spec_IsValidVector_ok:FnOK Try.prog 139 S_spec_IsValidVector:=by
 refine at_enter 19 (fun x=>⟨[(0,aF (.int 3) x.1)],[]⟩) Try.func139 rfl (by kernel_rfl) (fun x=>rfl) ?_
 rintro w0 Z0 ⟨x0,u⟩ a w
 revert x0
 intro (x0:(List Int)) hpre hlens h
 replace hpre:Q_spec_IsValidVector x0:=hpre
 have hT:TabOK Try.prog S_spec_IsValidVector_tab:=(.cons S_spec_IsElement_ok .nil)
 have hf0:Sh.fit s22 x0:=hpre
 have hn0_1:List.length x0≤1073741824:=hf0.1
 refine wp_seq ?_
 refine at_regq [] { ts:=[0,2],os:=[] } [] gamOK hT h (by kernel_rfl) trivial fun a w h=>then_normal (wp_seq (wp_seq ?_))
 refine at_regq [] { ts:=[0,2,3],os:=[] } [] gamOK hT h (by kernel_rfl) trivial fun a w h=>then_normal (wp_block ?_)
 replace h:=at_out (σ':=⟨[(0,aF (.int 3) x0),(2,aB false),(3,aI 0)],[]⟩) { ts:=[0,2,3],os:=[] } h (by kernel_rfl)
 refine at_loop (fun i:Nat=>(⟨[(0,aF (.int 3) x0),(2,aB false),(3,aI ((i:Nat):Int))],[]⟩:St)) (fun i=>(i≤List.length x0∧allTo1 isEl x0 0 i)) (fun i=>List.length x0 - i) (0) h (st_congr1 (fun (d0:Int)=>(⟨[(0,aF (.int 3) x0),(2,aB false),(3,aI d0)],[]⟩:St)) (show (0:Int)=(((0):Nat):Int) from by first | with_reducible rfl | (rfl) | rfl)) (by exact ⟨Nat.zero_le _,allTo1_zero⟩) ?_
 intro i a w hok0 h
 refine wp_seq (wp_seq ?_)
 refine at_regq [] { ts:=[0,2,3,7],os:=[] } [] gamOK hT h (by kernel_rfl) trivial fun a w h=>then_normal ?_
 refine at_test (decide (((i:Nat):Int) < ((List.length x0:Nat):Int))) h (by kernel_rfl) (fun h1=>?_) (fun h1=>?_)
 ·replace h1 : ((i : Nat) : Int) < ((List.length x0 : Nat) : Int) := of_decide_eq_true h1
  refine wp_skip (then_normal (wp_seq (wp_block (wp_seq ?_))))
  refine at_regq [] { ts:=[0,2,3,15],os:=[] } [(0:Int)≤((i:Nat):Int)∧((i:Nat):Int) < ((List.length x0:Nat):Int),True] gamOK hT h (by kernel_rfl) ⟨(by refine ⟨?_,?_⟩<;>(first | omega | (simp only [lsA];omega) | (simp<;>omega))),trivial,trivial⟩ fun a w h=>then_normal ?_
  refine at_test (!(isEl (x0.getD i 0))) h (by kernel_rfl) (fun h2=>?_) (fun h2=>?_)
  ·replace h2 : (isEl (x0.getD i 0)) = false := notT h2
   refine wp_seq ?_
   refine at_regq [] { ts:=[0,2,3],os:=[] } [] gamOK hT h (by kernel_rfl) trivial fun a w h=>then_normal (wp_ret (in_ret (then_ret ?_)))
   have hs3:(List.all x0 isEl)=false:=by exact all_at (z:=0) (i:=i) (by omega) (by first | assumption | (simp_all;done))
   refine then_ret (in_ret (then_ret ?_))
   exact at_return (false,()) [] h (by kernel_rfl) trivial (congrArg (fun z=>(z,())) (show (false)=validV x0 from by first | rfl | (unfold validV;rw [if_neg (neT hs3)];done) | (unfold validV;simp_all)))
  ·replace h2 : (isEl (x0.getD i 0)) = true := notF h2
   have hvh2:=isEl_t h2
   refine wp_skip (in_normal (then_normal ?_))
   refine at_regq [{},{ nw:=true }] { ts:=[0,2,3],os:=[] } [I64 (((i:Nat):Int)+1)] gamOK hT h (by kernel_rfl) ⟨⟨by first | omega | (simp only [lsA];omega) | (simp<;>omega),by first | omega | (simp only [lsA];omega) | (simp<;>omega)⟩,trivial⟩ fun a w h=>?_
   replace h:=at_out (σ':=⟨[(0,aF (.int 3) x0),(2,aB false),(3,aI (((i:Nat):Int)+1))],[]⟩) { ts:=[0,2,3],os:=[] } h (by kernel_rfl)
   exact ⟨i+1,at_eq h (st_congr1 (fun (d0:Int)=>(⟨[(0,aF (.int 3) x0),(2,aB false),(3,aI d0)],[]⟩:St)) (show (((i:Nat):Int)+1:Int)=(((i+1):Nat):Int) from by first | with_reducible rfl | (omega) | rfl)),(by exact ⟨by omega,allTo1_succ hok0.2 (by first | assumption | (simp_all;done))⟩),(by omega)⟩
 ·replace h1 : ¬ (((i : Nat) : Int) < ((List.length x0 : Nat) : Int)) := of_decide_eq_false h1
  refine wp_exit (then_exit ?_)
  have hs4:(List.all x0 isEl)=true:=by exact all_of (z:=0) (i:=i) (by omega) hok0.2
  refine then_exit (in_hit (then_normal (wp_seq ?_)))
  refine at_regq [] { ts:=[2],os:=[] } [] gamOK hT h (by kernel_rfl) trivial fun a w h=>then_normal (wp_ret ?_)
  exact at_return (decide (((List.length x0:Nat):Int)≤40),()) [] h (by kernel_rfl) trivial (congrArg (fun z=>(z,())) (show (decide (((List.length x0:Nat):Int)≤40))=validV x0 from by first | rfl | (unfold validV;rw [if_pos hs4];done) | (unfold validV;simp_all)))

def D_impl_LeadingIndex_1:=(fun (e:Int)=>!decide (e=0))
def S_impl_LeadingIndex_1:Sum:={ fid:=142,dom:=[(.int 3)],cod:=[(.bool 4)],dp:=true,fz:=false,pre:=fun x=>True,g:=fun x=>((D_impl_LeadingIndex_1 x.1),()) }
def S_impl_LeadingIndex_1_tab:List (Nat×Sum):=[]
theorem S_impl_LeadingIndex_1_ok:FnOK Try.prog 142 S_impl_LeadingIndex_1:=by
 refine at_enter 5 (fun x=>⟨[(0,aI x.1)],[]⟩) Try.func142 rfl (by kernel_rfl) (fun x=>rfl) ?_
 rintro w0 Z0 ⟨x0,u⟩ a w
 revert x0
 intro (x0:Int) hpre hlens h
 have hT:TabOK Try.prog S_impl_LeadingIndex_1_tab:=.nil
 refine wp_seq ?_
 refine at_regq [] { ts:=[0,2],os:=[] } [] gamOK hT h (by kernel_rfl) trivial fun a w h=>then_normal (wp_seq ?_)
 refine at_regq [] { ts:=[2],os:=[] } [] gamOK hT h (by kernel_rfl) trivial fun a w h=>then_normal (wp_ret ?_)
 exact at_return (!decide (x0=0),()) [] h (by kernel_rfl) trivial (congrArg (fun z=>(z,())) (show (!decide (x0=0))=D_impl_LeadingIndex_1 x0 from by unfold D_impl_LeadingIndex_1;rfl))

def D_slices_IndexFunc_S_int_int__LeadingIndex_1:=(fun (xs:List Int) (cap:Unit)=>idxF (fun e=>!decide (e=0)) xs)
def S_slices_IndexFunc_S_int_int__LeadingIndex_1:Sum:={ fid:=140,dom:=[s22,(.fn0 142)],cod:=[(.int 3)],dp:=true,fz:=false,pre:=fun x=>True,g:=fun x=>((D_slices_IndexFunc_S_int_int__LeadingIndex_1 x.1 x.2.1),()) }
def S_slices_IndexFunc_S_int_int__LeadingIndex_1_tab:List (Nat×Sum):=[(142,S_impl_LeadingIndex_1)]
theorem S_slices_IndexFunc_S_int_int__LeadingIndex_1_ok:FnOK Try.prog 140 S_slices_IndexFunc_S_int_int__LeadingIndex_1:=by
 refine at_enter 19 (fun x=>⟨[(0,aF (.int 3) x.1),(1,.p (.c (.cl 142 .cnil)))],[]⟩) Try.func140 rfl (by kernel_rfl) (fun x=>rfl) ?_
 rintro w0 Z0 ⟨x0,x1,u⟩ a w
 revert x0 x1
 intro (x0:(List Int)) (x1:Unit) hpre hlens h
 have hl1:List.length x0≤9223372036854775807:=hlens.1.1
 have hT:TabOK Try.prog S_slices_IndexFunc_S_int_int__LeadingIndex_1_tab:=(.cons S_impl_LeadingIndex_1_ok .nil)
 refine wp_seq ?_
 refine at_regq [] { ts:=[0,1,4],os:=[] } [] gamOK hT h (by kernel_rfl) trivial fun a w h=>then_normal (wp_seq (wp_seq ?_))
 refine at_regq [] { ts:=[0,1,4,7,8],os:=[] } [] gamOK hT h (by kernel_rfl) trivial fun a w h=>then_normal (wp_block ?_)
 replace h:=at_out (σ':=⟨[(0,aF (.int 3) x0),(1,.p (.c (.cl 142 .cnil))),(4,aI 0),(7,aI ((List.length x0:Nat):Int)),(8,aI 0)],[]⟩) { ts:=[0,1,4,7,8],os:=[] } h (by kernel_rfl)
 refine at_loop (fun i:Nat=>(⟨[(0,aF (.int 3) x0),(1,.p (.c (.cl 142 .cnil))),(4,aI 0),(7,aI ((List.length x0:Nat):Int)),(8,aI ((i:Nat):Int))],[]⟩:St)) (fun i=>(i≤List.length x0∧noneTo (fun e=>!decide (e=0)) x0 0 i)) (fun i=>List.length x0 - i) (0) h (st_congr1 (fun (d0:Int)=>(⟨[(0,aF (.int 3) x0),(1,.p (.c (.cl 142 .cnil))),(4,aI 0),(7,aI ((List.length x0:Nat):Int)),(8,aI d0)],[]⟩:St)) (show (0:Int)=(((0):Nat):Int) from by first | with_reducible rfl | (rfl) | rfl)) (by exact ⟨Nat.zero_le _,noneTo_zero⟩) ?_
 intro i a w hok0 h
 refine wp_seq ?_
 refine at_regq [] { ts:=[0,1,4,7,8,9],os:=[] } [] gamOK hT h (by kernel_rfl) trivial fun a w h=>then_normal (wp_seq ?_)
 refine at_test (decide (((i:Nat):Int) < ((List.length x0:Nat):Int))) h (by kernel_rfl) (fun h1=>?_) (fun h1=>?_)
 ·replace h1 : ((i : Nat) : Int) < ((List.length x0 : Nat) : Int) := of_decide_eq_true h1
  refine wp_skip (then_normal (wp_seq (wp_block (wp_seq ?_))))
  refine at_regq [] { ts:=[0,1,4,5,7,8],os:=[] } [] gamOK hT h (by kernel_rfl) trivial fun a w h=>then_normal (wp_seq ?_)
  refine at_regq [] { ts:=[0,1,4,5,7,8,16],os:=[] } [(0:Int)≤((i:Nat):Int)∧((i:Nat):Int) < ((List.length x0:Nat):Int),True] gamOK hT h (by kernel_rfl) ⟨(by refine ⟨?_,?_⟩<;>(first | omega | (simp only [lsA];omega) | (simp<;>omega))),trivial,trivial⟩ fun a w h=>then_normal ?_
  refine at_test ((D_impl_LeadingIndex_1 (x0.getD i 0))) h (by kernel_rfl) (fun h2=>?_) (fun h2=>?_)
  ·refine wp_seq ?_
   refine at_regq [] { ts:=[0,1,4,7,8],os:=[] } [] gamOK hT h (by kernel_rfl) trivial fun a w h=>then_normal (wp_ret (in_ret (then_ret (then_ret (in_ret (then_ret ?_))))))
   exact at_return (((i:Nat):Int),()) [] h (by kernel_rfl) trivial (congrArg (fun z=>(z,())) (show (((i:Nat):Int))=D_slices_IndexFunc_S_int_int__LeadingIndex_1 x0 x1 from by unfold D_slices_IndexFunc_S_int_int__LeadingIndex_1;exact (idxF_at (z:=0) (by omega) hok0.2 h2).symm))
  ·refine wp_skip (in_normal (then_normal ?_))
   refine at_regq [{ nw:=true }] { ts:=[0,1,4,7,8],os:=[] } [I64 (((i:Nat):Int)+1)] gamOK hT h (by kernel_rfl) ⟨⟨by first | omega | (simp only [lsA];omega) | (simp<;>omega),by first | omega | (simp only [lsA];omega) | (simp<;>omega)⟩,trivial⟩ fun a w h=>?_
   replace h:=at_out (σ':=⟨[(0,aF (.int 3) x0),(1,.p (.c (.cl 142 .cnil))),(4,aI 0),(7,aI ((List.length x0:Nat):Int)),(8,aI (((i:Nat):Int)+1))],[]⟩) { ts:=[0,1,4,7,8],os:=[] } h (by kernel_rfl)
   exact ⟨i+1,at_eq h (st_congr1 (fun (d0:Int)=>(⟨[(0,aF (.int 3) x0),(1,.p (.c (.cl 142 .cnil))),(4,aI 0),(7,aI ((List.length x0:Nat):Int)),(8,aI d0)],[]⟩:St)) (show (((i:Nat):Int)+1:Int)=(((i+1):Nat):Int) from by first | with_reducible rfl | (omega) | rfl)),(by exact ⟨by omega,noneTo_succ hok0.2 h2⟩),(by omega)⟩
 ·replace h1 : ¬ (((i : Nat) : Int) < ((List.length x0 : Nat) : Int)) := of_decide_eq_false h1
  refine wp_exit (then_exit (then_exit (in_hit (then_normal (wp_seq ?_)))))
  refine at_regq [] { ts:=[4],os:=[] } [] gamOK hT h (by kernel_rfl) trivial fun a w h=>then_normal (wp_ret ?_)
  exact at_return ((-1),()) [] h (by kernel_rfl) trivial (congrArg (fun z=>(z,())) (show ((-1))=D_slices_IndexFunc_S_int_int__LeadingIndex_1 x0 x1 from by unfold D_slices_IndexFunc_S_int_int__LeadingIndex_1;exact (idxF_none (z:=0) (by omega) hok0.2).symm))

abbrev Q_impl_LeadingIndex:=(fun (x0:(List Int))=>Sh.fit s22 x0)
def S_impl_LeadingIndex:Sum:={ fid:=116,dom:=[s22],cod:=[(.int 3)],dp:=true,fz:=false,pre:=fun x=>Q_impl_LeadingIndex x.1,g:=fun x=>((LA.leadS x.1),()) }
def S_impl_LeadingIndex_tab:List (Nat×Sum):=[(100003,S_slices_IndexFunc_S_int_int__LeadingIndex_1)]
theorem S_impl_LeadingIndex_ok:FnOK Try.prog 116 S_impl_LeadingIndex:=by
 refine at_enter 5 (fun x=>⟨[(0,aF (.int 3) x.1)],[]⟩) Try.func116 rfl (by kernel_rfl) (fun x=>rfl) ?_
 rintro w0 Z0 ⟨x0,u⟩ a w
 revert x0
 intro (x0:(List Int)) hpre hlens h
 replace hpre:Q_impl_LeadingIndex x0:=hpre
 have hT:TabOK Try.prog S_impl_LeadingIndex_tab:=(.cons S_slices_IndexFunc_S_int_int__LeadingIndex_1_ok .nil)
 have hf0:Sh.fit s22 x0:=hpre
 have hn0_1:List.length x0≤1073741824:=hf0.1
 refine wp_seq ?_
 refine at_regq [] { ts:=[0,2],os:=[] } [] gamOK hT h (by kernel_rfl) trivial fun a w h=>then_normal (wp_seq ?_)
 refine at_regq [{},{ key:=some 100003 }] { ts:=[2],os:=[] } [True] gamOK hT h (by kernel_rfl) ⟨trivial,trivial⟩ fun a w h=>then_normal (wp_ret ?_)
 exact at_return ((D_slices_IndexFunc_S_int_int__LeadingIndex_1 x0 ()),()) [] h (by kernel_rfl) trivial (congrArg (fun z=>(z,())) (show ((D_slices_IndexFunc_S_int_int__LeadingIndex_1 x0 ()))=LA.leadS x0 from by exact lead_idx))

abbrev Q_spec_LeadingIndex:=(fun (x0:(List Int))=>Sh.fit s22 x0)
def S_spec_LeadingIndex:Sum:={ fid:=105,dom:=[s22],cod:=[(.int 3)],dp:=true,fz:=false,pre:=fun x=>Q_spec_LeadingIndex x.1,g:=fun x=>((LA.leadS x.1),()) }
def S_spec_LeadingIndex_tab:List (Nat×Sum):=[]
theorem S_spec_LeadingIndex_ok:FnOK Try.prog 105 S_spec_LeadingIndex:=by
 refine at_enter 16 (fun x=>⟨[(0,aF (.int 3) x.1)],[]⟩) Try.func105 rfl (by kernel_rfl) (fun x=>rfl) ?_
 rintro w0 Z0 ⟨x0,u⟩ a w
 revert x0
 intro (x0:(List Int)) hpre hlens h
 replace hpre:Q_spec_LeadingIndex x0:=hpre
 have hT:TabOK Try.prog S_spec_LeadingIndex_tab:=.nil
 have hf0:Sh.fit s22 x0:=hpre
 have hn0_1:List.length x0≤1073741824:=hf0.1
 refine wp_seq ?_
 refine at_regq [] { ts:=[0,2],os:=[] } [] gamOK hT h (by kernel_rfl) trivial fun a w h=>then_normal (wp_seq (wp_seq ?_))
 refine at_regq [] { ts:=[0,2,3],os:=[] } [] gamOK hT h (by kernel_rfl) trivial fun a w h=>then_normal (wp_block ?_)
 replace h:=at_out (σ':=⟨[(0,aF (.int 3) x0),(2,aI 0),(3,aI 0)],[]⟩) { ts:=[0,2,3],os:=[] } h (by kernel_rfl)
 refine at_loop (fun i:Nat=>(⟨[(0,aF (.int 3) x0),(2,aI 0),(3,aI ((i:Nat):Int))],[]⟩:St)) (fun i=>(i≤List.length x0∧noneTo (fun e=>!decide (e=0)) x0 0 i)) (fun i=>List.length x0 - i) (0) h (st_congr1 (fun (d0:Int)=>(⟨[(0,aF (.int 3) x0),(2,aI 0),(3,aI d0)],[]⟩:St)) (show (0:Int)=(((0):Nat):Int) from by first | with_reducible rfl | (rfl) | rfl)) (by exact ⟨Nat.zero_le _,noneTo_zero⟩) ?_
 intro i a w hok0 h
 refine wp_seq (wp_seq ?_)
 refine at_regq [] { ts:=[0,2,3,7],os:=[] } [] gamOK hT h (by kernel_rfl) trivial fun a w h=>then_normal ?_
 refine at_test (decide (((i:Nat):Int) < ((List.length x0:Nat):Int))) h (by kernel_rfl) (fun h1=>?_) (fun h1=>?_)
 ·replace h1 : ((i : Nat) : Int) < ((List.length x0 : Nat) : Int) := of_decide_eq_true h1
  refine wp_skip (then_normal (wp_seq (wp_block (wp_seq ?_))))
  refine at_regq [] { ts:=[0,2,3,14],os:=[] } [(0:Int)≤((i:Nat):Int)∧((i:Nat):Int) < ((List.length x0:Nat):Int)] gamOK hT h (by kernel_rfl) ⟨(by refine ⟨?_,?_⟩<;>(first | omega | (simp only [lsA];omega) | (simp<;>omega))),trivial⟩ fun a w h=>then_normal ?_
  refine at_test (!decide ((x0.getD i 0)=0)) h (by kernel_rfl) (fun h2=>?_) (fun h2=>?_)
  ·replace h2 : ¬ ((x0.getD i 0) = 0) := of_decide_eq_false (notT h2)
   refine wp_seq ?_
   refine at_regq [] { ts:=[0,2,3],os:=[] } [] gamOK hT h (by kernel_rfl) trivial fun a w h=>then_normal (wp_ret (in_ret (then_ret (then_ret (in_ret (then_ret ?_))))))
   exact at_return (((i:Nat):Int),()) [] h (by kernel_rfl) trivial (congrArg (fun z=>(z,())) (show (((i:Nat):Int))=LA.leadS x0 from by (rw [← lead_idx];exact (idxF_at (z:=0) (by omega) hok0.2 (by simpa using h2)).symm)))
  ·replace h2 : (x0.getD i 0) = 0 := of_decide_eq_true (notF h2)
   refine wp_skip (in_normal (then_normal ?_))
   refine at_regq [{},{ nw:=true }] { ts:=[0,2,3],os:=[] } [I64 (((i:Nat):Int)+1)] gamOK hT h (by kernel_rfl) ⟨⟨by first | omega | (simp only [lsA];omega) | (simp<;>omega),by first | omega | (simp only [lsA];omega) | (simp<;>omega)⟩,trivial⟩ fun a w h=>?_
   replace h:=at_out (σ':=⟨[(0,aF (.int 3) x0),(2,aI 0),(3,aI (((i:Nat):Int)+1))],[]⟩) { ts:=[0,2,3],os:=[] } h (by kernel_rfl)
   exact ⟨i+1,at_eq h (st_congr1 (fun (d0:Int)=>(⟨[(0,aF (.int 3) x0),(2,aI 0),(3,aI d0)],[]⟩:St)) (show (((i:Nat):Int)+1:Int)=(((i+1):Nat):Int) from by first | with_reducible rfl | (omega) | rfl)),(by exact ⟨by omega,noneTo_succ hok0.2 (by simpa using h2)⟩),(by omega)⟩
 ·replace h1 : ¬ (((i : Nat) : Int) < ((List.length x0 : Nat) : Int)) := of_decide_eq_false h1
  refine wp_exit (then_exit (then_exit (in_hit (then_normal (wp_seq ?_)))))
  refine at_regq [] { ts:=[2],os:=[] } [] gamOK hT h (by kernel_rfl) trivial fun a w h=>then_normal (wp_ret ?_)
  exact at_return ((-1),()) [] h (by kernel_rfl) trivial (congrArg (fun z=>(z,())) (show ((-1))=LA.leadS x0 from by (rw [← lead_idx];exact (idxF_none (z:=0) (by omega) hok0.2).symm)))

abbrev Q_spec_ScaleVector:=(fun (x0:(List Int)) (x1:Int)=>Sh.fit s22 x0)
def S_spec_ScaleVector:Sum:={ fid:=161,dom:=[s22,(.int 3)],cod:=[s22],dp:=true,fz:=false,pre:=fun x=>Q_spec_ScaleVector x.1 x.2.1,g:=fun x=>((scaleV x.1 x.2.1),()) }
def S_spec_ScaleVector_tab:List (Nat×Sum):=[(139,S_spec_IsValidVector),(153,S_spec_IsElement)]
theorem S_spec_ScaleVector_ok:FnOK Try.prog 161 S_spec_ScaleVector:=by
 refine at_enter 34 (fun x=>⟨[(0,aF (.int 3) x.1),(1,aI x.2.1)],[]⟩) Try.func161 rfl (by kernel_rfl) (fun x=>rfl) ?_
 rintro w0 Z0 ⟨x0,x1,u⟩ a w
 revert x0 x1
 intro (x0:(List Int)) (x1:Int) hpre hlens h
 replace hpre:Q_spec_ScaleVector x0 x1:=hpre
 have hT:TabOK Try.prog S_spec_ScaleVector_tab:=(.cons S_spec_IsValidVector_ok (.cons S_spec_IsElement_ok .nil))
 have hf0:Sh.fit s22 x0:=hpre
 have hn0_1:List.length x0≤1073741824:=hf0.1
 refine wp_seq ?_
 refine at_regq [] { ts:=[0,1,4],os:=[] } [] gamOK hT h (by kernel_rfl) trivial fun a w h=>then_normal (wp_seq ?_)
 refine at_regq [{ ids:=[1] }] { ts:=[0,1,4,5],os:=[1] } [] gamOK hT h (by kernel_rfl) trivial fun a w h=>then_normal (wp_seq (wp_seq ?_))
 rcases Bool.eq_false_or_eq_true (!(validV x0)) with h1 | h1
 ·have hzh1 : (validV x0) = false := notT h1
  refine at_regq [{},{},{ hint:=some (aB true) }] { ts:=[0,1,4,5,15],os:=[1] } [Q_spec_IsValidVector x0,(AV.p (.c (.v (.bool (!(validV x0)))))=AV.p (.c (.v (.bool true))))] gamOK hT h (by kernel_rfl) ⟨(by exact hf0),hint_bool (h1),trivial⟩ fun a w h=>then_normal ?_
  refine at_test true h (by kernel_rfl) (fun hh=>?_) (fun hh=>nomatch hh)
  refine wp_seq ?_
  refine at_regq [] { ts:=[0,1,4,5],os:=[1] } [] gamOK hT h (by kernel_rfl) trivial fun a w h=>then_normal (wp_ret (then_ret ?_))
  exact at_return (([]:List Int),()) [] h (by kernel_rfl) trivial (congrArg (fun z=>(z,())) (show (([]:List Int))=scaleV x0 x1 from by (unfold scaleV;first | (rw [if_pos ⟨by assumption,by assumption⟩,take_all (by omega)];rfl) | (rw [if_neg (by simp_all)];done))))
 ·have hzh1 : (validV x0) = true := notF h1
  have hvh1:=validV_t (notF h1)
  refine at_regq [{},{},{ hint:=some (aB false) }] { ts:=[0,1,4,5,15],os:=[1] } [Q_spec_IsValidVector x0,(AV.p (.c (.v (.bool (!(validV x0)))))=AV.p (.c (.v (.bool false)))),True] gamOK hT h (by kernel_rfl) ⟨(by exact hf0),hint_bool (h1),trivial,trivial⟩ fun a w h=>then_normal ?_
  refine at_test (!(isEl x1)) h (by kernel_rfl) (fun h2=>?_) (fun h2=>?_)
  ·replace h2 : (isEl x1) = false := notT h2
   refine wp_seq ?_
   refine at_regq [] { ts:=[0,1,4,5],os:=[1] } [] gamOK hT h (by kernel_rfl) trivial fun a w h=>then_normal (wp_ret (then_ret ?_))
   exact at_return (([]:List Int),()) [] h (by kernel_rfl) trivial (congrArg (fun z=>(z,())) (show (([]:List Int))=scaleV x0 x1 from by (unfold scaleV;first | (rw [if_pos ⟨by assumption,by assumption⟩,take_all (by omega)];rfl) | (rw [if_neg (by simp_all)];done))))
  ·replace h2 : (isEl x1) = true := notF h2
   have hvh2:=isEl_t h2
   refine wp_skip (then_normal (wp_seq (wp_seq ?_)))
   refine at_regq [] { ts:=[0,1,4,5,6],os:=[1] } [] gamOK hT h (by kernel_rfl) trivial fun a w h=>then_normal (wp_block ?_)
   replace h:=at_out (σ':=⟨[(0,aF (.int 3) x0),(1,aI x1),(4,.p (.c (cN))),(5,aS 1),(6,aI 0)],[(1,oR (.int 3) ([]:List Int))]⟩) { ts:=[0,1,4,5,6],os:=[1] } h (by kernel_rfl)
   refine at_loop (fun i:Nat=>(⟨[(0,aF (.int 3) x0),(1,aI x1),(4,.p (.c (cN))),(5,aS 1),(6,aI ((i:Nat):Int))],[(1,oR (.int 3) (List.map (scF x1) (List.take i x0)))]⟩:St)) (fun i=>i≤List.length x0) (fun i=>List.length x0 - i) (0) h (st_congr2 (fun (d0:List Int) (d1:Int)=>(⟨[(0,aF (.int 3) x0),(1,aI x1),(4,.p (.c (cN))),(5,aS 1),(6,aI d1)],[(1,oR (.int 3) d0)]⟩:St)) (show (([]:List Int):List Int)=(List.map (scF x1) (List.take (0) x0)) from by first | with_reducible rfl | (first | rfl | simp) | rfl) (show (0:Int)=(((0):Nat):Int) from by first | with_reducible rfl | (first | rfl | simp) | rfl)) (by omega) ?_
   intro i a w hok0 h
   have hlt0:=len_take_le (xs:=x0) i
   refine wp_seq (wp_seq ?_)
   refine at_regq [] { ts:=[0,1,4,5,6,20],os:=[1] } [] gamOK hT h (by kernel_rfl) trivial fun a w h=>then_normal ?_
   refine at_test (decide (((i:Nat):Int) < ((List.length x0:Nat):Int))) h (by kernel_rfl) (fun h3=>?_) (fun h3=>?_)
   ·replace h3 : ((i : Nat) : Int) < ((List.length x0 : Nat) : Int) := of_decide_eq_true h3
    have hx1:=(validV_t (v:=x0) (by assumption)).2.2 i
    refine wp_skip (then_normal (wp_seq (wp_block ?_)))
    refine at_regq [{},{},{},{},{},{},{ nw:=true },{},{ ids:=[2] },{ ids:=[3] }] { ts:=[0,1,4,5,6],os:=[3] } [(0:Int)≤((i:Nat):Int)∧((i:Nat):Int) < ((List.length x0:Nat):Int),I64 ((x0.getD i 0)*x1),(1019:Int)≠0,(List.length (List.map (scF x1) (List.take i x0))+List.length ([(Int.tmod ((x0.getD i 0)*x1) 1019)]))*8≤140737488355328] gamOK hT h (by kernel_rfl) ⟨(by refine ⟨?_,?_⟩<;>(first | omega | (simp only [lsA];omega) | (simp<;>omega))),⟨by (have hA0:=mul_f (x0.getD i 0) x1;first | omega | (simp only [lsA];omega) | (simp<;>omega)),by (have hA0:=mul_f (x0.getD i 0) x1;first | omega | (simp only [lsA];omega) | (simp<;>omega))⟩,(by first | omega | (simp only [lsA];omega) | (simp<;>omega)),(by (have hA0:=mul_f (x0.getD i 0) x1;have hA1:=tmod_f ((x0.getD i 0)*x1) 1019;first | omega | (simp only [lsA];omega) | (simp<;>omega))),trivial⟩ fun a w h=>in_normal (then_normal ?_)
    refine at_regq [{},{ nw:=true }] { ts:=[0,1,4,5,6],os:=[3] } [I64 (((i:Nat):Int)+1)] gamOK hT h (by kernel_rfl) ⟨⟨by first | omega | (simp only [lsA];omega) | (simp<;>omega),by first | omega | (simp only [lsA];omega) | (simp<;>omega)⟩,trivial⟩ fun a w h=>?_
    replace h:=at_out (σ':=⟨[(0,aF (.int 3) x0),(1,aI x1),(4,.p (.c (cN))),(5,aS 1),(6,aI (((i:Nat):Int)+1))],[(1,oR (.int 3) ((List.map (scF x1) (List.take i x0))++([(Int.tmod ((x0.getD i 0)*x1) 1019)])))]⟩) { ts:=[0,1,4,5,6],os:=[3],rn:=[(3,1)] } h (by kernel_rfl)
    exact ⟨i+1,at_eq h (st_congr2 (fun (d0:List Int) (d1:Int)=>(⟨[(0,aF (.int 3) x0),(1,aI x1),(4,.p (.c (cN))),(5,aS 1),(6,aI d1)],[(1,oR (.int 3) d0)]⟩:St)) (show (((List.map (scF x1) (List.take i x0))++([(Int.tmod ((x0.getD i 0)*x1) 1019)])):List Int)=(List.map (scF x1) (List.take (i+1) x0)) from by first | with_reducible rfl | (rw [map_snoc (z:=0) (by omega)];done) | rfl) (show (((i:Nat):Int)+1:Int)=(((i+1):Nat):Int) from by first | with_reducible rfl | (omega) | rfl)),(by omega),(by omega)⟩
   ·replace h3 : ¬ (((i : Nat) : Int) < ((List.length x0 : Nat) : Int)) := of_decide_eq_false h3
    refine wp_exit (then_exit (then_exit (in_hit (then_normal (wp_seq ?_)))))
    refine at_regq [] { ts:=[4],os:=[1] } [] gamOK hT h (by kernel_rfl) trivial fun a w h=>then_normal (wp_ret ?_)
    exact at_return ((List.map (scF x1) (List.take i x0)),()) [] h (by kernel_rfl) trivial (congrArg (fun z=>(z,())) (show ((List.map (scF x1) (List.take i x0)))=scaleV x0 x1 from by (unfold scaleV;first | (rw [if_pos ⟨by assumption,by assumption⟩,take_all (by omega)];rfl) | (rw [if_neg (by simp_all)];done))))

def l5P (x0:(List Int)) (x1:(List Int)):Bool:=(if (validV x0)=true then (if (validV x1)=true then decide (((List.length x0:Nat):Int)=((List.length x1:Nat):Int)) else false) else false)
abbrev Q_spec_l5Pair:=(fun (x0:(List Int)) (x1:(List Int))=>Sh.fit s22 x0∧Sh.fit s22 x1)
def S_spec_l5Pair:Sum:={ fid:=167,dom:=[s22,s22],cod:=[(.bool 4)],dp:=true,fz:=false,pre:=fun x=>Q_spec_l5Pair x.1 x.2.1,g:=fun x=>((l5P x.1 x.2.1),()) }
def S_spec_l5Pair_tab:List (Nat×Sum):=[(139,S_spec_IsValidVector)]
theorem S_spec_l5Pair_ok:FnOK Try.prog 167 S_spec_l5Pair:=by
 refine at_enter 18 (fun x=>⟨[(0,aF (.int 3) x.1),(1,aF (.int 3) x.2.1)],[]⟩) Try.func167 rfl (by kernel_rfl) (fun x=>rfl) ?_
 rintro w0 Z0 ⟨x0,x1,u⟩ a w
 revert x0 x1
 intro (x0:(List Int)) (x1:(List Int)) hpre hlens h
 replace hpre:Q_spec_l5Pair x0 x1:=hpre
 have hT:TabOK Try.prog S_spec_l5Pair_tab:=(.cons S_spec_IsValidVector_ok .nil)
 obtain ⟨hf0,hf1⟩:=hpre
 have hn0_1:List.length x0≤1073741824:=hf0.1
 have hn1_2:List.length x1≤1073741824:=hf1.1
 refine wp_seq ?_
 refine at_regq [] { ts:=[0,1,4],os:=[] } [] gamOK hT h (by kernel_rfl) trivial fun a w h=>then_normal (wp_seq ?_)
 rcases Bool.eq_false_or_eq_true ((validV x0)) with h1 | h1
 ·have hvh1 := validV_t h1
  rcases Bool.eq_false_or_eq_true ((validV x1)) with h2 | h2
  ·have hvh2 := validV_t h2
   refine at_regq [{},{ hint:=some (aB true) },{},{},{ hint:=some (aB true) }] { ts:=[4],os:=[] } [Q_spec_IsValidVector x0,(AV.p (.c (.v (.bool ((validV x0)))))=AV.p (.c (.v (.bool true)))),Q_spec_IsValidVector x1,(AV.p (.c (.v (.bool ((validV x1)))))=AV.p (.c (.v (.bool true))))] gamOK hT h (by kernel_rfl) ⟨(by exact hf0),hint_bool (h1),(by exact hf1),hint_bool (h2),trivial⟩ fun a w h=>then_normal (wp_ret ?_)
   exact at_return (decide (((List.length x0:Nat):Int)=((List.length x1:Nat):Int)),()) [] h (by kernel_rfl) trivial (congrArg (fun z=>(z,())) (show (decide (((List.length x0:Nat):Int)=((List.length x1:Nat):Int)))=l5P x0 x1 from by first | rfl | (unfold l5P;rw [if_pos h1,if_pos h2])))
  ·refine at_regq [{}, { hint := some (aB true) }, {}, {}, { hint := some (aB false) }] { ts := [4], os := [] } [Q_spec_IsValidVector x0, (AV.p (.c (.v (.bool ((validV x0))))) = AV.p (.c (.v (.bool true)))), Q_spec_IsValidVector x1, (AV.p (.c (.v (.bool ((validV x1))))) = AV.p (.c (.v (.bool false))))] gamOK hT h (by kernel_rfl) ⟨(by exact hf0), hint_bool (h1), (by exact hf1), hint_bool (h2), trivial⟩ fun a w h => then_normal (wp_ret ?_)
   exact at_return (false,()) [] h (by kernel_rfl) trivial (congrArg (fun z=>(z,())) (show (false)=l5P x0 x1 from by first | rfl | (unfold l5P;rw [if_pos h1,if_neg (neT h2)])))
 ·refine at_regq [{}, { hint := some (aB false) }] { ts := [4], os := [] } [Q_spec_IsValidVector x0, (AV.p (.c (.v (.bool ((validV x0))))) = AV.p (.c (.v (.bool false))))] gamOK hT h (by kernel_rfl) ⟨(by exact hf0), hint_bool (h1), trivial⟩ fun a w h => then_normal (wp_ret ?_)
  exact at_return (false,()) [] h (by kernel_rfl) trivial (congrArg (fun z=>(z,())) (show (false)=l5P x0 x1 from by first | rfl | (unfold l5P;rw [if_neg (neT h1)])))
theorem l5P_t {a b:List Int} (h:l5P a b=true):validV a=true∧validV b=true∧List.length a=List.length b:=by
 unfold l5P at h
 split at h
 ·split at h
  ·have:=of_decide_eq_true h;exact ⟨by assumption,by assumption,by omega⟩
  ·cases h
 ·cases h
theorem l5P_of {a b:List Int} (h:validV a=true∧validV b=true∧List.length a=List.length b):l5P a b=true:=by
 unfold l5P;rw [if_pos h.1,if_pos h.2.1];exact decide_eq_true (by omega)
theorem l5P_v {a b:List Int} (h:l5P a b=true):(List.length a=List.length b∧List.length a≤40)∧(∀ j,0≤a.getD j 0∧a.getD j 0≤1018)∧(∀ j,0≤b.getD j 0∧b.getD j 0≤1018):=by
 have h:=l5P_t h
 exact ⟨⟨h.2.2,(validV_t h.1).1⟩,(validV_t h.1).2.2,(validV_t h.2.1).2.2⟩
theorem addV_ok {a b:List Int} {k:Int} (ha:validV a=true) (hb:validV b=true) (hl:List.length a=List.length b) (hk:0≤k∧k≤1018):addV a b k=LA.addS a b k:=if_pos ⟨⟨ha,hb,hl⟩,inR_true hk⟩
theorem addV_len (a b:List Int) (k:Int):(addV a b k).length≤a.length:=by unfold addV LA.addS;split<;>simp<;>omega

abbrev Q_spec_AddScaled:=(fun (x0:(List Int)) (x1:(List Int)) (x2:Int)=>Sh.fit s22 x0∧Sh.fit s22 x1)
def S_spec_AddScaled:Sum:={ fid:=163,dom:=[s22,s22,(.int 3)],cod:=[s22],dp:=true,fz:=false,pre:=fun x=>Q_spec_AddScaled x.1 x.2.1 x.2.2.1,g:=fun x=>((addV x.1 x.2.1 x.2.2.1),()) }
def S_spec_AddScaled_tab:List (Nat×Sum):=[(167,S_spec_l5Pair),(153,S_spec_IsElement)]
theorem S_spec_AddScaled_ok:FnOK Try.prog 163 S_spec_AddScaled:=by
 refine at_enter 42 (fun x=>⟨[(0,aF (.int 3) x.1),(1,aF (.int 3) x.2.1),(2,aI x.2.2.1)],[]⟩) Try.func163 rfl (by kernel_rfl) (fun x=>rfl) ?_
 rintro w0 Z0 ⟨x0,x1,x2,u⟩ a w
 revert x0 x1 x2
 intro (x0:(List Int)) (x1:(List Int)) (x2:Int) hpre hlens h
 replace hpre:Q_spec_AddScaled x0 x1 x2:=hpre
 have hT:TabOK Try.prog S_spec_AddScaled_tab:=(.cons S_spec_l5Pair_ok (.cons S_spec_IsElement_ok .nil))
 obtain ⟨hf0,hf1⟩:=hpre
 have hn0_1:List.length x0≤1073741824:=hf0.1
 have hn1_2:List.length x1≤1073741824:=hf1.1
 refine wp_seq ?_
 refine at_regq [] { ts:=[0,1,2,6],os:=[] } [] gamOK hT h (by kernel_rfl) trivial fun a w h=>then_normal (wp_seq ?_)
 refine at_regq [{ ids:=[1] }] { ts:=[0,1,2,6,7],os:=[1] } [] gamOK hT h (by kernel_rfl) trivial fun a w h=>then_normal (wp_seq (wp_seq ?_))
 rcases Bool.eq_false_or_eq_true (!(l5P x0 x1)) with h1 | h1
 ·have hzh1 : (l5P x0 x1) = false := notT h1
  refine at_regq [{},{},{},{ hint:=some (aB true) }] { ts:=[0,1,2,6,7,18],os:=[1] } [Q_spec_l5Pair x0 x1,(AV.p (.c (.v (.bool (!(l5P x0 x1)))))=AV.p (.c (.v (.bool true))))] gamOK hT h (by kernel_rfl) ⟨(by exact ⟨hf0,hf1⟩),hint_bool (h1),trivial⟩ fun a w h=>then_normal ?_
  refine at_test true h (by kernel_rfl) (fun hh=>?_) (fun hh=>nomatch hh)
  refine wp_seq ?_
  refine at_regq [] { ts:=[0,1,2,6,7],os:=[1] } [] gamOK hT h (by kernel_rfl) trivial fun a w h=>then_normal (wp_ret (then_ret ?_))
  exact at_return (([]:List Int),()) [] h (by kernel_rfl) trivial (congrArg (fun z=>(z,())) (show (([]:List Int))=addV x0 x1 x2 from by (unfold addV;first | (have hl:List.length x0=List.length x1:=(l5P_t (by assumption)).2.2;rw [if_pos ⟨l5P_t (by assumption),by assumption⟩,take_all (by rw [LA.addS_len hl];omega)];done) | (rw [if_neg (fun e=>by have:=l5P_of e.1;simp_all)];done))))
 ·have hzh1 : (l5P x0 x1) = true := notF h1
  have hvh1:=l5P_v (notF h1)
  refine at_regq [{},{},{},{ hint:=some (aB false) }] { ts:=[0,1,2,6,7,18],os:=[1] } [Q_spec_l5Pair x0 x1,(AV.p (.c (.v (.bool (!(l5P x0 x1)))))=AV.p (.c (.v (.bool false)))),True] gamOK hT h (by kernel_rfl) ⟨(by exact ⟨hf0,hf1⟩),hint_bool (h1),trivial,trivial⟩ fun a w h=>then_normal ?_
  refine at_test (!(isEl x2)) h (by kernel_rfl) (fun h2=>?_) (fun h2=>?_)
  ·replace h2 : (isEl x2) = false := notT h2
   refine wp_seq ?_
   refine at_regq [] { ts:=[0,1,2,6,7],os:=[1] } [] gamOK hT h (by kernel_rfl) trivial fun a w h=>then_normal (wp_ret (then_ret ?_))
   exact at_return (([]:List Int),()) [] h (by kernel_rfl) trivial (congrArg (fun z=>(z,())) (show (([]:List Int))=addV x0 x1 x2 from by (unfold addV;first | (have hl:List.length x0=List.length x1:=(l5P_t (by assumption)).2.2;rw [if_pos ⟨l5P_t (by assumption),by assumption⟩,take_all (by rw [LA.addS_len hl];omega)];done) | (rw [if_neg (fun e=>by have:=l5P_of e.1;simp_all)];done))))
  ·replace h2 : (isEl x2) = true := notF h2
   have hvh2:=isEl_t h2
   refine wp_skip (then_normal (wp_seq (wp_seq ?_)))
   refine at_regq [] { ts:=[0,1,2,6,7,8],os:=[1] } [] gamOK hT h (by kernel_rfl) trivial fun a w h=>then_normal (wp_block ?_)
   replace h:=at_out (σ':=⟨[(0,aF (.int 3) x0),(1,aF (.int 3) x1),(2,aI x2),(6,.p (.c (cN))),(7,aS 1),(8,aI 0)],[(1,oR (.int 3) ([]:List Int))]⟩) { ts:=[0,1,2,6,7,8],os:=[1] } h (by kernel_rfl)
   refine at_loop (fun i:Nat=>(⟨[(0,aF (.int 3) x0),(1,aF (.int 3) x1),(2,aI x2),(6,.p (.c (cN))),(7,aS 1),(8,aI ((i:Nat):Int))],[(1,oR (.int 3) (List.take i (LA.addS x0 x1 x2)))]⟩:St)) (fun i=>i≤List.length x0) (fun i=>List.length x0 - i) (0) h (st_congr2 (fun (d0:List Int) (d1:Int)=>(⟨[(0,aF (.int 3) x0),(1,aF (.int 3) x1),(2,aI x2),(6,.p (.c (cN))),(7,aS 1),(8,aI d1)],[(1,oR (.int 3) d0)]⟩:St)) (show (([]:List Int):List Int)=(List.take (0) (LA.addS x0 x1 x2)) from by first | with_reducible rfl | (rfl) | rfl) (show (0:Int)=(((0):Nat):Int) from by first | with_reducible rfl | (rfl) | rfl)) (by omega) ?_
   intro i a w hok0 h
   have hlt:=addS_take_le x0 x1 x2 i
   refine wp_seq (wp_seq ?_)
   refine at_regq [] { ts:=[0,1,2,6,7,8,23],os:=[1] } [] gamOK hT h (by kernel_rfl) trivial fun a w h=>then_normal ?_
   refine at_test (decide (((i:Nat):Int) < ((List.length x0:Nat):Int))) h (by kernel_rfl) (fun h3=>?_) (fun h3=>?_)
   ·replace h3 : ((i : Nat) : Int) < ((List.length x0 : Nat) : Int) := of_decide_eq_true h3
    have hx1:=(l5P_v (a:=x0) (b:=x1) (by assumption)).2.1 i
    have hx2:=(l5P_v (a:=x0) (b:=x1) (by assumption)).2.2 i
    refine wp_skip (then_normal (wp_seq (wp_block ?_)))
    refine at_anyq [{},{},{},{},{},{},{},{},{},{},{ nw:=true },{ nw:=true },{},{ ids:=[2] },{ ids:=[3] },{}] { ts:=[0,1,2,6,7,8],os:=[3] } [(0:Int)≤((i:Nat):Int)∧((i:Nat):Int) < ((List.length x0:Nat):Int),(0:Int)≤((i:Nat):Int)∧((i:Nat):Int) < ((List.length x1:Nat):Int),I64 ((x1.getD i 0)*x2),I64 ((x0.getD i 0)+((x1.getD i 0)*x2)),(1019:Int)≠0,(List.length (List.take i (LA.addS x0 x1 x2))+List.length ([(Int.tmod ((x0.getD i 0)+((x1.getD i 0)*x2)) 1019)]))*8≤140737488355328] gamOK hT mixed h (by kernel_rfl) ⟨(by refine ⟨?_,?_⟩<;>(first | omega | (simp only [lsA];omega) | (simp<;>omega))),(by refine ⟨?_,?_⟩<;>(first | omega | (simp only [lsA];omega) | (simp<;>omega))),⟨by (have hA0:=mul_f (x1.getD i 0) x2;first | omega | (simp only [lsA];omega) | (simp<;>omega)),by (have hA0:=mul_f (x1.getD i 0) x2;first | omega | (simp only [lsA];omega) | (simp<;>omega))⟩,⟨by (have hA0:=mul_f (x1.getD i 0) x2;first | omega | (simp only [lsA];omega) | (simp<;>omega)),by (have hA0:=mul_f (x1.getD i 0) x2;first | omega | (simp only [lsA];omega) | (simp<;>omega))⟩,(by first | omega | (simp only [lsA];omega) | (simp<;>omega)),(by (have hA0:=mul_f (x1.getD i 0) x2;have hA1:=tmod_f ((x0.getD i 0)+((x1.getD i 0)*x2)) 1019;have hL2:=(show List.length (List.take i (LA.addS x0 x1 x2))≤1073741824 from ((Sh.fit_take (Sh.fit_len (t:=22) (s:=.int 3) rfl (by simp [LA.addS];omega)) i)).1);first | omega | (simp only [lsA];omega) | (simp<;>omega))),trivial⟩ fun a w h=>in_normal (then_normal ?_)
    refine at_regq [{},{ nw:=true }] { ts:=[0,1,2,6,7,8],os:=[3] } [I64 (((i:Nat):Int)+1)] gamOK hT h (by kernel_rfl) ⟨⟨by first | omega | (simp only [lsA];omega) | (simp<;>omega),by first | omega | (simp only [lsA];omega) | (simp<;>omega)⟩,trivial⟩ fun a w h=>?_
    replace h:=at_out (σ':=⟨[(0,aF (.int 3) x0),(1,aF (.int 3) x1),(2,aI x2),(6,.p (.c (cN))),(7,aS 1),(8,aI (((i:Nat):Int)+1))],[(1,oR (.int 3) ((List.take i (LA.addS x0 x1 x2))++([(Int.tmod ((x0.getD i 0)+((x1.getD i 0)*x2)) 1019)])))]⟩) { ts:=[0,1,2,6,7,8],os:=[3],rn:=[(3,1)] } h (by kernel_rfl)
    exact ⟨i+1,at_eq h (st_congr2 (fun (d0:List Int) (d1:Int)=>(⟨[(0,aF (.int 3) x0),(1,aF (.int 3) x1),(2,aI x2),(6,.p (.c (cN))),(7,aS 1),(8,aI d1)],[(1,oR (.int 3) d0)]⟩:St)) (show (((List.take i (LA.addS x0 x1 x2))++([(Int.tmod ((x0.getD i 0)+((x1.getD i 0)*x2)) 1019)])):List Int)=(List.take (i+1) (LA.addS x0 x1 x2)) from by first | with_reducible rfl | ((have hl:List.length x0=List.length x1:=(l5P_t (by assumption)).2.2;rw [take_snoc (z:=0) (by rw [LA.addS_len hl];omega),LA.addS_at hl,Int.mul_comm];done)) | rfl) (show (((i:Nat):Int)+1:Int)=(((i+1):Nat):Int) from by first | with_reducible rfl | (omega) | rfl)),(by omega),(by omega)⟩
   ·replace h3 : ¬ (((i : Nat) : Int) < ((List.length x0 : Nat) : Int)) := of_decide_eq_false h3
    refine wp_exit (then_exit (then_exit (in_hit (then_normal (wp_seq ?_)))))
    refine at_regq [] { ts:=[6],os:=[1] } [] gamOK hT h (by kernel_rfl) trivial fun a w h=>then_normal (wp_ret ?_)
    exact at_return ((List.take i (LA.addS x0 x1 x2)),()) [] h (by kernel_rfl) trivial (congrArg (fun z=>(z,())) (show ((List.take i (LA.addS x0 x1 x2)))=addV x0 x1 x2 from by (unfold addV;first | (have hl:List.length x0=List.length x1:=(l5P_t (by assumption)).2.2;rw [if_pos ⟨l5P_t (by assumption),by assumption⟩,take_all (by rw [LA.addS_len hl];omega)];done) | (rw [if_neg (fun e=>by have:=l5P_of e.1;simp_all)];done))))

abbrev Q_impl_copyMatrix:=(fun (x0:(List (List Int)))=>Sh.fit s66 x0)
def S_impl_copyMatrix:Sum:={ fid:=111,dom:=[s66],cod:=[s66],dp:=true,fz:=false,pre:=fun x=>Q_impl_copyMatrix x.1,g:=fun x=>(((idD s66) x.1),()) }
def S_impl_copyMatrix_tab:List (Nat×Sum):=[(69,S_slices_Clone_S_int_int_)]
theorem S_impl_copyMatrix_ok:FnOK Try.prog 111 S_impl_copyMatrix:=by
 refine at_enter 19 (fun x=>⟨[(0,aF s22 x.1)],[]⟩) Try.func111 rfl (by kernel_rfl) (fun x=>rfl) ?_
 rintro w0 Z0 ⟨x0,u⟩ a w
 revert x0
 intro (x0:(List (List Int))) hpre hlens h
 replace hpre:Q_impl_copyMatrix x0:=hpre
 have hT:TabOK Try.prog S_impl_copyMatrix_tab:=(.cons S_slices_Clone_S_int_int__ok .nil)
 have hf0:Sh.fit s66 x0:=hpre
 have hn0_1:List.length x0≤1073741824:=hf0.1
 refine wp_seq ?_
 refine at_regq [] { ts:=[0,2],os:=[] } [] gamOK hT h (by kernel_rfl) trivial fun a w h=>then_normal (wp_seq ?_)
 refine at_regq [] { ts:=[0,2,3],os:=[] } [] gamOK hT h (by kernel_rfl) trivial fun a w h=>then_normal (wp_seq (wp_seq ?_))
 refine at_regq [] { ts:=[2,3,6,7,8],os:=[] } [] gamOK hT h (by kernel_rfl) trivial fun a w h=>then_normal (wp_block ?_)
 replace h:=at_out (σ':=⟨[(2,.p (.c (cN))),(3,aS 1),(6,aF s22 x0),(7,aI ((List.length x0:Nat):Int)),(8,aI 0)],[(1,oR s22 ([]:List (List Int)))]⟩) { mt:=[⟨none,3,1,true,s22⟩],ts:=[2,3,6,7,8],os:=[1] } h (by kernel_rfl)
 refine at_loop (fun i:Nat=>(⟨[(2,.p (.c (cN))),(3,aS 1),(6,aF s22 x0),(7,aI ((List.length x0:Nat):Int)),(8,aI ((i:Nat):Int))],[(1,oR s22 (List.take i x0))]⟩:St)) (fun i=>i≤List.length x0) (fun i=>List.length x0 - i) (0) h (st_congr2 (fun (d0:List (List Int)) (d1:Int)=>(⟨[(2,.p (.c (cN))),(3,aS 1),(6,aF s22 x0),(7,aI ((List.length x0:Nat):Int)),(8,aI d1)],[(1,oR s22 d0)]⟩:St)) (show (([]:List (List Int)):List (List Int))=(List.take (0) x0) from by first | with_reducible rfl | (rfl) | rfl) (show (0:Int)=(((0):Nat):Int) from by first | with_reducible rfl | (rfl) | rfl)) (by omega) ?_
 intro i a w hok0 h
 have hlt:=len_take_le (xs:=x0) i
 have hrw:=(Sh.fit_getD hf0 i).1
 refine wp_seq ?_
 refine at_regq [] { ts:=[2,3,6,7,8,9],os:=[1] } [] gamOK hT h (by kernel_rfl) trivial fun a w h=>then_normal (wp_seq ?_)
 refine at_test (decide (((i:Nat):Int) < ((List.length x0:Nat):Int))) h (by kernel_rfl) (fun h1=>?_) (fun h1=>?_)
 ·replace h1 : ((i : Nat) : Int) < ((List.length x0 : Nat) : Int) := of_decide_eq_true h1
  refine wp_skip (then_normal (wp_seq (wp_block (wp_seq ?_))))
  refine at_regq [] { ts:=[2,3,5,6,7,8],os:=[1] } [(0:Int)≤((i:Nat):Int)∧((i:Nat):Int) < ((List.length x0:Nat):Int)] gamOK hT h (by kernel_rfl) ⟨(by refine ⟨?_,?_⟩<;>(first | omega | (simp only [lsA];omega) | (simp<;>omega))),trivial⟩ fun a w h=>then_normal ?_
  refine at_regq [{},{},{ ids:=[2] },{ ids:=[3] },{ ids:=[4] }] { ts:=[2,3,6,7,8],os:=[4] } [(lenOK (α:=Int)) (x0.getD i []),(List.length (List.take i x0)+List.length ([(x0.getD i [])]))*24≤140737488355328] gamOK hT h (by kernel_rfl) ⟨(by exact (Sh.fit_getD hf0 i).1),(by (have hL0:=(show List.length (List.take i x0)≤1073741824 from ((Sh.fit_take hf0 i)).1);first | omega | (simp only [lsA];omega) | (simp<;>omega))),trivial⟩ fun a w h=>in_normal (then_normal ?_)
  refine at_regq [{ nw:=true }] { ts:=[2,3,6,7,8],os:=[4] } [I64 (((i:Nat):Int)+1)] gamOK hT h (by kernel_rfl) ⟨⟨by first | omega | (simp only [lsA];omega) | (simp<;>omega),by first | omega | (simp only [lsA];omega) | (simp<;>omega)⟩,trivial⟩ fun a w h=>?_
  replace h:=at_out (σ':=⟨[(2,.p (.c (cN))),(3,aS 1),(6,aF s22 x0),(7,aI ((List.length x0:Nat):Int)),(8,aI (((i:Nat):Int)+1))],[(1,oR s22 ((List.take i x0)++([(x0.getD i [])])))]⟩) { ts:=[2,3,6,7,8],os:=[4],rn:=[(4,1)] } h (by kernel_rfl)
  exact ⟨i+1,at_eq h (st_congr2 (fun (d0:List (List Int)) (d1:Int)=>(⟨[(2,.p (.c (cN))),(3,aS 1),(6,aF s22 x0),(7,aI ((List.length x0:Nat):Int)),(8,aI d1)],[(1,oR s22 d0)]⟩:St)) (show (((List.take i x0)++([(x0.getD i [])])):List (List Int))=(List.take (i+1) x0) from by first | with_reducible rfl | (first | (rw [take_snoc (z:=[]) (by omega)];done) | (rw [take_snoc (z:=[]) (by omega)];rfl)) | rfl) (show (((i:Nat):Int)+1:Int)=(((i+1):Nat):Int) from by first | with_reducible rfl | (omega) | rfl)),(by omega),(by omega)⟩
 ·replace h1 : ¬ (((i : Nat) : Int) < ((List.length x0 : Nat) : Int)) := of_decide_eq_false h1
  refine wp_exit (then_exit (then_exit (in_hit (then_normal (wp_seq ?_)))))
  refine at_regq [] { ts:=[2],os:=[1] } [] gamOK hT h (by kernel_rfl) trivial fun a w h=>then_normal (wp_ret ?_)
  exact at_return ((List.take i x0),()) [] h (by kernel_rfl) trivial (congrArg (fun z=>(z,())) (show ((List.take i x0))=(idD s66) x0 from by (rw [take_all (by omega)];rfl)))

abbrev Q_spec_l6Copy:=(fun (x0:(List (List Int)))=>Sh.fit s66 x0)
def S_spec_l6Copy:Sum:={ fid:=103,dom:=[s66],cod:=[s66],dp:=false,fz:=false,pre:=fun x=>Q_spec_l6Copy x.1,g:=fun x=>(((idD s66) x.1),()) }
def S_spec_l6Copy_tab:List (Nat×Sum):=[]
theorem S_spec_l6Copy_ok:FnOK Try.prog 103 S_spec_l6Copy:=by
 refine at_enter 22 (fun x=>⟨[(0,aF s22 x.1)],[]⟩) Try.func103 rfl (by kernel_rfl) (fun x=>rfl) ?_
 rintro w0 Z0 ⟨x0,u⟩ a w
 revert x0
 intro (x0:(List (List Int))) hpre hlens h
 replace hpre:Q_spec_l6Copy x0:=hpre
 have hT:TabOK Try.prog S_spec_l6Copy_tab:=.nil
 have hf0:Sh.fit s66 x0:=hpre
 have hn0_1:List.length x0≤1073741824:=hf0.1
 refine wp_seq ?_
 refine at_regq [] { ts:=[0,2],os:=[] } [] gamOK hT h (by kernel_rfl) trivial fun a w h=>then_normal (wp_seq ?_)
 refine at_regq [{ ids:=[1],dp:=false }] { ts:=[0,2,3],os:=[1] } [] gamOK hT h (by kernel_rfl) trivial fun a w h=>then_normal (wp_seq (wp_seq ?_))
 refine at_regq [] { ts:=[0,2,3,4],os:=[1] } [] gamOK hT h (by kernel_rfl) trivial fun a w h=>then_normal (wp_block ?_)
 replace h:=at_out (σ':=⟨[(0,aF s22 x0),(2,.p (.c (cN))),(3,aS 1),(4,aI 0)],[(1,oF s22 ([]:List (List Int)))]⟩) { ts:=[0,2,3,4],os:=[1] } h (by kernel_rfl)
 refine at_loop (fun i:Nat=>(⟨[(0,aF s22 x0),(2,.p (.c (cN))),(3,aS 1),(4,aI ((i:Nat):Int))],[(1,oF s22 (List.take i x0))]⟩:St)) (fun i=>i≤List.length x0) (fun i=>List.length x0 - i) (0) h (st_congr2 (fun (d0:List (List Int)) (d1:Int)=>(⟨[(0,aF s22 x0),(2,.p (.c (cN))),(3,aS 1),(4,aI d1)],[(1,oF s22 d0)]⟩:St)) (show (([]:List (List Int)):List (List Int))=(List.take (0) x0) from by first | with_reducible rfl | (rfl) | rfl) (show (0:Int)=(((0):Nat):Int) from by first | with_reducible rfl | (rfl) | rfl)) (by omega) ?_
 intro i a w hok0 h
 have hlt:=len_take_le (xs:=x0) i
 have hrw:=(Sh.fit_getD hf0 i).1
 refine wp_seq (wp_seq ?_)
 refine at_regq [] { ts:=[0,2,3,4,9],os:=[1] } [] gamOK hT h (by kernel_rfl) trivial fun a w h=>then_normal ?_
 refine at_test (decide (((i:Nat):Int) < ((List.length x0:Nat):Int))) h (by kernel_rfl) (fun h1=>?_) (fun h1=>?_)
 ·replace h1 : ((i : Nat) : Int) < ((List.length x0 : Nat) : Int) := of_decide_eq_true h1
  refine wp_skip (then_normal (wp_seq (wp_block ?_)))
  refine at_regq [{},{ ids:=[2],dp:=false },{},{},{},{},{ ids:=[3],frz:=true,dp:=false },{ ids:=[4],dp:=false },{ ids:=[5],dp:=false }] { ts:=[0,2,3,4],os:=[5] } [(0:Int)≤((i:Nat):Int)∧((i:Nat):Int) < ((List.length x0:Nat):Int),(List.length ([]:List Int)+List.length (x0.getD i []))*8≤140737488355328,(List.length (List.take i x0)+List.length ([(([]:List Int)++(x0.getD i []))]))*24≤140737488355328] gamOK hT h (by kernel_rfl) ⟨(by refine ⟨?_,?_⟩<;>(first | omega | (simp only [lsA];omega) | (simp<;>omega))),(by (have hL0:=(show List.length (x0.getD i [])≤1073741824 from ((Sh.fit_getD hf0 i)).1);first | omega | (simp only [lsA];omega) | (simp<;>omega))),(by (have hL0:=(show List.length (List.take i x0)≤1073741824 from ((Sh.fit_take hf0 i)).1);first | omega | (simp only [lsA];omega) | (simp<;>omega))),trivial⟩ fun a w h=>in_normal (then_normal ?_)
  refine at_regq [{},{ nw:=true }] { ts:=[0,2,3,4],os:=[5] } [I64 (((i:Nat):Int)+1)] gamOK hT h (by kernel_rfl) ⟨⟨by first | omega | (simp only [lsA];omega) | (simp<;>omega),by first | omega | (simp only [lsA];omega) | (simp<;>omega)⟩,trivial⟩ fun a w h=>?_
  replace h:=at_out (σ':=⟨[(0,aF s22 x0),(2,.p (.c (cN))),(3,aS 1),(4,aI (((i:Nat):Int)+1))],[(1,oF s22 ((List.take i x0)++([(([]:List Int)++(x0.getD i []))])))]⟩) { ts:=[0,2,3,4],os:=[5],rn:=[(5,1)] } h (by kernel_rfl)
  exact ⟨i+1,at_eq h (st_congr2 (fun (d0:List (List Int)) (d1:Int)=>(⟨[(0,aF s22 x0),(2,.p (.c (cN))),(3,aS 1),(4,aI d1)],[(1,oF s22 d0)]⟩:St)) (show (((List.take i x0)++([(([]:List Int)++(x0.getD i []))])):List (List Int))=(List.take (i+1) x0) from by first | with_reducible rfl | (first | (rw [take_snoc (z:=[]) (by omega)];done) | (rw [take_snoc (z:=[]) (by omega)];rfl)) | rfl) (show (((i:Nat):Int)+1:Int)=(((i+1):Nat):Int) from by first | with_reducible rfl | (omega) | rfl)),(by omega),(by omega)⟩
 ·replace h1 : ¬ (((i : Nat) : Int) < ((List.length x0 : Nat) : Int)) := of_decide_eq_false h1
  refine wp_exit (then_exit (then_exit (in_hit (then_normal (wp_seq ?_)))))
  refine at_regq [] { ts:=[2],os:=[1] } [] gamOK hT h (by kernel_rfl) trivial fun a w h=>then_normal (wp_ret ?_)
  exact at_return ((List.take i x0),()) [] h (by kernel_rfl) trivial (congrArg (fun z=>(z,())) (show ((List.take i x0))=(idD s66) x0 from by (rw [take_all (by omega)];rfl)))

def S_spec_EqualMatrices:Sum:={ fid:=152,dom:=[s66,s66],cod:=[(.bool 4)],dp:=true,fz:=false,pre:=fun x=>True,g:=fun x=>(((Sh.eqB s66) x.1 x.2.1),()) }
def S_spec_EqualMatrices_tab:List (Nat×Sum):=[(160,S_spec_EqualInts)]
theorem S_spec_EqualMatrices_ok:FnOK Try.prog 152 S_spec_EqualMatrices:=by
 refine at_enter 27 (fun x=>⟨[(0,aF s22 x.1),(1,aF s22 x.2.1)],[]⟩) Try.func152 rfl (by kernel_rfl) (fun x=>rfl) ?_
 rintro w0 Z0 ⟨x0,x1,u⟩ a w
 revert x0 x1
 intro (x0:(List (List Int))) (x1:(List (List Int))) hpre hlens h
 have hl1:List.length x0≤9223372036854775807:=hlens.1.1
 have hl2:List.length x1≤9223372036854775807:=hlens.2.1.1
 have hT:TabOK Try.prog S_spec_EqualMatrices_tab:=(.cons S_spec_EqualInts_ok .nil)
 refine wp_seq ?_
 refine at_regq [] { ts:=[0,1,4],os:=[] } [] gamOK hT h (by kernel_rfl) trivial fun a w h=>then_normal (wp_seq (wp_seq ?_))
 refine at_regq [] { ts:=[0,1,4,10],os:=[] } [] gamOK hT h (by kernel_rfl) trivial fun a w h=>then_normal ?_
 refine at_test (!decide (((List.length x0:Nat):Int)=((List.length x1:Nat):Int))) h (by kernel_rfl) (fun h1=>?_) (fun h1=>?_)
 ·replace h1 : ¬ (((List.length x0 : Nat) : Int) = ((List.length x1 : Nat) : Int)) := of_decide_eq_false (notT h1)
  refine wp_seq ?_
  refine at_regq [] { ts:=[0,1,4],os:=[] } [] gamOK hT h (by kernel_rfl) trivial fun a w h=>then_normal (wp_ret (then_ret ?_))
  exact at_return (false,()) [] h (by kernel_rfl) trivial (congrArg (fun z=>(z,())) (show (false)=(Sh.eqB s66) x0 x1 from by (show _=Sh.eqB s66 x0 x1;first | exact (Sh.eqB_ne (fun e=>by subst e;simp_all [Sh.eqB_self])).symm | (have e:=hok0.2;rw [take_all (by omega),take_all (by omega)] at e;exact ((Sh.eqB_iff s66).2 e).symm))))
 ·replace h1 : ((List.length x0 : Nat) : Int) = ((List.length x1 : Nat) : Int) := of_decide_eq_true (notF h1)
  refine wp_skip (then_normal (wp_seq (wp_seq ?_)))
  refine at_regq [] { ts:=[0,1,4,5],os:=[] } [] gamOK hT h (by kernel_rfl) trivial fun a w h=>then_normal (wp_block ?_)
  replace h:=at_out (σ':=⟨[(0,aF s22 x0),(1,aF s22 x1),(4,aB false),(5,aI 0)],[]⟩) { ts:=[0,1,4,5],os:=[] } h (by kernel_rfl)
  refine at_loop (fun i:Nat=>(⟨[(0,aF s22 x0),(1,aF s22 x1),(4,aB false),(5,aI ((i:Nat):Int))],[]⟩:St)) (fun i=>(i≤List.length x0∧x0.take i=x1.take i)) (fun i=>List.length x0 - i) (0) h (st_congr1 (fun (d0:Int)=>(⟨[(0,aF s22 x0),(1,aF s22 x1),(4,aB false),(5,aI d0)],[]⟩:St)) (show (0:Int)=(((0):Nat):Int) from by first | with_reducible rfl | (rfl) | rfl)) (by exact ⟨Nat.zero_le _,rfl⟩) ?_
  intro i a w hok0 h
  refine wp_seq (wp_seq ?_)
  refine at_regq [] { ts:=[0,1,4,5,14],os:=[] } [] gamOK hT h (by kernel_rfl) trivial fun a w h=>then_normal ?_
  refine at_test (decide (((i:Nat):Int) < ((List.length x0:Nat):Int))) h (by kernel_rfl) (fun h2=>?_) (fun h2=>?_)
  ·replace h2 : ((i : Nat) : Int) < ((List.length x0 : Nat) : Int) := of_decide_eq_true h2
   refine wp_skip (then_normal (wp_seq (wp_block (wp_seq ?_))))
   refine at_anyq [{},{},{},{},{},{},{},{},{},{}] { ts:=[0,1,4,5,26],os:=[] } [(0:Int)≤((i:Nat):Int)∧((i:Nat):Int) < ((List.length x0:Nat):Int),(0:Int)≤((i:Nat):Int)∧((i:Nat):Int) < ((List.length x1:Nat):Int),True] gamOK hT mixed h (by kernel_rfl) ⟨(by refine ⟨?_,?_⟩<;>(first | omega | (simp only [lsA];omega) | (simp<;>omega))),(by refine ⟨?_,?_⟩<;>(first | omega | (simp only [lsA];omega) | (simp<;>omega))),trivial,trivial⟩ fun a w h=>then_normal ?_
   refine at_test (!((Sh.eqB s22) (x0.getD i []) (x1.getD i []))) h (by kernel_rfl) (fun h3=>?_) (fun h3=>?_)
   ·replace h3 : ((Sh.eqB s22) (x0.getD i []) (x1.getD i [])) = false := notT h3
    refine wp_seq ?_
    refine at_regq [] { ts:=[0,1,4,5],os:=[] } [] gamOK hT h (by kernel_rfl) trivial fun a w h=>then_normal (wp_ret (in_ret (then_ret (then_ret (in_ret (then_ret ?_))))))
    exact at_return (false,()) [] h (by kernel_rfl) trivial (congrArg (fun z=>(z,())) (show (false)=(Sh.eqB s66) x0 x1 from by (show _=Sh.eqB s66 x0 x1;first | exact (Sh.eqB_ne (fun e=>by subst e;simp_all [Sh.eqB_self])).symm | (have e:=hok0.2;rw [take_all (by omega),take_all (by omega)] at e;exact ((Sh.eqB_iff s66).2 e).symm))))
   ·replace h3 : ((Sh.eqB s22) (x0.getD i []) (x1.getD i [])) = true := notF h3
    refine wp_skip (in_normal (then_normal ?_))
    refine at_regq [{},{ nw:=true }] { ts:=[0,1,4,5],os:=[] } [I64 (((i:Nat):Int)+1)] gamOK hT h (by kernel_rfl) ⟨⟨by first | omega | (simp only [lsA];omega) | (simp<;>omega),by first | omega | (simp only [lsA];omega) | (simp<;>omega)⟩,trivial⟩ fun a w h=>?_
    replace h:=at_out (σ':=⟨[(0,aF s22 x0),(1,aF s22 x1),(4,aB false),(5,aI (((i:Nat):Int)+1))],[]⟩) { ts:=[0,1,4,5],os:=[] } h (by kernel_rfl)
    exact ⟨i+1,at_eq h (st_congr1 (fun (d0:Int)=>(⟨[(0,aF s22 x0),(1,aF s22 x1),(4,aB false),(5,aI d0)],[]⟩:St)) (show (((i:Nat):Int)+1:Int)=(((i+1):Nat):Int) from by first | with_reducible rfl | (omega) | rfl)),(by exact ⟨by omega,eqTo_step (z:=[]) (by omega) (by omega) hok0.2 (Sh.of_eqB (by assumption))⟩),(by omega)⟩
  ·replace h2 : ¬ (((i : Nat) : Int) < ((List.length x0 : Nat) : Int)) := of_decide_eq_false h2
   refine wp_exit (then_exit (then_exit (in_hit (then_normal (wp_seq ?_)))))
   refine at_regq [] { ts:=[4],os:=[] } [] gamOK hT h (by kernel_rfl) trivial fun a w h=>then_normal (wp_ret ?_)
   exact at_return (true,()) [] h (by kernel_rfl) trivial (congrArg (fun z=>(z,())) (show (true)=(Sh.eqB s66) x0 x1 from by (show _=Sh.eqB s66 x0 x1;first | exact (Sh.eqB_ne (fun e=>by subst e;simp_all [Sh.eqB_self])).symm | (have e:=hok0.2;rw [take_all (by omega),take_all (by omega)] at e;exact ((Sh.eqB_iff s66).2 e).symm))))

def validM (x0:(List (List Int))):Bool:=(if (List.all x0 (fun r=>validV r && decide (List.length r=List.length (x0.getD 0 []))))=true then decide (((List.length x0:Nat):Int)≤40) else false)
abbrev Q_impl_IsValidMatrix:=(fun (x0:(List (List Int)))=>Sh.fit s66 x0)
def S_impl_IsValidMatrix:Sum:={ fid:=154,dom:=[s66],cod:=[(.bool 4)],dp:=true,fz:=false,pre:=fun x=>Q_impl_IsValidMatrix x.1,g:=fun x=>((validM x.1),()) }
def S_impl_IsValidMatrix_tab:List (Nat×Sum):=[(117,S_impl_IsValidVector)]
theorem S_impl_IsValidMatrix_ok:FnOK Try.prog 154 S_impl_IsValidMatrix:=by
 refine at_enter 27 (fun x=>⟨[(0,aF s22 x.1)],[]⟩) Try.func154 rfl (by kernel_rfl) (fun x=>rfl) ?_
 rintro w0 Z0 ⟨x0,u⟩ a w
 revert x0
 intro (x0:(List (List Int))) hpre hlens h
 replace hpre:Q_impl_IsValidMatrix x0:=hpre
 have hT:TabOK Try.prog S_impl_IsValidMatrix_tab:=(.cons S_impl_IsValidVector_ok .nil)
 have hf0:Sh.fit s66 x0:=hpre
 have hn0_1:List.length x0≤1073741824:=hf0.1
 refine wp_seq ?_
 refine at_regq [] { ts:=[0,2],os:=[] } [] gamOK hT h (by kernel_rfl) trivial fun a w h=>then_normal (wp_seq (wp_seq ?_))
 refine at_regq [] { ts:=[0,2,5,6,7],os:=[] } [] gamOK hT h (by kernel_rfl) trivial fun a w h=>then_normal (wp_block ?_)
 replace h:=at_out (σ':=⟨[(0,aF s22 x0),(2,aB false),(5,aF s22 x0),(6,aI ((List.length x0:Nat):Int)),(7,aI 0)],[]⟩) { ts:=[0,2,5,6,7],os:=[] } h (by kernel_rfl)
 refine at_loop (fun i:Nat=>(⟨[(0,aF s22 x0),(2,aB false),(5,aF s22 x0),(6,aI ((List.length x0:Nat):Int)),(7,aI ((i:Nat):Int))],[]⟩:St)) (fun i=>(i≤List.length x0∧allTo1 (fun r=>validV r && decide (List.length r=List.length (x0.getD 0 []))) x0 [] i)) (fun i=>List.length x0 - i) (0) h (st_congr1 (fun (d0:Int)=>(⟨[(0,aF s22 x0),(2,aB false),(5,aF s22 x0),(6,aI ((List.length x0:Nat):Int)),(7,aI d0)],[]⟩:St)) (show (0:Int)=(((0):Nat):Int) from by first | with_reducible rfl | (rfl) | rfl)) (by exact ⟨Nat.zero_le _,allTo1_zero⟩) ?_
 intro i a w hok0 h
 refine wp_seq ?_
 refine at_regq [] { ts:=[0,2,5,6,7,8],os:=[] } [] gamOK hT h (by kernel_rfl) trivial fun a w h=>then_normal (wp_seq ?_)
 refine at_test (decide (((i:Nat):Int) < ((List.length x0:Nat):Int))) h (by kernel_rfl) (fun h1=>?_) (fun h1=>?_)
 ·replace h1 : ((i : Nat) : Int) < ((List.length x0 : Nat) : Int) := of_decide_eq_true h1
  refine wp_skip (then_normal (wp_seq (wp_block (wp_seq ?_))))
  refine at_regq [] { ts:=[0,2,4,5,6,7],os:=[] } [(0:Int)≤((i:Nat):Int)∧((i:Nat):Int) < ((List.length x0:Nat):Int)] gamOK hT h (by kernel_rfl) ⟨(by refine ⟨?_,?_⟩<;>(first | omega | (simp only [lsA];omega) | (simp<;>omega))),trivial⟩ fun a w h=>then_normal (wp_seq ?_)
  rcases Bool.eq_false_or_eq_true (!(validV (x0.getD i []))) with h2 | h2
  ·have hzh2 : (validV (x0.getD i [])) = false := notT h2
   refine at_regq [{},{},{ hint:=some (aB true) }] { ts:=[0,2,5,6,7,15,16,17,18,19,20,21,22],os:=[] } [Q_impl_IsValidVector (x0.getD i []),(AV.p (.c (.v (.bool (!(validV (x0.getD i []))))))=AV.p (.c (.v (.bool true))))] gamOK hT h (by kernel_rfl) ⟨(by exact (Sh.fit_getD hf0 i)),hint_bool (h2),trivial⟩ fun a w h=>then_normal ?_
   refine at_test true h (by kernel_rfl) (fun hh=>?_) (fun hh=>nomatch hh)
   refine wp_seq ?_
   refine at_regq [] { ts:=[0,2,5,6,7,15,16,17,18,19,20,21],os:=[] } [] gamOK hT h (by kernel_rfl) trivial fun a w h=>then_normal (wp_ret (in_ret (then_ret ?_)))
   have hs3:(List.all x0 (fun r=>validV r && decide (List.length r=List.length (x0.getD 0 []))))=false:=by exact all_at (z:=[]) (i:=i) (by omega) (by (show ((validV _) && _)=false;rw [Bool.and_eq_false_iff];first | (left;assumption) | (right;exact decide_eq_false (by omega))))
   refine then_ret (in_ret (then_ret ?_))
   exact at_return (false,()) [] h (by kernel_rfl) trivial (congrArg (fun z=>(z,())) (show (false)=validM x0 from by first | rfl | (unfold validM;rw [if_neg (neT hs3)])))
  ·have hzh2 : (validV (x0.getD i [])) = true := notF h2
   have hvh2:=validV_t (notF h2)
   refine at_regq [{},{},{ hint:=some (aB false) }] { ts:=[0,2,5,6,7,15,16,17,18,19,20,21,22],os:=[] } [Q_impl_IsValidVector (x0.getD i []),(AV.p (.c (.v (.bool (!(validV (x0.getD i []))))))=AV.p (.c (.v (.bool false)))),(0:Int)≤0∧0 < ((List.length x0:Nat):Int)] gamOK hT h (by kernel_rfl) ⟨(by exact (Sh.fit_getD hf0 i)),hint_bool (h2),(by refine ⟨?_,?_⟩<;>(first | omega | (simp only [lsA];omega) | (simp<;>omega))),trivial⟩ fun a w h=>then_normal ?_
   refine at_test (!decide (((List.length (x0.getD i []):Nat):Int)=((List.length (x0.getD 0 []):Nat):Int))) h (by kernel_rfl) (fun h4=>?_) (fun h4=>?_)
   ·replace h4 : ¬ (((List.length (x0.getD i []) : Nat) : Int) = ((List.length (x0.getD 0 []) : Nat) : Int)) := of_decide_eq_false (notT h4)
    refine wp_seq ?_
    refine at_regq [] { ts:=[0,2,5,6,7,15,16,17,18,19,20,21],os:=[] } [] gamOK hT h (by kernel_rfl) trivial fun a w h=>then_normal (wp_ret (in_ret (then_ret ?_)))
    have hs5:(List.all x0 (fun r=>validV r && decide (List.length r=List.length (x0.getD 0 []))))=false:=by exact all_at (z:=[]) (i:=i) (by omega) (by (show ((validV _) && _)=false;rw [Bool.and_eq_false_iff];first | (left;assumption) | (right;exact decide_eq_false (by omega))))
    refine then_ret (in_ret (then_ret ?_))
    exact at_return (false,()) [] h (by kernel_rfl) trivial (congrArg (fun z=>(z,())) (show (false)=validM x0 from by first | rfl | (unfold validM;rw [if_neg (neT hs5)])))
   ·replace h4 : ((List.length (x0.getD i []) : Nat) : Int) = ((List.length (x0.getD 0 []) : Nat) : Int) := of_decide_eq_true (notF h4)
    refine wp_skip (in_normal (then_normal ?_))
    refine at_regq [{ nw:=true }] { ts:=[0,2,5,6,7,15,16,17,18,19,20,21],os:=[] } [I64 (((i:Nat):Int)+1)] gamOK hT h (by kernel_rfl) ⟨⟨by first | omega | (simp only [lsA];omega) | (simp<;>omega),by first | omega | (simp only [lsA];omega) | (simp<;>omega)⟩,trivial⟩ fun a w h=>?_
    replace h:=at_out (σ':=⟨[(0,aF s22 x0),(2,aB false),(5,aF s22 x0),(6,aI ((List.length x0:Nat):Int)),(7,aI (((i:Nat):Int)+1))],[]⟩) { ts:=[0,2,5,6,7],os:=[] } h (by kernel_rfl)
    exact ⟨i+1,at_eq h (st_congr1 (fun (d0:Int)=>(⟨[(0,aF s22 x0),(2,aB false),(5,aF s22 x0),(6,aI ((List.length x0:Nat):Int)),(7,aI d0)],[]⟩:St)) (show (((i:Nat):Int)+1:Int)=(((i+1):Nat):Int) from by first | with_reducible rfl | (omega) | rfl)),(by exact ⟨by omega,allTo1_succ hok0.2 (by (show ((validV _) && _)=true;rw [Bool.and_eq_true];exact ⟨by assumption,decide_eq_true (by omega)⟩))⟩),(by omega)⟩
 ·replace h1 : ¬ (((i : Nat) : Int) < ((List.length x0 : Nat) : Int)) := of_decide_eq_false h1
  refine wp_exit (then_exit ?_)
  have hs6:(List.all x0 (fun r=>validV r && decide (List.length r=List.length (x0.getD 0 []))))=true:=by exact all_of (z:=[]) (i:=i) (by omega) hok0.2
  refine then_exit (in_hit (then_normal (wp_seq ?_)))
  refine at_regq [] { ts:=[2],os:=[] } [] gamOK hT h (by kernel_rfl) trivial fun a w h=>then_normal (wp_ret ?_)
  exact at_return (decide (((List.length x0:Nat):Int)≤40),()) [] h (by kernel_rfl) trivial (congrArg (fun z=>(z,())) (show (decide (((List.length x0:Nat):Int)≤40))=validM x0 from by first | rfl | (unfold validM;rw [if_pos hs6])))
theorem validM_t {m:List (List Int)} (h:validM m=true):List.length m≤40∧(∀ r∈m,validV r=true∧List.length r=List.length (m.getD 0 [])):=by
 unfold validM at h
 split at h
 ·rename_i ha
  have:=of_decide_eq_true h
  refine ⟨by omega,fun r hr=>?_⟩
  have:=List.all_eq_true.1 ha r hr
  rw [Bool.and_eq_true] at this
  exact ⟨this.1,of_decide_eq_true this.2⟩
 ·cases h
theorem validM_ok {m:List (List Int)} (h:validM m=true):∀ r∈m,LA.VokB (List.length (m.getD 0 [])) r:=fun r hr=>⟨((validM_t h).2 r hr).2,(validV_t ((validM_t h).2 r hr).1).2.1⟩
theorem validM_at {m:List (List Int)} (h:validM m=true) (j:Nat) (hj:j < m.length):List.length (m.getD j [])=List.length (m.getD 0 []):=((validM_t h).2 _ (getD_mem hj)).2

abbrev Q_spec_IsValidMatrix:=(fun (x0:(List (List Int)))=>Sh.fit s66 x0)
def S_spec_IsValidMatrix:Sum:={ fid:=107,dom:=[s66],cod:=[(.bool 4)],dp:=true,fz:=false,pre:=fun x=>Q_spec_IsValidMatrix x.1,g:=fun x=>((validM x.1),()) }
def S_spec_IsValidMatrix_tab:List (Nat×Sum):=[(139,S_spec_IsValidVector)]
theorem S_spec_IsValidMatrix_ok:FnOK Try.prog 107 S_spec_IsValidMatrix:=by
 refine at_enter 31 (fun x=>⟨[(0,aF s22 x.1)],[]⟩) Try.func107 rfl (by kernel_rfl) (fun x=>rfl) ?_
 rintro w0 Z0 ⟨x0,u⟩ a w
 revert x0
 intro (x0:(List (List Int))) hpre hlens h
 replace hpre:Q_spec_IsValidMatrix x0:=hpre
 have hT:TabOK Try.prog S_spec_IsValidMatrix_tab:=(.cons S_spec_IsValidVector_ok .nil)
 have hf0:Sh.fit s66 x0:=hpre
 have hn0_1:List.length x0≤1073741824:=hf0.1
 refine wp_seq ?_
 refine at_regq [] { ts:=[0,2],os:=[] } [] gamOK hT h (by kernel_rfl) trivial fun a w h=>then_normal (wp_seq (wp_seq ?_))
 refine at_regq [] { ts:=[0,2,3],os:=[] } [] gamOK hT h (by kernel_rfl) trivial fun a w h=>then_normal (wp_block ?_)
 replace h:=at_out (σ':=⟨[(0,aF s22 x0),(2,aB false),(3,aI 0)],[]⟩) { ts:=[0,2,3],os:=[] } h (by kernel_rfl)
 refine at_loop (fun i:Nat=>(⟨[(0,aF s22 x0),(2,aB false),(3,aI ((i:Nat):Int))],[]⟩:St)) (fun i=>(i≤List.length x0∧allTo1 (fun r=>validV r && decide (List.length r=List.length (x0.getD 0 []))) x0 [] i)) (fun i=>List.length x0 - i) (0) h (st_congr1 (fun (d0:Int)=>(⟨[(0,aF s22 x0),(2,aB false),(3,aI d0)],[]⟩:St)) (show (0:Int)=(((0):Nat):Int) from by first | with_reducible rfl | (rfl) | rfl)) (by exact ⟨Nat.zero_le _,allTo1_zero⟩) ?_
 intro i a w hok0 h
 refine wp_seq (wp_seq ?_)
 refine at_regq [] { ts:=[0,2,3,7],os:=[] } [] gamOK hT h (by kernel_rfl) trivial fun a w h=>then_normal ?_
 refine at_test (decide (((i:Nat):Int) < ((List.length x0:Nat):Int))) h (by kernel_rfl) (fun h1=>?_) (fun h1=>?_)
 ·replace h1 : ((i : Nat) : Int) < ((List.length x0 : Nat) : Int) := of_decide_eq_true h1
  refine wp_skip (then_normal (wp_seq (wp_block (wp_seq ?_))))
  rcases Bool.eq_false_or_eq_true (!(validV (x0.getD i []))) with h2 | h2
  ·have hzh2 : (validV (x0.getD i [])) = false := notT h2
   refine at_anyq [{},{},{},{},{},{ hint:=some (aB true) },{},{},{},{},{},{},{},{},{},{},{},{}] { ts:=[0,2,3,17,18,19,20,21,22,23,24,25,26,27],os:=[] } [(0:Int)≤((i:Nat):Int)∧((i:Nat):Int) < ((List.length x0:Nat):Int),Q_spec_IsValidVector (x0.getD i []),(AV.p (.c (.v (.bool (!(validV (x0.getD i []))))))=AV.p (.c (.v (.bool true))))] gamOK hT mixed h (by kernel_rfl) ⟨(by refine ⟨?_,?_⟩<;>(first | omega | (simp only [lsA];omega) | (simp<;>omega))),(by exact (Sh.fit_getD hf0 i)),hint_bool (h2),trivial⟩ fun a w h=>then_normal ?_
   refine at_test true h (by kernel_rfl) (fun hh=>?_) (fun hh=>nomatch hh)
   refine wp_seq ?_
   refine at_regq [] { ts:=[0,2,3,17,18,19,20,21,22,23,24,25,26],os:=[] } [] gamOK hT h (by kernel_rfl) trivial fun a w h=>then_normal (wp_ret (in_ret (then_ret ?_)))
   have hs3:(List.all x0 (fun r=>validV r && decide (List.length r=List.length (x0.getD 0 []))))=false:=by exact all_at (z:=[]) (i:=i) (by omega) (by (show ((validV _) && _)=false;rw [Bool.and_eq_false_iff];first | (left;assumption) | (right;exact decide_eq_false (by omega))))
   refine then_ret (in_ret (then_ret ?_))
   exact at_return (false,()) [] h (by kernel_rfl) trivial (congrArg (fun z=>(z,())) (show (false)=validM x0 from by first | rfl | (unfold validM;rw [if_neg (neT hs3)];done) | (unfold validM;simp_all)))
  ·have hzh2 : (validV (x0.getD i [])) = true := notF h2
   have hvh2:=validV_t (notF h2)
   refine at_anyq [{},{},{},{},{},{ hint:=some (aB false) },{},{},{},{},{},{},{},{},{},{},{},{}] { ts:=[0,2,3,17,18,19,20,21,22,23,24,25,26,27],os:=[] } [(0:Int)≤((i:Nat):Int)∧((i:Nat):Int) < ((List.length x0:Nat):Int),Q_spec_IsValidVector (x0.getD i []),(AV.p (.c (.v (.bool (!(validV (x0.getD i []))))))=AV.p (.c (.v (.bool false)))),(0:Int)≤((i:Nat):Int)∧((i:Nat):Int) < ((List.length x0:Nat):Int),(0:Int)≤0∧0 < ((List.length x0:Nat):Int)] gamOK hT mixed h (by kernel_rfl) ⟨(by refine ⟨?_,?_⟩<;>(first | omega | (simp only [lsA];omega) | (simp<;>omega))),(by exact (Sh.fit_getD hf0 i)),hint_bool (h2),(by refine ⟨?_,?_⟩<;>(first | omega | (simp only [lsA];omega) | (simp<;>omega))),(by refine ⟨?_,?_⟩<;>(first | omega | (simp only [lsA];omega) | (simp<;>omega))),trivial⟩ fun a w h=>then_normal ?_
   refine at_test (!decide (((List.length (x0.getD i []):Nat):Int)=((List.length (x0.getD 0 []):Nat):Int))) h (by kernel_rfl) (fun h4=>?_) (fun h4=>?_)
   ·replace h4 : ¬ (((List.length (x0.getD i []) : Nat) : Int) = ((List.length (x0.getD 0 []) : Nat) : Int)) := of_decide_eq_false (notT h4)
    refine wp_seq ?_
    refine at_regq [] { ts:=[0,2,3,17,18,19,20,21,22,23,24,25,26],os:=[] } [] gamOK hT h (by kernel_rfl) trivial fun a w h=>then_normal (wp_ret (in_ret (then_ret ?_)))
    have hs5:(List.all x0 (fun r=>validV r && decide (List.length r=List.length (x0.getD 0 []))))=false:=by exact all_at (z:=[]) (i:=i) (by omega) (by (show ((validV _) && _)=false;rw [Bool.and_eq_false_iff];first | (left;assumption) | (right;exact decide_eq_false (by omega))))
    refine then_ret (in_ret (then_ret ?_))
    exact at_return (false,()) [] h (by kernel_rfl) trivial (congrArg (fun z=>(z,())) (show (false)=validM x0 from by first | rfl | (unfold validM;rw [if_neg (neT hs5)];done) | (unfold validM;simp_all)))
   ·replace h4 : ((List.length (x0.getD i []) : Nat) : Int) = ((List.length (x0.getD 0 []) : Nat) : Int) := of_decide_eq_true (notF h4)
    refine wp_skip (in_normal (then_normal ?_))
    refine at_regq [{},{ nw:=true }] { ts:=[0,2,3,17,18,19,20,21,22,23,24,25,26],os:=[] } [I64 (((i:Nat):Int)+1)] gamOK hT h (by kernel_rfl) ⟨⟨by first | omega | (simp only [lsA];omega) | (simp<;>omega),by first | omega | (simp only [lsA];omega) | (simp<;>omega)⟩,trivial⟩ fun a w h=>?_
    replace h:=at_out (σ':=⟨[(0,aF s22 x0),(2,aB false),(3,aI (((i:Nat):Int)+1))],[]⟩) { ts:=[0,2,3],os:=[] } h (by kernel_rfl)
    exact ⟨i+1,at_eq h (st_congr1 (fun (d0:Int)=>(⟨[(0,aF s22 x0),(2,aB false),(3,aI d0)],[]⟩:St)) (show (((i:Nat):Int)+1:Int)=(((i+1):Nat):Int) from by first | with_reducible rfl | (omega) | rfl)),(by exact ⟨by omega,allTo1_succ hok0.2 (by (show ((validV _) && _)=true;rw [Bool.and_eq_true];exact ⟨by assumption,decide_eq_true (by omega)⟩))⟩),(by omega)⟩
 ·replace h1 : ¬ (((i : Nat) : Int) < ((List.length x0 : Nat) : Int)) := of_decide_eq_false h1
  refine wp_exit (then_exit ?_)
  have hs6:(List.all x0 (fun r=>validV r && decide (List.length r=List.length (x0.getD 0 []))))=true:=by exact all_of (z:=[]) (i:=i) (by omega) hok0.2
  refine then_exit (in_hit (then_normal (wp_seq ?_)))
  refine at_regq [] { ts:=[2],os:=[] } [] gamOK hT h (by kernel_rfl) trivial fun a w h=>then_normal (wp_ret ?_)
  exact at_return (decide (((List.length x0:Nat):Int)≤40),()) [] h (by kernel_rfl) trivial (congrArg (fun z=>(z,())) (show (decide (((List.length x0:Nat):Int)≤40))=validM x0 from by first | rfl | (unfold validM;rw [if_pos hs6];done) | (unfold validM;simp_all)))

def colsOf (x0:(List (List Int))):Int:=(if ((List.length x0:Nat):Int)=0 then 0 else ((List.length (x0.getD 0 []):Nat):Int))
abbrev Q_impl_ColumnsOf:=(fun (x0:(List (List Int)))=>Sh.fit s66 x0)
def S_impl_ColumnsOf:Sum:={ fid:=118,dom:=[s66],cod:=[(.int 3)],dp:=true,fz:=false,pre:=fun x=>Q_impl_ColumnsOf x.1,g:=fun x=>((colsOf x.1),()) }
def S_impl_ColumnsOf_tab:List (Nat×Sum):=[]
theorem S_impl_ColumnsOf_ok:FnOK Try.prog 118 S_impl_ColumnsOf:=by
 refine at_enter 10 (fun x=>⟨[(0,aF s22 x.1)],[]⟩) Try.func118 rfl (by kernel_rfl) (fun x=>rfl) ?_
 rintro w0 Z0 ⟨x0,u⟩ a w
 revert x0
 intro (x0:(List (List Int))) hpre hlens h
 replace hpre:Q_impl_ColumnsOf x0:=hpre
 have hT:TabOK Try.prog S_impl_ColumnsOf_tab:=.nil
 have hf0:Sh.fit s66 x0:=hpre
 have hn0_1:List.length x0≤1073741824:=hf0.1
 refine wp_seq ?_
 refine at_regq [] { ts:=[0,2],os:=[] } [] gamOK hT h (by kernel_rfl) trivial fun a w h=>then_normal (wp_seq (wp_seq ?_))
 refine at_regq [] { ts:=[0,2,5],os:=[] } [] gamOK hT h (by kernel_rfl) trivial fun a w h=>then_normal ?_
 refine at_test (decide (((List.length x0:Nat):Int)=0)) h (by kernel_rfl) (fun h1=>?_) (fun h1=>?_)
 ·replace h1 : ((List.length x0 : Nat) : Int) = 0 := of_decide_eq_true h1
  refine wp_seq ?_
  refine at_regq [] { ts:=[0,2],os:=[] } [] gamOK hT h (by kernel_rfl) trivial fun a w h=>then_normal (wp_ret (then_ret ?_))
  exact at_return (0,()) [] h (by kernel_rfl) trivial (congrArg (fun z=>(z,())) (show (0)=colsOf x0 from by first | rfl | (unfold colsOf;rw [if_pos h1])))
 ·replace h1 : ¬ (((List.length x0 : Nat) : Int) = 0) := of_decide_eq_false h1
  refine wp_skip (then_normal (wp_seq ?_))
  refine at_regq [] { ts:=[2],os:=[] } [(0:Int)≤0∧0 < ((List.length x0:Nat):Int)] gamOK hT h (by kernel_rfl) ⟨(by refine ⟨?_,?_⟩<;>(first | omega | (simp only [lsA];omega) | (simp<;>omega))),trivial⟩ fun a w h=>then_normal (wp_ret ?_)
  exact at_return (((List.length (x0.getD 0 []):Nat):Int),()) [] h (by kernel_rfl) trivial (congrArg (fun z=>(z,())) (show (((List.length (x0.getD 0 []):Nat):Int))=colsOf x0 from by first | rfl | (unfold colsOf;rw [if_neg h1])))

abbrev Q_spec_ColumnsOf:=(fun (x0:(List (List Int)))=>Sh.fit s66 x0)
def S_spec_ColumnsOf:Sum:={ fid:=66,dom:=[s66],cod:=[(.int 3)],dp:=true,fz:=false,pre:=fun x=>Q_spec_ColumnsOf x.1,g:=fun x=>((colsOf x.1),()) }
def S_spec_ColumnsOf_tab:List (Nat×Sum):=[]
theorem S_spec_ColumnsOf_ok:FnOK Try.prog 66 S_spec_ColumnsOf:=by
 refine at_enter 10 (fun x=>⟨[(0,aF s22 x.1)],[]⟩) Try.func66 rfl (by kernel_rfl) (fun x=>rfl) ?_
 rintro w0 Z0 ⟨x0,u⟩ a w
 revert x0
 intro (x0:(List (List Int))) hpre hlens h
 replace hpre:Q_spec_ColumnsOf x0:=hpre
 have hT:TabOK Try.prog S_spec_ColumnsOf_tab:=.nil
 have hf0:Sh.fit s66 x0:=hpre
 have hn0_1:List.length x0≤1073741824:=hf0.1
 refine wp_seq ?_
 refine at_regq [] { ts:=[0,2],os:=[] } [] gamOK hT h (by kernel_rfl) trivial fun a w h=>then_normal (wp_seq (wp_seq ?_))
 refine at_regq [] { ts:=[0,2,5],os:=[] } [] gamOK hT h (by kernel_rfl) trivial fun a w h=>then_normal ?_
 refine at_test (decide (((List.length x0:Nat):Int)=0)) h (by kernel_rfl) (fun h1=>?_) (fun h1=>?_)
 ·replace h1 : ((List.length x0 : Nat) : Int) = 0 := of_decide_eq_true h1
  refine wp_seq ?_
  refine at_regq [] { ts:=[0,2],os:=[] } [] gamOK hT h (by kernel_rfl) trivial fun a w h=>then_normal (wp_ret (then_ret ?_))
  exact at_return (0,()) [] h (by kernel_rfl) trivial (congrArg (fun z=>(z,())) (show (0)=colsOf x0 from by first | rfl | (unfold colsOf;rw [if_pos h1];done) | (unfold colsOf;simp_all)))
 ·replace h1 : ¬ (((List.length x0 : Nat) : Int) = 0) := of_decide_eq_false h1
  refine wp_skip (then_normal (wp_seq ?_))
  refine at_regq [] { ts:=[2],os:=[] } [(0:Int)≤0∧0 < ((List.length x0:Nat):Int)] gamOK hT h (by kernel_rfl) ⟨(by refine ⟨?_,?_⟩<;>(first | omega | (simp only [lsA];omega) | (simp<;>omega))),trivial⟩ fun a w h=>then_normal (wp_ret ?_)
  exact at_return (((List.length (x0.getD 0 []):Nat):Int),()) [] h (by kernel_rfl) trivial (congrArg (fun z=>(z,())) (show (((List.length (x0.getD 0 []):Nat):Int))=colsOf x0 from by first | rfl | (unfold colsOf;rw [if_neg h1];done) | (unfold colsOf;simp_all)))

def isRed (x0:(List (List Int))):Bool:=(if (validM x0)=true then (if (allN (redB x0) (List.length x0))=true then true else false) else false)
abbrev Q_impl_IsReduced:=(fun (x0:(List (List Int)))=>Sh.fit s66 x0)
def S_impl_IsReduced:Sum:={ fid:=141,dom:=[s66],cod:=[(.bool 4)],dp:=true,fz:=false,pre:=fun x=>Q_impl_IsReduced x.1,g:=fun x=>((isRed x.1),()) }
def S_impl_IsReduced_tab:List (Nat×Sum):=[(154,S_impl_IsValidMatrix),(116,S_impl_LeadingIndex)]
theorem S_impl_IsReduced_ok:FnOK Try.prog 141 S_impl_IsReduced:=by
 refine at_enter 51 (fun x=>⟨[(0,aF s22 x.1)],[]⟩) Try.func141 rfl (by kernel_rfl) (fun x=>rfl) ?_
 rintro w0 Z0 ⟨x0,u⟩ a w
 revert x0
 intro (x0:(List (List Int))) hpre hlens h
 replace hpre:Q_impl_IsReduced x0:=hpre
 have hT:TabOK Try.prog S_impl_IsReduced_tab:=(.cons S_impl_IsValidMatrix_ok (.cons S_impl_LeadingIndex_ok .nil))
 have hf0:Sh.fit s66 x0:=hpre
 have hn0_1:List.length x0≤1073741824:=hf0.1
 refine wp_seq ?_
 refine at_regq [] { ts:=[0,2],os:=[] } [] gamOK hT h (by kernel_rfl) trivial fun a w h=>then_normal (wp_seq (wp_seq ?_))
 refine at_regq [] { ts:=[0,2,11],os:=[] } [Q_impl_IsValidMatrix x0] gamOK hT h (by kernel_rfl) ⟨(by exact hf0),trivial⟩ fun a w h=>then_normal ?_
 refine at_test (!(validM x0)) h (by kernel_rfl) (fun h1=>?_) (fun h1=>?_)
 ·replace h1 : (validM x0) = false := notT h1
  refine wp_seq ?_
  refine at_regq [] { ts:=[0,2],os:=[] } [] gamOK hT h (by kernel_rfl) trivial fun a w h=>then_normal (wp_ret (then_ret ?_))
  exact at_return (false,()) [] h (by kernel_rfl) trivial (congrArg (fun z=>(z,())) (show (false)=isRed x0 from by first | rfl | (unfold isRed;rw [if_neg (neT h1)])))
 ·replace h1 : (validM x0) = true := notF h1
  have hvh1:=validM_t h1
  refine wp_skip (then_normal (wp_seq ?_))
  refine at_regq [] { ts:=[0,2,3],os:=[] } [] gamOK hT h (by kernel_rfl) trivial fun a w h=>then_normal (wp_seq (wp_seq ?_))
  refine at_regq [] { ts:=[0,2,3,12,13,14],os:=[] } [] gamOK hT h (by kernel_rfl) trivial fun a w h=>then_normal (wp_block ?_)
  replace h:=at_out (σ':=⟨[(0,aF s22 x0),(2,aB false),(3,aI (-1)),(12,aF s22 x0),(13,aI ((List.length x0:Nat):Int)),(14,aI 0)],[]⟩) { ts:=[0,2,3,12,13,14],os:=[] } h (by kernel_rfl)
  refine at_loop (fun i:Nat=>(⟨[(0,aF s22 x0),(2,aB false),(3,aI (prevL x0 i)),(12,aF s22 x0),(13,aI ((List.length x0:Nat):Int)),(14,aI ((i:Nat):Int))],[]⟩:St)) (fun i=>(i≤(List.length x0)∧allN (redB x0) i=true)) (fun i=>(List.length x0) - i) (0) h (st_congr2 (fun (d0:Int) (d1:Int)=>(⟨[(0,aF s22 x0),(2,aB false),(3,aI d0),(12,aF s22 x0),(13,aI ((List.length x0:Nat):Int)),(14,aI d1)],[]⟩:St)) (show ((-1):Int)=(prevL x0 (0)) from by first | with_reducible rfl | (rfl) | rfl) (show (0:Int)=(((0):Nat):Int) from by first | with_reducible rfl | (rfl) | rfl)) (by exact ⟨Nat.zero_le _,rfl⟩) ?_
  intro i a w hok0 h
  have hpv:=prevL_bd x0 i
  refine wp_seq ?_
  refine at_regq [] { ts:=[0,2,3,12,13,14,15],os:=[] } [] gamOK hT h (by kernel_rfl) trivial fun a w h=>then_normal (wp_seq ?_)
  refine at_test (decide (((i:Nat):Int) < ((List.length x0:Nat):Int))) h (by kernel_rfl) (fun h2=>?_) (fun h2=>?_)
  ·replace h2 : ((i : Nat) : Int) < ((List.length x0 : Nat) : Int) := of_decide_eq_true h2
   have hvi:=validM_at (m:=x0) (by assumption) i
   have hld:=LA.leadS_bd (x0.getD i [])
   refine wp_skip (then_normal (wp_seq (wp_block (wp_seq ?_))))
   refine at_regq [] { ts:=[0,2,3,4,5,12,13,14],os:=[] } [(0:Int)≤((i:Nat):Int)∧((i:Nat):Int) < ((List.length x0:Nat):Int)] gamOK hT h (by kernel_rfl) ⟨(by refine ⟨?_,?_⟩<;>(first | omega | (simp only [lsA];omega) | (simp<;>omega))),trivial⟩ fun a w h=>then_normal (wp_seq ?_)
   refine at_regq [] { ts:=[0,2,3,4,5,6,12,13,14],os:=[] } [Q_impl_LeadingIndex (x0.getD i [])] gamOK hT h (by kernel_rfl) ⟨(by exact (Sh.fit_getD hf0 i)),trivial⟩ fun a w h=>then_normal (wp_seq (wp_seq ?_))
   by_cases h3:(LA.leadS (x0.getD i []))≤(prevL x0 i)
   ·refine at_regq [{}, {}, { hint := some (aB true) }] { ts := [0, 2, 3, 4, 6, 12, 13, 14, 25, 26, 27, 28, 29, 30], os := [] } [(AV.p (.c (.v (.bool (decide ((LA.leadS (x0.getD i [])) ≤ (prevL x0 i)))))) = AV.p (.c (.v (.bool true))))] gamOK hT h (by kernel_rfl) ⟨hint_bool (decide_eq_true h3), trivial⟩ fun a w h => then_normal ?_
    refine at_test true h (by kernel_rfl) (fun hh=>?_) (fun hh=>nomatch hh)
    refine wp_seq ?_
    refine at_regq [] { ts:=[0,2,3,4,6,12,13,14,25,26,27,28,29],os:=[] } [] gamOK hT h (by kernel_rfl) trivial fun a w h=>then_normal (wp_ret (then_ret (in_ret (then_ret ?_))))
    have hs4:(allN (redB x0) (List.length x0))=false:=by exact allN_at (i:=i) (by omega) (by first | exact redB_f1 (by omega) | exact redB_f2 (by omega) | exact redB_f3 (by assumption))
    refine then_ret (in_ret (then_ret ?_))
    exact at_return (false,()) [] h (by kernel_rfl) trivial (congrArg (fun z=>(z,())) (show (false)=isRed x0 from by first | rfl | (unfold isRed;rw [if_pos h1,if_neg (neT hs4)])))
   ·refine at_regq [{}, {}, { hint := some (aB false) }] { ts := [0, 2, 3, 4, 6, 12, 13, 14, 25, 26, 27, 28, 29, 30], os := [] } [(AV.p (.c (.v (.bool (decide ((LA.leadS (x0.getD i [])) ≤ (prevL x0 i)))))) = AV.p (.c (.v (.bool false)))), (0 : Int) ≤ (LA.leadS (x0.getD i [])) ∧ (LA.leadS (x0.getD i [])) < ((List.length (x0.getD i []) : Nat) : Int)] gamOK hT h (by kernel_rfl) ⟨hint_bool (decide_eq_false h3), (by refine ⟨?_, ?_⟩ <;> ((have hL0 := (show List.length (x0.getD i []) ≤ 1073741824 from ((Sh.fit_getD hf0 i)).1); first | omega | (simp only [lsA]; omega) | (simp <;> omega)))), trivial⟩ fun a w h => then_normal ?_
    refine at_test (!decide (((x0.getD i []).getD (((LA.leadS (x0.getD i []))).toNat) 0)=1)) h (by kernel_rfl) (fun h5=>?_) (fun h5=>?_)
    ·replace h5 : ¬ (((x0.getD i []).getD (((LA.leadS (x0.getD i []))).toNat) 0) = 1) := of_decide_eq_false (notT h5)
     refine wp_seq ?_
     refine at_regq [] { ts:=[0,2,3,4,6,12,13,14,25,26,27,28,29],os:=[] } [] gamOK hT h (by kernel_rfl) trivial fun a w h=>then_normal (wp_ret (then_ret (in_ret (then_ret ?_))))
     have hs6:(allN (redB x0) (List.length x0))=false:=by exact allN_at (i:=i) (by omega) (by first | exact redB_f1 (by omega) | exact redB_f2 (by omega) | exact redB_f3 (by assumption))
     refine then_ret (in_ret (then_ret ?_))
     exact at_return (false,()) [] h (by kernel_rfl) trivial (congrArg (fun z=>(z,())) (show (false)=isRed x0 from by first | rfl | (unfold isRed;rw [if_pos h1,if_neg (neT hs6)])))
    ·replace h5 : ((x0.getD i []).getD (((LA.leadS (x0.getD i []))).toNat) 0) = 1 := of_decide_eq_true (notF h5)
     refine wp_skip (then_normal (wp_seq (wp_seq ?_)))
     refine at_regq [] { ts:=[0,2,3,4,6,12,13,14,25,26,27,28,29,31,32,33],os:=[] } [] gamOK hT h (by kernel_rfl) trivial fun a w h=>then_normal (wp_block ?_)
     replace h:=at_out (σ':=⟨[(0,aF s22 x0),(2,aB false),(3,aI (prevL x0 i)),(4,aI ((i:Nat):Int)),(6,aI (LA.leadS (x0.getD i []))),(12,aF s22 x0),(13,aI ((List.length x0:Nat):Int)),(14,aI ((i:Nat):Int)),(25,aF (.int 3) (x0.getD i [])),(26,aI (LA.leadS (x0.getD i []))),(27,aR (.int 3) ((x0.getD i []).getD (((LA.leadS (x0.getD i []))).toNat) 0) 0),(28,aI ((x0.getD i []).getD (((LA.leadS (x0.getD i []))).toNat) 0)),(29,aB (!decide (((x0.getD i []).getD (((LA.leadS (x0.getD i []))).toNat) 0)=1))),(31,aF s22 x0),(32,aI ((List.length x0:Nat):Int)),(33,aI 0)],[]⟩) { ts:=[0,2,3,4,6,12,13,14,25,26,27,28,29,31,32,33],os:=[] } h (by kernel_rfl)
     refine at_loop (fun k:Nat=>(⟨[(0,aF s22 x0),(2,aB false),(3,aI (prevL x0 i)),(4,aI ((i:Nat):Int)),(6,aI (LA.leadS (x0.getD i []))),(12,aF s22 x0),(13,aI ((List.length x0:Nat):Int)),(14,aI ((i:Nat):Int)),(25,aF (.int 3) (x0.getD i [])),(26,aI (LA.leadS (x0.getD i []))),(27,aR (.int 3) ((x0.getD i []).getD (((LA.leadS (x0.getD i []))).toNat) 0) 0),(28,aI ((x0.getD i []).getD (((LA.leadS (x0.getD i []))).toNat) 0)),(29,aB (!decide (((x0.getD i []).getD (((LA.leadS (x0.getD i []))).toNat) 0)=1))),(31,aF s22 x0),(32,aI ((List.length x0:Nat):Int)),(33,aI ((k:Nat):Int))],[]⟩:St)) (fun k=>(k≤(List.length x0)∧allN (clrB x0 i) k=true)) (fun k=>(List.length x0) - k) (0) h (st_congr1 (fun (d0:Int)=>(⟨[(0,aF s22 x0),(2,aB false),(3,aI (prevL x0 i)),(4,aI ((i:Nat):Int)),(6,aI (LA.leadS (x0.getD i []))),(12,aF s22 x0),(13,aI ((List.length x0:Nat):Int)),(14,aI ((i:Nat):Int)),(25,aF (.int 3) (x0.getD i [])),(26,aI (LA.leadS (x0.getD i []))),(27,aR (.int 3) ((x0.getD i []).getD (((LA.leadS (x0.getD i []))).toNat) 0) 0),(28,aI ((x0.getD i []).getD (((LA.leadS (x0.getD i []))).toNat) 0)),(29,aB (!decide (((x0.getD i []).getD (((LA.leadS (x0.getD i []))).toNat) 0)=1))),(31,aF s22 x0),(32,aI ((List.length x0:Nat):Int)),(33,aI d0)],[]⟩:St)) (show (0:Int)=(((0):Nat):Int) from by first | with_reducible rfl | (rfl) | rfl)) (by exact ⟨Nat.zero_le _,rfl⟩) ?_
     intro k a w hok1 h
     refine wp_seq ?_
     refine at_regq [] { ts:=[0,2,3,4,6,12,13,14,25,26,27,28,29,31,32,33,34],os:=[] } [] gamOK hT h (by kernel_rfl) trivial fun a w h=>then_normal (wp_seq ?_)
     refine at_test (decide (((k:Nat):Int) < ((List.length x0:Nat):Int))) h (by kernel_rfl) (fun h7=>?_) (fun h7=>?_)
     ·replace h7 : ((k : Nat) : Int) < ((List.length x0 : Nat) : Int) := of_decide_eq_true h7
      have hvi:=validM_at (m:=x0) (by assumption) i
      have hld:=LA.leadS_bd (x0.getD i [])
      have hvk:=validM_at (m:=x0) (by assumption) k
      refine wp_skip (then_normal (wp_seq (wp_block (wp_seq ?_))))
      refine at_regq [] { ts:=[0,2,3,4,6,7,8,12,13,14,25,26,27,28,29,31,32,33],os:=[] } [(0:Int)≤((k:Nat):Int)∧((k:Nat):Int) < ((List.length x0:Nat):Int)] gamOK hT h (by kernel_rfl) ⟨(by refine ⟨?_,?_⟩<;>(first | omega | (simp only [lsA];omega) | (simp<;>omega))),trivial⟩ fun a w h=>then_normal (wp_seq ?_)
      by_cases h8:((k:Nat):Int)=((i:Nat):Int)
      ·refine at_regq [{}, {}, { hint := some (aB false) }] { ts := [0, 2, 3, 4, 6, 12, 13, 14, 25, 26, 27, 28, 29, 31, 32, 33, 42, 43, 44, 45, 46, 47], os := [] } [(AV.p (.c (.v (.bool (!decide (((k : Nat) : Int) = ((i : Nat) : Int)))))) = AV.p (.c (.v (.bool false))))] gamOK hT h (by kernel_rfl) ⟨hint_bool (ndT h8), trivial⟩ fun a w h => then_normal ?_
       refine at_test false h (by kernel_rfl) (fun hh=>nomatch hh) (fun hh=>?_)
       refine wp_skip (in_normal (then_normal ?_))
       refine at_regq [{ nw:=true }] { ts:=[0,2,3,4,6,12,13,14,25,26,27,28,29,31,32,33,42,43,44,45,46],os:=[] } [I64 (((k:Nat):Int)+1)] gamOK hT h (by kernel_rfl) ⟨⟨by first | omega | (simp only [lsA];omega) | (simp<;>omega),by first | omega | (simp only [lsA];omega) | (simp<;>omega)⟩,trivial⟩ fun a w h=>?_
       replace h:=at_out (σ':=⟨[(0,aF s22 x0),(2,aB false),(3,aI (prevL x0 i)),(4,aI ((i:Nat):Int)),(6,aI (LA.leadS (x0.getD i []))),(12,aF s22 x0),(13,aI ((List.length x0:Nat):Int)),(14,aI ((i:Nat):Int)),(25,aF (.int 3) (x0.getD i [])),(26,aI (LA.leadS (x0.getD i []))),(27,aR (.int 3) ((x0.getD i []).getD (((LA.leadS (x0.getD i []))).toNat) 0) 0),(28,aI ((x0.getD i []).getD (((LA.leadS (x0.getD i []))).toNat) 0)),(29,aB (!decide (((x0.getD i []).getD (((LA.leadS (x0.getD i []))).toNat) 0)=1))),(31,aF s22 x0),(32,aI ((List.length x0:Nat):Int)),(33,aI (((k:Nat):Int)+1))],[]⟩) { ts:=[0,2,3,4,6,12,13,14,25,26,27,28,29,31,32,33],os:=[] } h (by kernel_rfl)
       exact ⟨k+1,at_eq h (st_congr1 (fun (d0:Int)=>(⟨[(0,aF s22 x0),(2,aB false),(3,aI (prevL x0 i)),(4,aI ((i:Nat):Int)),(6,aI (LA.leadS (x0.getD i []))),(12,aF s22 x0),(13,aI ((List.length x0:Nat):Int)),(14,aI ((i:Nat):Int)),(25,aF (.int 3) (x0.getD i [])),(26,aI (LA.leadS (x0.getD i []))),(27,aR (.int 3) ((x0.getD i []).getD (((LA.leadS (x0.getD i []))).toNat) 0) 0),(28,aI ((x0.getD i []).getD (((LA.leadS (x0.getD i []))).toNat) 0)),(29,aB (!decide (((x0.getD i []).getD (((LA.leadS (x0.getD i []))).toNat) 0)=1))),(31,aF s22 x0),(32,aI ((List.length x0:Nat):Int)),(33,aI d0)],[]⟩:St)) (show (((k:Nat):Int)+1:Int)=(((k+1):Nat):Int) from by first | with_reducible rfl | (omega) | rfl)),(by exact ⟨by omega,allN_succ hok1.2 (by exact clrB_t (by omega))⟩),(by omega)⟩
      ·refine at_regq [{}, {}, { hint := some (aB true) }] { ts := [0, 2, 3, 4, 6, 12, 13, 14, 25, 26, 27, 28, 29, 31, 32, 33, 42, 43, 44, 45, 46, 47], os := [] } [(AV.p (.c (.v (.bool (!decide (((k : Nat) : Int) = ((i : Nat) : Int)))))) = AV.p (.c (.v (.bool true)))), (0 : Int) ≤ (LA.leadS (x0.getD i [])) ∧ (LA.leadS (x0.getD i [])) < ((List.length (x0.getD k []) : Nat) : Int)] gamOK hT h (by kernel_rfl) ⟨hint_bool (ndF h8), (by refine ⟨?_, ?_⟩ <;> ((have hL0 := (show List.length (x0.getD k []) ≤ 1073741824 from ((Sh.fit_getD hf0 k)).1); first | omega | (simp only [lsA]; omega) | (simp <;> omega)))), trivial⟩ fun a w h => then_normal ?_
       refine at_test (!decide (((x0.getD k []).getD (((LA.leadS (x0.getD i []))).toNat) 0)=0)) h (by kernel_rfl) (fun h9=>?_) (fun h9=>?_)
       ·replace h9 : ¬ (((x0.getD k []).getD (((LA.leadS (x0.getD i []))).toNat) 0) = 0) := of_decide_eq_false (notT h9)
        refine wp_seq ?_
        refine at_regq [] { ts:=[0,2,3,4,6,12,13,14,25,26,27,28,29,31,32,33,42,43,44,45,46],os:=[] } [] gamOK hT h (by kernel_rfl) trivial fun a w h=>then_normal (wp_ret (in_ret (then_ret ?_)))
        have hs10:(allN (clrB x0 i) (List.length x0))=false:=by exact allN_at (i:=k) (by omega) (by exact clrB_f (by omega) (by omega))
        refine then_ret (in_ret (then_ret (in_ret (then_ret ?_))))
        have hs11:(allN (redB x0) (List.length x0))=false:=by exact allN_at (i:=i) (by omega) (by first | exact redB_f1 (by omega) | exact redB_f2 (by omega) | exact redB_f3 (by assumption))
        refine then_ret (in_ret (then_ret ?_))
        exact at_return (false,()) [] h (by kernel_rfl) trivial (congrArg (fun z=>(z,())) (show (false)=isRed x0 from by first | rfl | (unfold isRed;rw [if_pos h1,if_neg (neT hs11)])))
       ·replace h9 : ((x0.getD k []).getD (((LA.leadS (x0.getD i []))).toNat) 0) = 0 := of_decide_eq_true (notF h9)
        refine wp_skip (in_normal (then_normal ?_))
        refine at_regq [{ nw:=true }] { ts:=[0,2,3,4,6,12,13,14,25,26,27,28,29,31,32,33,42,43,44,45,46],os:=[] } [I64 (((k:Nat):Int)+1)] gamOK hT h (by kernel_rfl) ⟨⟨by first | omega | (simp only [lsA];omega) | (simp<;>omega),by first | omega | (simp only [lsA];omega) | (simp<;>omega)⟩,trivial⟩ fun a w h=>?_
        replace h:=at_out (σ':=⟨[(0,aF s22 x0),(2,aB false),(3,aI (prevL x0 i)),(4,aI ((i:Nat):Int)),(6,aI (LA.leadS (x0.getD i []))),(12,aF s22 x0),(13,aI ((List.length x0:Nat):Int)),(14,aI ((i:Nat):Int)),(25,aF (.int 3) (x0.getD i [])),(26,aI (LA.leadS (x0.getD i []))),(27,aR (.int 3) ((x0.getD i []).getD (((LA.leadS (x0.getD i []))).toNat) 0) 0),(28,aI ((x0.getD i []).getD (((LA.leadS (x0.getD i []))).toNat) 0)),(29,aB (!decide (((x0.getD i []).getD (((LA.leadS (x0.getD i []))).toNat) 0)=1))),(31,aF s22 x0),(32,aI ((List.length x0:Nat):Int)),(33,aI (((k:Nat):Int)+1))],[]⟩) { ts:=[0,2,3,4,6,12,13,14,25,26,27,28,29,31,32,33],os:=[] } h (by kernel_rfl)
        exact ⟨k+1,at_eq h (st_congr1 (fun (d0:Int)=>(⟨[(0,aF s22 x0),(2,aB false),(3,aI (prevL x0 i)),(4,aI ((i:Nat):Int)),(6,aI (LA.leadS (x0.getD i []))),(12,aF s22 x0),(13,aI ((List.length x0:Nat):Int)),(14,aI ((i:Nat):Int)),(25,aF (.int 3) (x0.getD i [])),(26,aI (LA.leadS (x0.getD i []))),(27,aR (.int 3) ((x0.getD i []).getD (((LA.leadS (x0.getD i []))).toNat) 0) 0),(28,aI ((x0.getD i []).getD (((LA.leadS (x0.getD i []))).toNat) 0)),(29,aB (!decide (((x0.getD i []).getD (((LA.leadS (x0.getD i []))).toNat) 0)=1))),(31,aF s22 x0),(32,aI ((List.length x0:Nat):Int)),(33,aI d0)],[]⟩:St)) (show (((k:Nat):Int)+1:Int)=(((k+1):Nat):Int) from by first | with_reducible rfl | (omega) | rfl)),(by exact ⟨by omega,allN_succ hok1.2 (by exact clrB_t (by omega))⟩),(by omega)⟩
     ·replace h7 : ¬ (((k : Nat) : Int) < ((List.length x0 : Nat) : Int)) := of_decide_eq_false h7
      refine wp_exit (then_exit ?_)
      have hs12:(allN (clrB x0 i) (List.length x0))=true:=by exact allN_eq (by omega) hok1.1 hok1.2
      refine then_exit (in_hit (then_normal ?_))
      refine at_regq [] { ts:=[0,2,3,12,13,14,25,26,27,28,29],os:=[] } [] gamOK hT h (by kernel_rfl) trivial fun a w h=>in_normal (then_normal ?_)
      refine at_regq [{ nw:=true }] { ts:=[0,2,3,12,13,14,25,26,27,28,29],os:=[] } [I64 (((i:Nat):Int)+1)] gamOK hT h (by kernel_rfl) ⟨⟨by first | omega | (simp only [lsA];omega) | (simp<;>omega),by first | omega | (simp only [lsA];omega) | (simp<;>omega)⟩,trivial⟩ fun a w h=>?_
      replace h:=at_out (σ':=⟨[(0,aF s22 x0),(2,aB false),(3,aI (LA.leadS (x0.getD i []))),(12,aF s22 x0),(13,aI ((List.length x0:Nat):Int)),(14,aI (((i:Nat):Int)+1))],[]⟩) { ts:=[0,2,3,12,13,14],os:=[] } h (by kernel_rfl)
      exact ⟨i+1,at_eq h (st_congr2 (fun (d0:Int) (d1:Int)=>(⟨[(0,aF s22 x0),(2,aB false),(3,aI d0),(12,aF s22 x0),(13,aI ((List.length x0:Nat):Int)),(14,aI d1)],[]⟩:St)) (show ((LA.leadS (x0.getD i [])):Int)=(prevL x0 (i+1)) from by first | with_reducible rfl | (rfl) | rfl) (show (((i:Nat):Int)+1:Int)=(((i+1):Nat):Int) from by first | with_reducible rfl | (omega) | rfl)),(by exact ⟨by omega,allN_succ hok0.2 (by exact redB_t (by omega) (by omega) (by assumption))⟩),(by omega)⟩
  ·replace h2 : ¬ (((i : Nat) : Int) < ((List.length x0 : Nat) : Int)) := of_decide_eq_false h2
   refine wp_exit (then_exit ?_)
   have hs13:(allN (redB x0) (List.length x0))=true:=by exact allN_eq (by omega) hok0.1 hok0.2
   refine then_exit (in_hit (then_normal (wp_seq ?_)))
   refine at_regq [] { ts:=[2],os:=[] } [] gamOK hT h (by kernel_rfl) trivial fun a w h=>then_normal (wp_ret ?_)
   exact at_return (true,()) [] h (by kernel_rfl) trivial (congrArg (fun z=>(z,())) (show (true)=isRed x0 from by first | rfl | (unfold isRed;rw [if_pos h1,if_pos hs13])))

theorem fitV {n:Nat} {v:List Int} (h:LA.VokB n v) (hn:n≤40):Sh.fit s22 v:=Sh.fit_len rfl (by have:=h.1;omega)
theorem fitM {n:Nat} {m:List (List Int)} (h:∀ r∈m,LA.VokB n r) (hn:n≤40) (hm:List.length m≤1073741824):Sh.fit s66 m:=⟨hm,fun r hr=>fitV (h r hr) hn⟩
theorem validV_of {n:Nat} {v:List Int} (h:LA.VokB n v) (hn:n≤40):validV v=true:=by
 unfold validV
 rw [if_pos (show List.all v isEl=true from List.all_eq_true.2 fun x hx=>inR_true (h.2 x hx))]
 exact decide_eq_true (by have:=h.1;omega)
theorem addV_L {n:Nat} {a b:List Int} {k:Int} (ha:LA.VokB n a) (hb:LA.VokB n b) (hn:n≤40) (hk:0≤k∧k≤1018):addV a b k=LA.addS a b k:=addV_ok (validV_of ha hn) (validV_of hb hn) (by rw [ha.1,hb.1]) hk
def l7P (m:List (List Int)) (n:Int):Prop:=∃ w:Nat,(∀ r∈m,LA.VokB w r)∧w≤40∧0≤n∧n≤(w:Int)
theorem l7_lead {w k p:Nat} {R:List (List Int)} (h:∀ r∈R,LA.VokB w r) (hw:w≤40) (hp:p < R.length) (hz:LA.ent R p k≠0):scaleV (R.getD p []) (invF ((R.getD p []).getD k 0))=LA.gjLead R p k:=by
 have hv:=h _ (LA.getD_in hp)
 rw [scaleV_ok (validV_of hv hw) (invF_bd _),invF_el (hv.rng k)];rfl
theorem l7_cols {m:List (List Int)}:(colsOf m).toNat=List.length (m.getD 0 []):=by
 unfold colsOf
 split
 ·rename_i h;rw [show m=[] from List.eq_nil_of_length_eq_zero (by omega)];rfl
 ·exact Int.toNat_natCast _
theorem l7_w {m:List (List Int)} (h:validM m=true):List.length (m.getD 0 [])≤40:=by
 rcases Nat.eq_zero_or_pos m.length with h0 | h0
 ·rw [List.eq_nil_of_length_eq_zero h0];decide
 ·exact (validV_t ((validM_t h).2 _ (getD_mem h0)).1).1
theorem l7P_of {m:List (List Int)} (h:validM m=true):l7P m (colsOf m):=by
 have hc:=l7_cols (m:=m)
 refine ⟨List.length (m.getD 0 []),validM_ok h,l7_w h,?_,?_⟩
 ·unfold colsOf;split<;>omega
 ·rw [← hc]; have : 0 ≤ colsOf m := by unfold colsOf; split <;> omega
  omega
theorem isRed_iff {n:Nat} {m:List (List Int)} (h:∀ r∈m,LA.VokB n r) (hn:n≤40):(validM m=true∧allN (redB m) (List.length m)=true)↔LA.RedL n m:=by
 constructor
 ·rintro ⟨h1,h2⟩;exact (red_all h).1 h2
 ·intro hr
  refine ⟨?_,(red_all h).2 hr⟩
  unfold validM
  have hl:=hr.len
  rw [if_pos (List.all_eq_true.2 fun r hm=>by
   rw [Bool.and_eq_true]
   refine ⟨validV_of (h r hm) hn,decide_eq_true ?_⟩
   have h0:0 < m.length:=List.length_pos_of_mem hm
   rw [(h r hm).1,(h _ (LA.getD_in h0)).1])]
  exact decide_eq_true (by omega)
def D_spec_l7Reduce:=(fun (m:List (List Int)) (n:Int)=>LA.gjS m n.toNat)
abbrev Q_spec_l7Reduce:=(fun (x0:(List (List Int))) (x1:Int)=>Sh.fit s66 x0∧l7P x0 x1)
def S_spec_l7Reduce:Sum:={ fid:=155,dom:=[s66,(.int 3)],cod:=[s66],dp:=false,fz:=false,pre:=fun x=>Q_spec_l7Reduce x.1 x.2.1,g:=fun x=>((D_spec_l7Reduce x.1 x.2.1),()) }
def S_spec_l7Reduce_tab:List (Nat×Sum):=[(103,S_spec_l6Copy),(162,S_spec_InverseField),(161,S_spec_ScaleVector),(163,S_spec_AddScaled)]
theorem S_spec_l7Reduce_ok:FnOK Try.prog 155 S_spec_l7Reduce:=by
 refine at_enter 110 (fun x=>⟨[(0,aF s22 x.1),(1,aI x.2.1)],[]⟩) Try.func155 rfl (by kernel_rfl) (fun x=>rfl) ?_
 rintro w0 Z0 ⟨x0,x1,u⟩ a w
 revert x0 x1
 intro (x0:(List (List Int))) (x1:Int) hpre hlens h
 replace hpre:Q_spec_l7Reduce x0 x1:=hpre
 have hT:TabOK Try.prog S_spec_l7Reduce_tab:=(.cons S_spec_l6Copy_ok (.cons S_spec_InverseField_ok (.cons S_spec_ScaleVector_ok (.cons S_spec_AddScaled_ok .nil))))
 obtain ⟨hf0,hpx⟩:=hpre
 have hn0_1:List.length x0≤1073741824:=hf0.1
 obtain ⟨w_,hw1,hw2,hw3,hw4⟩:=hpx
 refine wp_seq ?_
 refine at_regq [] { ts:=[0,1,4],os:=[] } [] gamOK hT h (by kernel_rfl) trivial fun a w h=>then_normal (wp_seq ?_)
 refine at_regq [{},{ ids:=[1] }] { ts:=[1,4,5],os:=[1] } [Q_spec_l6Copy x0] gamOK hT h (by kernel_rfl) ⟨(by exact hf0),trivial⟩ fun a w h=>then_normal (wp_seq ?_)
 refine at_regq [] { ts:=[1,4,5,6],os:=[1] } [] gamOK hT h (by kernel_rfl) trivial fun a w h=>then_normal (wp_seq (wp_seq ?_))
 refine at_regq [] { ts:=[1,4,5,6,7],os:=[1] } [] gamOK hT h (by kernel_rfl) trivial fun a w h=>then_normal (wp_block ?_)
 replace h:=at_out (σ':=⟨[(1,aI x1),(4,.p (.c (cN))),(5,aS 1),(6,aI 0),(7,aI 0)],[(1,oF s22 x0)]⟩) { ts:=[1,4,5,6,7],os:=[1] } h (by kernel_rfl)
 refine at_loop (fun k:Nat=>(⟨[(1,aI x1),(4,.p (.c (cN))),(5,aS 1),(6,aI (((LA.gjAt x0 k).2:Nat):Int)),(7,aI ((k:Nat):Int))],[(1,oF s22 (LA.gjAt x0 k).1)]⟩:St)) (fun k=>k≤x1.toNat) (fun k=>x1.toNat - k) (0) h (st_congr3 (fun (d0:List (List Int)) (d1:Int) (d2:Int)=>(⟨[(1,aI x1),(4,.p (.c (cN))),(5,aS 1),(6,aI d1),(7,aI d2)],[(1,oF s22 d0)]⟩:St)) (show (x0:List (List Int))=(LA.gjAt x0 (0)).1 from by first | with_reducible rfl | (rfl) | rfl) (show (0:Int)=(((LA.gjAt x0 (0)).2:Nat):Int) from by first | with_reducible rfl | (rfl) | rfl) (show (0:Int)=(((0):Nat):Int) from by first | with_reducible rfl | (rfl) | rfl)) (by omega) ?_
 intro k a w hok0 h
 have hgv:=(LA.gj_inv hw1 k).1
 have hgn:=(LA.gj_inv hw1 k).2.1
 have hgl:=LA.gjAt_le x0 k
 refine wp_seq (wp_seq ?_)
 by_cases h1:((k:Nat):Int) < x1
 ·refine at_regq [{}, {}, { hint := some (aB true) }] { ts := [1, 4, 5, 6, 7, 17, 18, 19, 20, 21], os := [1] } [(AV.p (.c (.v (.bool (decide (((k : Nat) : Int) < x1))))) = AV.p (.c (.v (.bool true))))] gamOK hT h (by kernel_rfl) ⟨hint_bool (decide_eq_true h1), trivial⟩ fun a w h => then_normal ?_
  refine at_test (decide ((((LA.gjAt x0 k).2:Nat):Int) < ((List.length (LA.gjAt x0 k).1:Nat):Int))) h (by kernel_rfl) (fun h2=>?_) (fun h2=>?_)
  ·replace h2 : (((LA.gjAt x0 k).2 : Nat) : Int) < ((List.length (LA.gjAt x0 k).1 : Nat) : Int) := of_decide_eq_true h2
   have hat:(LA.gjAt x0 k).2 < List.length (LA.gjAt x0 k).1:=by omega
   refine wp_skip (then_normal (wp_seq (wp_block (wp_seq ?_))))
   refine at_regq [] { ts:=[1,4,5,6,7,8,17,18,19,20],os:=[1] } [] gamOK hT h (by kernel_rfl) trivial fun a w h=>then_normal (wp_seq (wp_block ?_))
   replace h:=at_out (σ':=⟨[(1,aI x1),(4,.p (.c (cN))),(5,aS 1),(6,aI (((LA.gjAt x0 k).2:Nat):Int)),(7,aI ((k:Nat):Int)),(8,aI (((LA.gjAt x0 k).2:Nat):Int)),(17,aI (((LA.gjAt x0 k).2:Nat):Int)),(18,aS 1),(19,aI ((List.length (LA.gjAt x0 k).1:Nat):Int)),(20,aB (decide ((((LA.gjAt x0 k).2:Nat):Int) < ((List.length (LA.gjAt x0 k).1:Nat):Int))))],[(1,oF s22 (LA.gjAt x0 k).1)]⟩) { ts:=[1,4,5,6,7,8,17,18,19,20],os:=[1] } h (by kernel_rfl)
   refine at_loop (fun j:Nat=>(⟨[(1,aI x1),(4,.p (.c (cN))),(5,aS 1),(6,aI (((LA.gjAt x0 k).2:Nat):Int)),(7,aI ((k:Nat):Int)),(8,aI (((LA.gjAt x0 k).2+j:Nat):Int)),(17,aI (((LA.gjAt x0 k).2:Nat):Int)),(18,aS 1),(19,aI ((List.length (LA.gjAt x0 k).1:Nat):Int)),(20,aB (decide ((((LA.gjAt x0 k).2:Nat):Int) < ((List.length (LA.gjAt x0 k).1:Nat):Int))))],[(1,oF s22 (LA.gjAt x0 k).1)]⟩:St)) (fun j=>((LA.gjAt x0 k).2+j≤List.length (LA.gjAt x0 k).1∧∀ i,(LA.gjAt x0 k).2≤i→i < (LA.gjAt x0 k).2+j→LA.ent (LA.gjAt x0 k).1 i k=0)) (fun j=>List.length (LA.gjAt x0 k).1 - ((LA.gjAt x0 k).2+j)) (0) h (st_congr1 (fun (d0:Int)=>(⟨[(1,aI x1),(4,.p (.c (cN))),(5,aS 1),(6,aI (((LA.gjAt x0 k).2:Nat):Int)),(7,aI ((k:Nat):Int)),(8,aI d0),(17,aI (((LA.gjAt x0 k).2:Nat):Int)),(18,aS 1),(19,aI ((List.length (LA.gjAt x0 k).1:Nat):Int)),(20,aB (decide ((((LA.gjAt x0 k).2:Nat):Int) < ((List.length (LA.gjAt x0 k).1:Nat):Int))))],[(1,oF s22 (LA.gjAt x0 k).1)]⟩:St)) (show ((((LA.gjAt x0 k).2:Nat):Int):Int)=(((LA.gjAt x0 k).2+(0):Nat):Int) from by first | with_reducible rfl | (rfl) | rfl)) (by exact ⟨by omega,fun i h1 h2=>absurd h2 (by omega)⟩) ?_
   intro j a w hok1 h
   refine wp_seq (wp_seq ?_)
   by_cases h3:(((LA.gjAt x0 k).2+j:Nat):Int) < ((List.length (LA.gjAt x0 k).1:Nat):Int)
   ·have hrp := hgv _ (LA.getD_in (rows := (LA.gjAt x0 k).1) (i := (LA.gjAt x0 k).2 + j) (by omega))
    have hrpl:=hrp.1
    have hrpr:=hrp.rng k
    refine at_regq [{},{},{},{ hint:=some (aB true) }] { ts:=[1,4,5,6,7,8,17,18,19,20,30,31,32,33,34,35,36,37,38],os:=[1] } [(AV.p (.c (.v (.bool (decide ((((LA.gjAt x0 k).2+j:Nat):Int) < ((List.length (LA.gjAt x0 k).1:Nat):Int))))))=AV.p (.c (.v (.bool true)))),(0:Int)≤(((LA.gjAt x0 k).2+j:Nat):Int)∧(((LA.gjAt x0 k).2+j:Nat):Int) < ((List.length (LA.gjAt x0 k).1:Nat):Int),(LA.gjAt x0 k).2+j < List.length (LA.gjAt x0 k).1,(0:Int)≤((k:Nat):Int)∧((k:Nat):Int) < ((List.length ((LA.gjAt x0 k).1.getD ((LA.gjAt x0 k).2+j) []):Nat):Int)] gamOK hT h (by kernel_rfl) ⟨hint_bool (decide_eq_true h3),(by refine ⟨?_,?_⟩<;>(first | omega | (simp only [lsA];omega) | (simp<;>omega))),(by first | omega | (simp only [lsA];omega) | (simp<;>omega)),(by refine ⟨?_,?_⟩<;>(first | omega | (simp only [lsA];omega) | (simp<;>omega))),trivial⟩ fun a w h=>then_normal ?_
    refine at_test (decide ((((LA.gjAt x0 k).1.getD ((LA.gjAt x0 k).2+j) []).getD k 0)=0)) h (by kernel_rfl) (fun h4=>?_) (fun h4=>?_)
    ·replace h4 : (((LA.gjAt x0 k).1.getD ((LA.gjAt x0 k).2 + j) []).getD k 0) = 0 := of_decide_eq_true h4
     refine wp_skip (then_normal (wp_block ?_))
     refine at_regq [{},{ nw:=true }] { ts:=[1,4,5,6,7,8,17,18,19,20,30,31,32,33,34,35,36,37],os:=[1] } [I64 ((((LA.gjAt x0 k).2+j:Nat):Int)+1)] gamOK hT h (by kernel_rfl) ⟨⟨by first | omega | (simp only [lsA];omega) | (simp<;>omega),by first | omega | (simp only [lsA];omega) | (simp<;>omega)⟩,trivial⟩ fun a w h=>in_normal ?_
     replace h:=at_out (σ':=⟨[(1,aI x1),(4,.p (.c (cN))),(5,aS 1),(6,aI (((LA.gjAt x0 k).2:Nat):Int)),(7,aI ((k:Nat):Int)),(8,aI ((((LA.gjAt x0 k).2+j:Nat):Int)+1)),(17,aI (((LA.gjAt x0 k).2:Nat):Int)),(18,aS 1),(19,aI ((List.length (LA.gjAt x0 k).1:Nat):Int)),(20,aB (decide ((((LA.gjAt x0 k).2:Nat):Int) < ((List.length (LA.gjAt x0 k).1:Nat):Int))))],[(1,oF s22 (LA.gjAt x0 k).1)]⟩) { ts:=[1,4,5,6,7,8,17,18,19,20],os:=[1] } h (by kernel_rfl)
     exact ⟨j+1,at_eq h (st_congr1 (fun (d0:Int)=>(⟨[(1,aI x1),(4,.p (.c (cN))),(5,aS 1),(6,aI (((LA.gjAt x0 k).2:Nat):Int)),(7,aI ((k:Nat):Int)),(8,aI d0),(17,aI (((LA.gjAt x0 k).2:Nat):Int)),(18,aS 1),(19,aI ((List.length (LA.gjAt x0 k).1:Nat):Int)),(20,aB (decide ((((LA.gjAt x0 k).2:Nat):Int) < ((List.length (LA.gjAt x0 k).1:Nat):Int))))],[(1,oF s22 (LA.gjAt x0 k).1)]⟩:St)) (show ((((LA.gjAt x0 k).2+j:Nat):Int)+1:Int)=(((LA.gjAt x0 k).2+(j+1):Nat):Int) from by first | with_reducible rfl | (omega) | rfl)),(by exact ⟨by omega,LA.ent_step hok1.2 (by assumption)⟩),(by omega)⟩
    ·replace h4 : ¬ ((((LA.gjAt x0 k).1.getD ((LA.gjAt x0 k).2 + j) []).getD k 0) = 0) := of_decide_eq_false h4
     refine wp_exit (then_exit ?_)
     replace h:=at_out (σ':=⟨[(1,aI x1),(4,.p (.c (cN))),(5,aS 1),(6,aI (((LA.gjAt x0 k).2:Nat):Int)),(7,aI ((k:Nat):Int)),(8,aI (((LA.gjAt x0 k).2+j:Nat):Int)),(17,aI (((LA.gjAt x0 k).2:Nat):Int)),(18,aS 1),(19,aI ((List.length (LA.gjAt x0 k).1:Nat):Int)),(20,aB (decide ((((LA.gjAt x0 k).2:Nat):Int) < ((List.length (LA.gjAt x0 k).1:Nat):Int)))),(30,aS 1),(31,aI (((LA.gjAt x0 k).2+j:Nat):Int)),(32,aE 1 ((LA.gjAt x0 k).2+j) 0 1),(33,aF (.int 3) ((LA.gjAt x0 k).1.getD ((LA.gjAt x0 k).2+j) [])),(34,aI ((k:Nat):Int)),(35,aR (.int 3) (((LA.gjAt x0 k).1.getD ((LA.gjAt x0 k).2+j) []).getD k 0) 0),(36,aI (((LA.gjAt x0 k).1.getD ((LA.gjAt x0 k).2+j) []).getD k 0)),(37,aB (decide ((((LA.gjAt x0 k).1.getD ((LA.gjAt x0 k).2+j) []).getD k 0)=0)))],[(1,oF s22 (LA.gjAt x0 k).1)]⟩) { ts:=[1,4,5,6,7,8,17,18,19,20,30,31,32,33,34,35,36,37],os:=[1] } h (by kernel_rfl)
     replace h:=at_eq (σ':=⟨[(1,aI x1),(4,.p (.c (cN))),(5,aS 1),(6,aI (((LA.gjAt x0 k).2:Nat):Int)),(7,aI ((k:Nat):Int)),(8,aI ((LA.gp x0 k:Nat):Int)),(17,aI (((LA.gjAt x0 k).2:Nat):Int)),(18,aS 1),(19,aI ((List.length (LA.gjAt x0 k).1:Nat):Int)),(20,aB (decide ((((LA.gjAt x0 k).2:Nat):Int) < ((List.length (LA.gjAt x0 k).1:Nat):Int)))),(30,aS 1),(31,aI (((LA.gjAt x0 k).2+j:Nat):Int)),(32,aE 1 ((LA.gjAt x0 k).2+j) 0 1),(33,aF (.int 3) ((LA.gjAt x0 k).1.getD ((LA.gjAt x0 k).2+j) [])),(34,aI ((k:Nat):Int)),(35,aR (.int 3) (((LA.gjAt x0 k).1.getD ((LA.gjAt x0 k).2+j) []).getD k 0) 0),(36,aI (((LA.gjAt x0 k).1.getD ((LA.gjAt x0 k).2+j) []).getD k 0)),(37,aB (decide ((((LA.gjAt x0 k).1.getD ((LA.gjAt x0 k).2+j) []).getD k 0)=0)))],[(1,oF s22 (LA.gjAt x0 k).1)]⟩) h (st_congr1 (fun (d0:Int)=>(⟨[(1,aI x1),(4,.p (.c (cN))),(5,aS 1),(6,aI (((LA.gjAt x0 k).2:Nat):Int)),(7,aI ((k:Nat):Int)),(8,aI d0),(17,aI (((LA.gjAt x0 k).2:Nat):Int)),(18,aS 1),(19,aI ((List.length (LA.gjAt x0 k).1:Nat):Int)),(20,aB (decide ((((LA.gjAt x0 k).2:Nat):Int) < ((List.length (LA.gjAt x0 k).1:Nat):Int)))),(30,aS 1),(31,aI (((LA.gjAt x0 k).2+j:Nat):Int)),(32,aE 1 ((LA.gjAt x0 k).2+j) 0 1),(33,aF (.int 3) ((LA.gjAt x0 k).1.getD ((LA.gjAt x0 k).2+j) [])),(34,aI ((k:Nat):Int)),(35,aR (.int 3) (((LA.gjAt x0 k).1.getD ((LA.gjAt x0 k).2+j) []).getD k 0) 0),(36,aI (((LA.gjAt x0 k).1.getD ((LA.gjAt x0 k).2+j) []).getD k 0)),(37,aB (decide ((((LA.gjAt x0 k).1.getD ((LA.gjAt x0 k).2+j) []).getD k 0)=0)))],[(1,oF s22 (LA.gjAt x0 k).1)]⟩:St)) (show ((((LA.gjAt x0 k).2+j:Nat):Int):Int)=((LA.gp x0 k:Nat):Int) from by first | with_reducible rfl | (rw [LA.gp_eq hok1.1 hok1.2 (fun hh=>by first | (exfalso;omega) | assumption)]) | rfl))
     have hgb:=LA.gp_bd x0 k
     refine then_exit (in_hit (then_normal (wp_seq (wp_seq ?_))))
     refine at_regq [] { ts:=[1,4,5,6,7,8,17,18,19,20,30,31,32,33,34,35,36,37,44],os:=[1] } [] gamOK hT h (by kernel_rfl) trivial fun a w h=>then_normal ?_
     refine at_test (decide (((LA.gp x0 k:Nat):Int)=((List.length (LA.gjAt x0 k).1:Nat):Int))) h (by kernel_rfl) (fun h5=>?_) (fun h5=>?_)
     ·replace h5 : ((LA.gp x0 k : Nat) : Int) = ((List.length (LA.gjAt x0 k).1 : Nat) : Int) := of_decide_eq_true h5
      refine wp_exit (then_exit (in_hit (then_normal ?_)))
      refine at_regq [{},{ nw:=true }] { ts:=[1,4,5,6,7,17,18,19,20,30,31,32,33,34,35,36,37],os:=[1] } [I64 (((k:Nat):Int)+1)] gamOK hT h (by kernel_rfl) ⟨⟨by first | omega | (simp only [lsA];omega) | (simp<;>omega),by first | omega | (simp only [lsA];omega) | (simp<;>omega)⟩,trivial⟩ fun a w h=>?_
      replace h:=at_out (σ':=⟨[(1,aI x1),(4,.p (.c (cN))),(5,aS 1),(6,aI (((LA.gjAt x0 k).2:Nat):Int)),(7,aI (((k:Nat):Int)+1))],[(1,oF s22 (LA.gjAt x0 k).1)]⟩) { ts:=[1,4,5,6,7],os:=[1] } h (by kernel_rfl)
      exact ⟨k+1,at_eq h (st_congr3 (fun (d0:List (List Int)) (d1:Int) (d2:Int)=>(⟨[(1,aI x1),(4,.p (.c (cN))),(5,aS 1),(6,aI d1),(7,aI d2)],[(1,oF s22 d0)]⟩:St)) (show ((LA.gjAt x0 k).1:List (List Int))=(LA.gjAt x0 (k+1)).1 from by first | with_reducible rfl | (first | (rw [LA.gm_none (by omega) (by omega)];done) | (rw [LA.gm_done (i:=i) hat (by omega) (by omega)];try first | rfl | (dsimp only;omega))) | rfl) (show ((((LA.gjAt x0 k).2:Nat):Int):Int)=(((LA.gjAt x0 (k+1)).2:Nat):Int) from by first | with_reducible rfl | (first | (rw [LA.gm_none (by omega) (by omega)];done) | (rw [LA.gm_done (i:=i) hat (by omega) (by omega)];try first | rfl | (dsimp only;omega))) | rfl) (show (((k:Nat):Int)+1:Int)=(((k+1):Nat):Int) from by first | with_reducible rfl | (omega) | rfl)),(by omega),(by omega)⟩
     ·replace h5 : ¬ (((LA.gp x0 k : Nat) : Int) = ((List.length (LA.gjAt x0 k).1 : Nat) : Int)) := of_decide_eq_false h5
      have hgpl:LA.gp x0 k < List.length (LA.gjAt x0 k).1:=by have:=LA.gp_bd x0 k;omega
      have hgpz:=(LA.gp_bd x0 k).2.2 hgpl
      have hpv:=hgv _ (LA.getD_in (rows:=(LA.gjAt x0 k).1) hgpl)
      have hpvl:=hpv.1
      have hav:=hgv _ (LA.getD_in (rows:=(LA.gjAt x0 k).1) hat)
      refine wp_skip (then_normal (wp_seq ?_))
      refine at_regq [] { ts:=[1,4,5,6,7,8,9,17,18,19,20,30,31,32,33,34,35,36,37],os:=[1] } [(0:Int)≤((LA.gp x0 k:Nat):Int)∧((LA.gp x0 k:Nat):Int) < ((List.length (LA.gjAt x0 k).1:Nat):Int),LA.gp x0 k < List.length (LA.gjAt x0 k).1] gamOK hT h (by kernel_rfl) ⟨(by refine ⟨?_,?_⟩<;>(first | omega | (simp only [lsA];omega) | (simp<;>omega))),(by first | omega | (simp only [lsA];omega) | (simp<;>omega)),trivial⟩ fun a w h=>then_normal (wp_seq ?_)
      refine at_regq [] { ts:=[1,4,5,6,7,9,17,18,19,20,30,31,32,33,34,35,36,37],os:=[1] } [(0:Int)≤(((LA.gjAt x0 k).2:Nat):Int)∧(((LA.gjAt x0 k).2:Nat):Int) < ((List.length (LA.gjAt x0 k).1:Nat):Int),(LA.gjAt x0 k).2 < List.length (LA.gjAt x0 k).1,(0:Int)≤((LA.gp x0 k:Nat):Int)∧((LA.gp x0 k:Nat):Int) < ((List.length (LA.gjAt x0 k).1:Nat):Int),LA.gp x0 k < List.length (LA.gjAt x0 k).1] gamOK hT h (by kernel_rfl) ⟨(by refine ⟨?_,?_⟩<;>(first | omega | (simp only [lsA];omega) | (simp<;>omega))),(by first | omega | (simp only [lsA];omega) | (simp<;>omega)),(by refine ⟨?_,?_⟩<;>(first | omega | (simp only [lsA];omega) | (simp<;>omega))),(by first | omega | (simp only [lsA];omega) | (simp<;>omega)),trivial⟩ fun a w h=>then_normal (wp_seq ?_)
      refine at_regq [{},{},{},{},{},{},{},{},{ frz:=true }] { ts:=[1,4,5,6,7,17,18,19,20,30,31,32,33,34,35,36,37],os:=[1] } [(0:Int)≤((k:Nat):Int)∧((k:Nat):Int) < ((List.length ((LA.gjAt x0 k).1.getD (LA.gp x0 k) []):Nat):Int),True,Q_spec_ScaleVector ((LA.gjAt x0 k).1.getD (LA.gp x0 k) []) (invF (((LA.gjAt x0 k).1.getD (LA.gp x0 k) []).getD k 0)),(0:Int)≤(((LA.gjAt x0 k).2:Nat):Int)∧(((LA.gjAt x0 k).2:Nat):Int) < ((List.length (List.set (LA.gjAt x0 k).1 (LA.gp x0 k) ((LA.gjAt x0 k).1.getD (LA.gjAt x0 k).2 [])):Nat):Int),(LA.gjAt x0 k).2 < List.length (List.set (LA.gjAt x0 k).1 (LA.gp x0 k) ((LA.gjAt x0 k).1.getD (LA.gjAt x0 k).2 []))] gamOK hT h (by kernel_rfl) ⟨(by refine ⟨?_,?_⟩<;>(first | omega | (simp only [lsA];omega) | (simp<;>omega))),trivial,(by exact fitV hpv hw2),(by refine ⟨?_,?_⟩<;>(first | omega | (simp only [lsA];omega) | (simp<;>omega))),(by first | omega | (simp only [lsA];omega) | (simp<;>omega)),trivial⟩ fun a w h=>then_normal (wp_seq (wp_seq ?_))
      refine at_regq [] { ts:=[1,4,5,6,7,10,17,18,19,20,30,31,32,33,34,35,36,37],os:=[1] } [] gamOK hT h (by kernel_rfl) trivial fun a w h=>then_normal (wp_block ?_)
      replace h:=at_out (σ':=⟨[(1,aI x1),(4,.p (.c (cN))),(5,aS 1),(6,aI (((LA.gjAt x0 k).2:Nat):Int)),(7,aI ((k:Nat):Int)),(10,aI 0),(17,aI (((LA.gjAt x0 k).2:Nat):Int)),(18,aS 1),(19,aI ((List.length (LA.gjAt x0 k).1:Nat):Int)),(20,aB (decide ((((LA.gjAt x0 k).2:Nat):Int) < ((List.length (LA.gjAt x0 k).1:Nat):Int)))),(30,aS 1),(31,aI (((LA.gjAt x0 k).2+j:Nat):Int)),(32,aE 1 ((LA.gjAt x0 k).2+j) 0 1),(33,aF (.int 3) ((LA.gjAt x0 k).1.getD ((LA.gjAt x0 k).2+j) [])),(34,aI ((k:Nat):Int)),(35,aR (.int 3) (((LA.gjAt x0 k).1.getD ((LA.gjAt x0 k).2+j) []).getD k 0) 0),(36,aI (((LA.gjAt x0 k).1.getD ((LA.gjAt x0 k).2+j) []).getD k 0)),(37,aB (decide ((((LA.gjAt x0 k).1.getD ((LA.gjAt x0 k).2+j) []).getD k 0)=0)))],[(1,oF s22 (List.set (List.set (LA.gjAt x0 k).1 (LA.gp x0 k) ((LA.gjAt x0 k).1.getD (LA.gjAt x0 k).2 [])) (LA.gjAt x0 k).2 (scaleV ((LA.gjAt x0 k).1.getD (LA.gp x0 k) []) (invF (((LA.gjAt x0 k).1.getD (LA.gp x0 k) []).getD k 0)))))]⟩) { ts:=[1,4,5,6,7,10,17,18,19,20,30,31,32,33,34,35,36,37],os:=[1] } h (by kernel_rfl)
      refine at_loop (fun i:Nat=>(⟨[(1,aI x1),(4,.p (.c (cN))),(5,aS 1),(6,aI (((LA.gjAt x0 k).2:Nat):Int)),(7,aI ((k:Nat):Int)),(10,aI ((i:Nat):Int)),(17,aI (((LA.gjAt x0 k).2:Nat):Int)),(18,aS 1),(19,aI ((List.length (LA.gjAt x0 k).1:Nat):Int)),(20,aB (decide ((((LA.gjAt x0 k).2:Nat):Int) < ((List.length (LA.gjAt x0 k).1:Nat):Int)))),(30,aS 1),(31,aI (((LA.gjAt x0 k).2+j:Nat):Int)),(32,aE 1 ((LA.gjAt x0 k).2+j) 0 1),(33,aF (.int 3) ((LA.gjAt x0 k).1.getD ((LA.gjAt x0 k).2+j) [])),(34,aI ((k:Nat):Int)),(35,aR (.int 3) (((LA.gjAt x0 k).1.getD ((LA.gjAt x0 k).2+j) []).getD k 0) 0),(36,aI (((LA.gjAt x0 k).1.getD ((LA.gjAt x0 k).2+j) []).getD k 0)),(37,aB (decide ((((LA.gjAt x0 k).1.getD ((LA.gjAt x0 k).2+j) []).getD k 0)=0)))],[(1,oF s22 (LA.gm x0 k i))]⟩:St)) (fun i=>i≤List.length (LA.gjAt x0 k).1) (fun i=>List.length (LA.gjAt x0 k).1 - i) (0) h (st_congr2 (fun (d0:List (List Int)) (d1:Int)=>(⟨[(1,aI x1),(4,.p (.c (cN))),(5,aS 1),(6,aI (((LA.gjAt x0 k).2:Nat):Int)),(7,aI ((k:Nat):Int)),(10,aI d1),(17,aI (((LA.gjAt x0 k).2:Nat):Int)),(18,aS 1),(19,aI ((List.length (LA.gjAt x0 k).1:Nat):Int)),(20,aB (decide ((((LA.gjAt x0 k).2:Nat):Int) < ((List.length (LA.gjAt x0 k).1:Nat):Int)))),(30,aS 1),(31,aI (((LA.gjAt x0 k).2+j:Nat):Int)),(32,aE 1 ((LA.gjAt x0 k).2+j) 0 1),(33,aF (.int 3) ((LA.gjAt x0 k).1.getD ((LA.gjAt x0 k).2+j) [])),(34,aI ((k:Nat):Int)),(35,aR (.int 3) (((LA.gjAt x0 k).1.getD ((LA.gjAt x0 k).2+j) []).getD k 0) 0),(36,aI (((LA.gjAt x0 k).1.getD ((LA.gjAt x0 k).2+j) []).getD k 0)),(37,aB (decide ((((LA.gjAt x0 k).1.getD ((LA.gjAt x0 k).2+j) []).getD k 0)=0)))],[(1,oF s22 d0)]⟩:St)) (show ((List.set (List.set (LA.gjAt x0 k).1 (LA.gp x0 k) ((LA.gjAt x0 k).1.getD (LA.gjAt x0 k).2 [])) (LA.gjAt x0 k).2 (scaleV ((LA.gjAt x0 k).1.getD (LA.gp x0 k) []) (invF (((LA.gjAt x0 k).1.getD (LA.gp x0 k) []).getD k 0)))):List (List Int))=(LA.gm x0 k (0)) from by first | with_reducible rfl | (exact LA.gm_zero (l7_lead hgv hw2 hgpl hgpz)) | rfl) (show (0:Int)=(((0):Nat):Int) from by first | with_reducible rfl | (exact LA.gm_zero (l7_lead hgv hw2 hgpl hgpz)) | rfl)) (by omega) ?_
      intro i a w hok2 h
      have hml:=LA.gm_len x0 k i
      refine wp_seq (wp_seq ?_)
      refine at_regq [] { ts:=[1,4,5,6,7,10,17,18,19,20,30,31,32,33,34,35,36,37,69],os:=[1] } [] gamOK hT h (by kernel_rfl) trivial fun a w h=>then_normal ?_
      refine at_test (decide (((i:Nat):Int) < ((List.length (LA.gm x0 k i):Nat):Int))) h (by kernel_rfl) (fun h6=>?_) (fun h6=>?_)
      ·replace h6 : ((i : Nat) : Int) < ((List.length (LA.gm x0 k i) : Nat) : Int) := of_decide_eq_true h6
       have hmi:=LA.gm_ok (i:=i) hw1 hat hgpl (show i < List.length (LA.gjAt x0 k).1 by omega)
       have hmil:=hmi.1
       have hmir:=hmi.rng k
       have hma:=LA.gm_piv (i:=i) hw1 hat hgpl
       have hmal:=hma.1
       refine wp_skip (then_normal (wp_seq (wp_block (wp_seq ?_))))
       by_cases h7:((i:Nat):Int)=(((LA.gjAt x0 k).2:Nat):Int)
       ·refine at_regq [{}, {}, { hint := some (aB false) }] { ts := [1, 4, 5, 6, 7, 10, 17, 18, 19, 20, 30, 31, 32, 33, 34, 35, 36, 37, 76, 77, 78, 79, 80, 81, 82, 83, 84], os := [1] } [(AV.p (.c (.v (.bool (!decide (((i : Nat) : Int) = (((LA.gjAt x0 k).2 : Nat) : Int)))))) = AV.p (.c (.v (.bool false))))] gamOK hT h (by kernel_rfl) ⟨hint_bool (ndT h7), trivial⟩ fun a w h => then_normal ?_
        refine at_test false h (by kernel_rfl) (fun hh=>nomatch hh) (fun hh=>?_)
        refine wp_skip (in_normal (then_normal ?_))
        refine at_regq [{},{ nw:=true }] { ts:=[1,4,5,6,7,10,17,18,19,20,30,31,32,33,34,35,36,37,76,77,78,79,80,81,82,83],os:=[1] } [I64 (((i:Nat):Int)+1)] gamOK hT h (by kernel_rfl) ⟨⟨by first | omega | (simp only [lsA];omega) | (simp<;>omega),by first | omega | (simp only [lsA];omega) | (simp<;>omega)⟩,trivial⟩ fun a w h=>?_
        replace h:=at_out (σ':=⟨[(1,aI x1),(4,.p (.c (cN))),(5,aS 1),(6,aI (((LA.gjAt x0 k).2:Nat):Int)),(7,aI ((k:Nat):Int)),(10,aI (((i:Nat):Int)+1)),(17,aI (((LA.gjAt x0 k).2:Nat):Int)),(18,aS 1),(19,aI ((List.length (LA.gjAt x0 k).1:Nat):Int)),(20,aB (decide ((((LA.gjAt x0 k).2:Nat):Int) < ((List.length (LA.gjAt x0 k).1:Nat):Int)))),(30,aS 1),(31,aI (((LA.gjAt x0 k).2+j:Nat):Int)),(32,aE 1 ((LA.gjAt x0 k).2+j) 0 1),(33,aF (.int 3) ((LA.gjAt x0 k).1.getD ((LA.gjAt x0 k).2+j) [])),(34,aI ((k:Nat):Int)),(35,aR (.int 3) (((LA.gjAt x0 k).1.getD ((LA.gjAt x0 k).2+j) []).getD k 0) 0),(36,aI (((LA.gjAt x0 k).1.getD ((LA.gjAt x0 k).2+j) []).getD k 0)),(37,aB (decide ((((LA.gjAt x0 k).1.getD ((LA.gjAt x0 k).2+j) []).getD k 0)=0)))],[(1,oF s22 (LA.gm x0 k i))]⟩) { ts:=[1,4,5,6,7,10,17,18,19,20,30,31,32,33,34,35,36,37],os:=[1] } h (by kernel_rfl)
        exact ⟨i+1,at_eq h (st_congr2 (fun (d0:List (List Int)) (d1:Int)=>(⟨[(1,aI x1),(4,.p (.c (cN))),(5,aS 1),(6,aI (((LA.gjAt x0 k).2:Nat):Int)),(7,aI ((k:Nat):Int)),(10,aI d1),(17,aI (((LA.gjAt x0 k).2:Nat):Int)),(18,aS 1),(19,aI ((List.length (LA.gjAt x0 k).1:Nat):Int)),(20,aB (decide ((((LA.gjAt x0 k).2:Nat):Int) < ((List.length (LA.gjAt x0 k).1:Nat):Int)))),(30,aS 1),(31,aI (((LA.gjAt x0 k).2+j:Nat):Int)),(32,aE 1 ((LA.gjAt x0 k).2+j) 0 1),(33,aF (.int 3) ((LA.gjAt x0 k).1.getD ((LA.gjAt x0 k).2+j) [])),(34,aI ((k:Nat):Int)),(35,aR (.int 3) (((LA.gjAt x0 k).1.getD ((LA.gjAt x0 k).2+j) []).getD k 0) 0),(36,aI (((LA.gjAt x0 k).1.getD ((LA.gjAt x0 k).2+j) []).getD k 0)),(37,aB (decide ((((LA.gjAt x0 k).1.getD ((LA.gjAt x0 k).2+j) []).getD k 0)=0)))],[(1,oF s22 d0)]⟩:St)) (show ((LA.gm x0 k i):List (List Int))=(LA.gm x0 k (i+1)) from by first | with_reducible rfl | (first | exact (LA.gm_same (by omega) (Or.inl (by omega))).symm | exact (LA.gm_same (by omega) (Or.inr (by assumption))).symm | (rw [addV_L hmi hma hw2 (by omega)];exact (LA.gm_add (by omega) hat (by omega) (by assumption)).symm)) | rfl) (show (((i:Nat):Int)+1:Int)=(((i+1):Nat):Int) from by first | with_reducible rfl | (omega) | rfl)),(by omega),(by omega)⟩
       ·refine at_regq [{}, {}, { hint := some (aB true) }] { ts := [1, 4, 5, 6, 7, 10, 17, 18, 19, 20, 30, 31, 32, 33, 34, 35, 36, 37, 76, 77, 78, 79, 80, 81, 82, 83, 84], os := [1] } [(AV.p (.c (.v (.bool (!decide (((i : Nat) : Int) = (((LA.gjAt x0 k).2 : Nat) : Int)))))) = AV.p (.c (.v (.bool true)))), (0 : Int) ≤ ((i : Nat) : Int) ∧ ((i : Nat) : Int) < ((List.length (LA.gm x0 k i) : Nat) : Int), i < List.length (LA.gm x0 k i), (0 : Int) ≤ ((k : Nat) : Int) ∧ ((k : Nat) : Int) < ((List.length ((LA.gm x0 k i).getD i []) : Nat) : Int)] gamOK hT h (by kernel_rfl) ⟨hint_bool (ndF h7), (by refine ⟨?_, ?_⟩ <;> (first | omega | (simp only [lsA]; omega) | (simp <;> omega))), (by first | omega | (simp only [lsA]; omega) | (simp <;> omega)), (by refine ⟨?_, ?_⟩ <;> (first | omega | (simp only [lsA]; omega) | (simp <;> omega))), trivial⟩ fun a w h => then_normal ?_
        refine at_test (!decide ((((LA.gm x0 k i).getD i []).getD k 0)=0)) h (by kernel_rfl) (fun h8=>?_) (fun h8=>?_)
        ·replace h8 : ¬ ((((LA.gm x0 k i).getD i []).getD k 0) = 0) := of_decide_eq_false (notT h8)
         refine at_anyq [{},{},{},{},{},{},{},{},{},{},{},{},{},{},{},{},{},{ nw:=true },{ frz:=true },{},{}] { ts:=[1,4,5,6,7,10,17,18,19,20,30,31,32,33,34,35,36,37,76,77,78,79,80,81,82,83],os:=[1] } [(0:Int)≤((i:Nat):Int)∧((i:Nat):Int) < ((List.length (LA.gm x0 k i):Nat):Int),i < List.length (LA.gm x0 k i),(0:Int)≤(((LA.gjAt x0 k).2:Nat):Int)∧(((LA.gjAt x0 k).2:Nat):Int) < ((List.length (LA.gm x0 k i):Nat):Int),(LA.gjAt x0 k).2 < List.length (LA.gm x0 k i),(0:Int)≤((i:Nat):Int)∧((i:Nat):Int) < ((List.length (LA.gm x0 k i):Nat):Int),i < List.length (LA.gm x0 k i),(0:Int)≤((k:Nat):Int)∧((k:Nat):Int) < ((List.length ((LA.gm x0 k i).getD i []):Nat):Int),I64 (1019 - (((LA.gm x0 k i).getD i []).getD k 0)),Q_spec_AddScaled ((LA.gm x0 k i).getD i []) ((LA.gm x0 k i).getD (LA.gjAt x0 k).2 []) (1019 - (((LA.gm x0 k i).getD i []).getD k 0)),(0:Int)≤((i:Nat):Int)∧((i:Nat):Int) < ((List.length (LA.gm x0 k i):Nat):Int),i < List.length (LA.gm x0 k i)] gamOK hT mixed h (by kernel_rfl) ⟨(by refine ⟨?_,?_⟩<;>(first | omega | (simp only [lsA];omega) | (simp<;>omega))),(by first | omega | (simp only [lsA];omega) | (simp<;>omega)),(by refine ⟨?_,?_⟩<;>(first | omega | (simp only [lsA];omega) | (simp<;>omega))),(by first | omega | (simp only [lsA];omega) | (simp<;>omega)),(by refine ⟨?_,?_⟩<;>(first | omega | (simp only [lsA];omega) | (simp<;>omega))),(by first | omega | (simp only [lsA];omega) | (simp<;>omega)),(by refine ⟨?_,?_⟩<;>(first | omega | (simp only [lsA];omega) | (simp<;>omega))),⟨by first | omega | (simp only [lsA];omega) | (simp<;>omega),by first | omega | (simp only [lsA];omega) | (simp<;>omega)⟩,(by exact ⟨fitV hmi hw2,fitV hma hw2⟩),(by refine ⟨?_,?_⟩<;>(first | omega | (simp only [lsA];omega) | (simp<;>omega))),(by first | omega | (simp only [lsA];omega) | (simp<;>omega)),trivial⟩ fun a w h=>in_normal (then_normal ?_)
         refine at_regq [{},{ nw:=true }] { ts:=[1,4,5,6,7,10,17,18,19,20,30,31,32,33,34,35,36,37,76,77,78,79,80,81,82,83],os:=[1] } [I64 (((i:Nat):Int)+1)] gamOK hT h (by kernel_rfl) ⟨⟨by first | omega | (simp only [lsA];omega) | (simp<;>omega),by first | omega | (simp only [lsA];omega) | (simp<;>omega)⟩,trivial⟩ fun a w h=>?_
         replace h:=at_out (σ':=⟨[(1,aI x1),(4,.p (.c (cN))),(5,aS 1),(6,aI (((LA.gjAt x0 k).2:Nat):Int)),(7,aI ((k:Nat):Int)),(10,aI (((i:Nat):Int)+1)),(17,aI (((LA.gjAt x0 k).2:Nat):Int)),(18,aS 1),(19,aI ((List.length (LA.gjAt x0 k).1:Nat):Int)),(20,aB (decide ((((LA.gjAt x0 k).2:Nat):Int) < ((List.length (LA.gjAt x0 k).1:Nat):Int)))),(30,aS 1),(31,aI (((LA.gjAt x0 k).2+j:Nat):Int)),(32,aE 1 ((LA.gjAt x0 k).2+j) 0 1),(33,aF (.int 3) ((LA.gjAt x0 k).1.getD ((LA.gjAt x0 k).2+j) [])),(34,aI ((k:Nat):Int)),(35,aR (.int 3) (((LA.gjAt x0 k).1.getD ((LA.gjAt x0 k).2+j) []).getD k 0) 0),(36,aI (((LA.gjAt x0 k).1.getD ((LA.gjAt x0 k).2+j) []).getD k 0)),(37,aB (decide ((((LA.gjAt x0 k).1.getD ((LA.gjAt x0 k).2+j) []).getD k 0)=0)))],[(1,oF s22 (List.set (LA.gm x0 k i) i (addV ((LA.gm x0 k i).getD i []) ((LA.gm x0 k i).getD (LA.gjAt x0 k).2 []) (1019 - (((LA.gm x0 k i).getD i []).getD k 0)))))]⟩) { ts:=[1,4,5,6,7,10,17,18,19,20,30,31,32,33,34,35,36,37],os:=[1] } h (by kernel_rfl)
         exact ⟨i+1,at_eq h (st_congr2 (fun (d0:List (List Int)) (d1:Int)=>(⟨[(1,aI x1),(4,.p (.c (cN))),(5,aS 1),(6,aI (((LA.gjAt x0 k).2:Nat):Int)),(7,aI ((k:Nat):Int)),(10,aI d1),(17,aI (((LA.gjAt x0 k).2:Nat):Int)),(18,aS 1),(19,aI ((List.length (LA.gjAt x0 k).1:Nat):Int)),(20,aB (decide ((((LA.gjAt x0 k).2:Nat):Int) < ((List.length (LA.gjAt x0 k).1:Nat):Int)))),(30,aS 1),(31,aI (((LA.gjAt x0 k).2+j:Nat):Int)),(32,aE 1 ((LA.gjAt x0 k).2+j) 0 1),(33,aF (.int 3) ((LA.gjAt x0 k).1.getD ((LA.gjAt x0 k).2+j) [])),(34,aI ((k:Nat):Int)),(35,aR (.int 3) (((LA.gjAt x0 k).1.getD ((LA.gjAt x0 k).2+j) []).getD k 0) 0),(36,aI (((LA.gjAt x0 k).1.getD ((LA.gjAt x0 k).2+j) []).getD k 0)),(37,aB (decide ((((LA.gjAt x0 k).1.getD ((LA.gjAt x0 k).2+j) []).getD k 0)=0)))],[(1,oF s22 d0)]⟩:St)) (show ((List.set (LA.gm x0 k i) i (addV ((LA.gm x0 k i).getD i []) ((LA.gm x0 k i).getD (LA.gjAt x0 k).2 []) (1019 - (((LA.gm x0 k i).getD i []).getD k 0)))):List (List Int))=(LA.gm x0 k (i+1)) from by first | with_reducible rfl | (first | exact (LA.gm_same (by omega) (Or.inl (by omega))).symm | exact (LA.gm_same (by omega) (Or.inr (by assumption))).symm | (rw [addV_L hmi hma hw2 (by omega)];exact (LA.gm_add (by omega) hat (by omega) (by assumption)).symm)) | rfl) (show (((i:Nat):Int)+1:Int)=(((i+1):Nat):Int) from by first | with_reducible rfl | (omega) | rfl)),(by omega),(by omega)⟩
        ·replace h8 : (((LA.gm x0 k i).getD i []).getD k 0) = 0 := of_decide_eq_true (notF h8)
         refine wp_skip (in_normal (then_normal ?_))
         refine at_regq [{},{ nw:=true }] { ts:=[1,4,5,6,7,10,17,18,19,20,30,31,32,33,34,35,36,37,76,77,78,79,80,81,82,83],os:=[1] } [I64 (((i:Nat):Int)+1)] gamOK hT h (by kernel_rfl) ⟨⟨by first | omega | (simp only [lsA];omega) | (simp<;>omega),by first | omega | (simp only [lsA];omega) | (simp<;>omega)⟩,trivial⟩ fun a w h=>?_
         replace h:=at_out (σ':=⟨[(1,aI x1),(4,.p (.c (cN))),(5,aS 1),(6,aI (((LA.gjAt x0 k).2:Nat):Int)),(7,aI ((k:Nat):Int)),(10,aI (((i:Nat):Int)+1)),(17,aI (((LA.gjAt x0 k).2:Nat):Int)),(18,aS 1),(19,aI ((List.length (LA.gjAt x0 k).1:Nat):Int)),(20,aB (decide ((((LA.gjAt x0 k).2:Nat):Int) < ((List.length (LA.gjAt x0 k).1:Nat):Int)))),(30,aS 1),(31,aI (((LA.gjAt x0 k).2+j:Nat):Int)),(32,aE 1 ((LA.gjAt x0 k).2+j) 0 1),(33,aF (.int 3) ((LA.gjAt x0 k).1.getD ((LA.gjAt x0 k).2+j) [])),(34,aI ((k:Nat):Int)),(35,aR (.int 3) (((LA.gjAt x0 k).1.getD ((LA.gjAt x0 k).2+j) []).getD k 0) 0),(36,aI (((LA.gjAt x0 k).1.getD ((LA.gjAt x0 k).2+j) []).getD k 0)),(37,aB (decide ((((LA.gjAt x0 k).1.getD ((LA.gjAt x0 k).2+j) []).getD k 0)=0)))],[(1,oF s22 (LA.gm x0 k i))]⟩) { ts:=[1,4,5,6,7,10,17,18,19,20,30,31,32,33,34,35,36,37],os:=[1] } h (by kernel_rfl)
         exact ⟨i+1,at_eq h (st_congr2 (fun (d0:List (List Int)) (d1:Int)=>(⟨[(1,aI x1),(4,.p (.c (cN))),(5,aS 1),(6,aI (((LA.gjAt x0 k).2:Nat):Int)),(7,aI ((k:Nat):Int)),(10,aI d1),(17,aI (((LA.gjAt x0 k).2:Nat):Int)),(18,aS 1),(19,aI ((List.length (LA.gjAt x0 k).1:Nat):Int)),(20,aB (decide ((((LA.gjAt x0 k).2:Nat):Int) < ((List.length (LA.gjAt x0 k).1:Nat):Int)))),(30,aS 1),(31,aI (((LA.gjAt x0 k).2+j:Nat):Int)),(32,aE 1 ((LA.gjAt x0 k).2+j) 0 1),(33,aF (.int 3) ((LA.gjAt x0 k).1.getD ((LA.gjAt x0 k).2+j) [])),(34,aI ((k:Nat):Int)),(35,aR (.int 3) (((LA.gjAt x0 k).1.getD ((LA.gjAt x0 k).2+j) []).getD k 0) 0),(36,aI (((LA.gjAt x0 k).1.getD ((LA.gjAt x0 k).2+j) []).getD k 0)),(37,aB (decide ((((LA.gjAt x0 k).1.getD ((LA.gjAt x0 k).2+j) []).getD k 0)=0)))],[(1,oF s22 d0)]⟩:St)) (show ((LA.gm x0 k i):List (List Int))=(LA.gm x0 k (i+1)) from by first | with_reducible rfl | (first | exact (LA.gm_same (by omega) (Or.inl (by omega))).symm | exact (LA.gm_same (by omega) (Or.inr (by assumption))).symm | (rw [addV_L hmi hma hw2 (by omega)];exact (LA.gm_add (by omega) hat (by omega) (by assumption)).symm)) | rfl) (show (((i:Nat):Int)+1:Int)=(((i+1):Nat):Int) from by first | with_reducible rfl | (omega) | rfl)),(by omega),(by omega)⟩
      ·replace h6 : ¬ (((i : Nat) : Int) < ((List.length (LA.gm x0 k i) : Nat) : Int)) := of_decide_eq_false h6
       refine wp_exit (then_exit (then_exit (in_hit (then_normal ?_))))
       refine at_regq [{},{ nw:=true }] { ts:=[1,4,5,6,7,17,18,19,20,30,31,32,33,34,35,36,37],os:=[1] } [I64 ((((LA.gjAt x0 k).2:Nat):Int)+1)] gamOK hT h (by kernel_rfl) ⟨⟨by first | omega | (simp only [lsA];omega) | (simp<;>omega),by first | omega | (simp only [lsA];omega) | (simp<;>omega)⟩,trivial⟩ fun a w h=>in_normal (then_normal ?_)
       refine at_regq [{},{ nw:=true }] { ts:=[1,4,5,6,7,17,18,19,20,30,31,32,33,34,35,36,37],os:=[1] } [I64 (((k:Nat):Int)+1)] gamOK hT h (by kernel_rfl) ⟨⟨by first | omega | (simp only [lsA];omega) | (simp<;>omega),by first | omega | (simp only [lsA];omega) | (simp<;>omega)⟩,trivial⟩ fun a w h=>?_
       replace h:=at_out (σ':=⟨[(1,aI x1),(4,.p (.c (cN))),(5,aS 1),(6,aI ((((LA.gjAt x0 k).2:Nat):Int)+1)),(7,aI (((k:Nat):Int)+1))],[(1,oF s22 (LA.gm x0 k i))]⟩) { ts:=[1,4,5,6,7],os:=[1] } h (by kernel_rfl)
       exact ⟨k+1,at_eq h (st_congr3 (fun (d0:List (List Int)) (d1:Int) (d2:Int)=>(⟨[(1,aI x1),(4,.p (.c (cN))),(5,aS 1),(6,aI d1),(7,aI d2)],[(1,oF s22 d0)]⟩:St)) (show ((LA.gm x0 k i):List (List Int))=(LA.gjAt x0 (k+1)).1 from by first | with_reducible rfl | (first | (rw [LA.gm_none (by omega) (by omega)];done) | (rw [LA.gm_done (i:=i) hat (by omega) (by omega)];try first | rfl | (dsimp only;omega))) | rfl) (show ((((LA.gjAt x0 k).2:Nat):Int)+1:Int)=(((LA.gjAt x0 (k+1)).2:Nat):Int) from by first | with_reducible rfl | (first | (rw [LA.gm_none (by omega) (by omega)];done) | (rw [LA.gm_done (i:=i) hat (by omega) (by omega)];try first | rfl | (dsimp only;omega))) | rfl) (show (((k:Nat):Int)+1:Int)=(((k+1):Nat):Int) from by first | with_reducible rfl | (omega) | rfl)),(by omega),(by omega)⟩
   ·refine at_regq [{}, {}, {}, { hint := some (aB false) }] { ts := [1, 4, 5, 6, 7, 8, 17, 18, 19, 20, 30, 31, 32, 33, 34, 35, 36, 37, 38], os := [1] } [(AV.p (.c (.v (.bool (decide ((((LA.gjAt x0 k).2 + j : Nat) : Int) < ((List.length (LA.gjAt x0 k).1 : Nat) : Int)))))) = AV.p (.c (.v (.bool false))))] gamOK hT h (by kernel_rfl) ⟨hint_bool (decide_eq_false h3), trivial⟩ fun a w h => then_normal ?_
    refine at_test false h (by kernel_rfl) (fun hh=>nomatch hh) (fun hh=>?_)
    refine wp_exit (then_exit ?_)
    replace h:=at_out (σ':=⟨[(1,aI x1),(4,.p (.c (cN))),(5,aS 1),(6,aI (((LA.gjAt x0 k).2:Nat):Int)),(7,aI ((k:Nat):Int)),(8,aI (((LA.gjAt x0 k).2+j:Nat):Int)),(17,aI (((LA.gjAt x0 k).2:Nat):Int)),(18,aS 1),(19,aI ((List.length (LA.gjAt x0 k).1:Nat):Int)),(20,aB (decide ((((LA.gjAt x0 k).2:Nat):Int) < ((List.length (LA.gjAt x0 k).1:Nat):Int)))),(30,.p (.c (.v undef))),(31,.p (.c (.v undef))),(32,.p (.c (.v undef))),(33,.p (.c (.v undef))),(34,.p (.c (.v undef))),(35,.p (.c (.v undef))),(36,.p (.c (.v undef))),(37,.p (.c (.v undef)))],[(1,oF s22 (LA.gjAt x0 k).1)]⟩) { ts:=[1,4,5,6,7,8,17,18,19,20,30,31,32,33,34,35,36,37],os:=[1] } h (by kernel_rfl)
    replace h:=at_eq (σ':=⟨[(1,aI x1),(4,.p (.c (cN))),(5,aS 1),(6,aI (((LA.gjAt x0 k).2:Nat):Int)),(7,aI ((k:Nat):Int)),(8,aI ((LA.gp x0 k:Nat):Int)),(17,aI (((LA.gjAt x0 k).2:Nat):Int)),(18,aS 1),(19,aI ((List.length (LA.gjAt x0 k).1:Nat):Int)),(20,aB (decide ((((LA.gjAt x0 k).2:Nat):Int) < ((List.length (LA.gjAt x0 k).1:Nat):Int)))),(30,.p (.c (.v undef))),(31,.p (.c (.v undef))),(32,.p (.c (.v undef))),(33,.p (.c (.v undef))),(34,.p (.c (.v undef))),(35,.p (.c (.v undef))),(36,.p (.c (.v undef))),(37,.p (.c (.v undef)))],[(1,oF s22 (LA.gjAt x0 k).1)]⟩) h (st_congr1 (fun (d0:Int)=>(⟨[(1,aI x1),(4,.p (.c (cN))),(5,aS 1),(6,aI (((LA.gjAt x0 k).2:Nat):Int)),(7,aI ((k:Nat):Int)),(8,aI d0),(17,aI (((LA.gjAt x0 k).2:Nat):Int)),(18,aS 1),(19,aI ((List.length (LA.gjAt x0 k).1:Nat):Int)),(20,aB (decide ((((LA.gjAt x0 k).2:Nat):Int) < ((List.length (LA.gjAt x0 k).1:Nat):Int)))),(30,.p (.c (.v undef))),(31,.p (.c (.v undef))),(32,.p (.c (.v undef))),(33,.p (.c (.v undef))),(34,.p (.c (.v undef))),(35,.p (.c (.v undef))),(36,.p (.c (.v undef))),(37,.p (.c (.v undef)))],[(1,oF s22 (LA.gjAt x0 k).1)]⟩:St)) (show ((((LA.gjAt x0 k).2+j:Nat):Int):Int)=((LA.gp x0 k:Nat):Int) from by first | with_reducible rfl | (rw [LA.gp_eq hok1.1 hok1.2 (fun hh=>by first | (exfalso;omega) | assumption)]) | rfl))
    have hgb:=LA.gp_bd x0 k
    refine then_exit (in_hit (then_normal (wp_seq (wp_seq ?_))))
    refine at_regq [] { ts:=[1,4,5,6,7,8,17,18,19,20,30,31,32,33,34,35,36,37,44],os:=[1] } [] gamOK hT h (by kernel_rfl) trivial fun a w h=>then_normal ?_
    refine at_test (decide (((LA.gp x0 k:Nat):Int)=((List.length (LA.gjAt x0 k).1:Nat):Int))) h (by kernel_rfl) (fun h9=>?_) (fun h9=>?_)
    ·replace h9 : ((LA.gp x0 k : Nat) : Int) = ((List.length (LA.gjAt x0 k).1 : Nat) : Int) := of_decide_eq_true h9
     refine wp_exit (then_exit (in_hit (then_normal ?_)))
     refine at_regq [{},{ nw:=true }] { ts:=[1,4,5,6,7,17,18,19,20,30,31,32,33,34,35,36,37],os:=[1] } [I64 (((k:Nat):Int)+1)] gamOK hT h (by kernel_rfl) ⟨⟨by first | omega | (simp only [lsA];omega) | (simp<;>omega),by first | omega | (simp only [lsA];omega) | (simp<;>omega)⟩,trivial⟩ fun a w h=>?_
     replace h:=at_out (σ':=⟨[(1,aI x1),(4,.p (.c (cN))),(5,aS 1),(6,aI (((LA.gjAt x0 k).2:Nat):Int)),(7,aI (((k:Nat):Int)+1))],[(1,oF s22 (LA.gjAt x0 k).1)]⟩) { ts:=[1,4,5,6,7],os:=[1] } h (by kernel_rfl)
     exact ⟨k+1,at_eq h (st_congr3 (fun (d0:List (List Int)) (d1:Int) (d2:Int)=>(⟨[(1,aI x1),(4,.p (.c (cN))),(5,aS 1),(6,aI d1),(7,aI d2)],[(1,oF s22 d0)]⟩:St)) (show ((LA.gjAt x0 k).1:List (List Int))=(LA.gjAt x0 (k+1)).1 from by first | with_reducible rfl | (first | (rw [LA.gm_none (by omega) (by omega)];done) | (rw [LA.gm_done (i:=i) hat (by omega) (by omega)];try first | rfl | (dsimp only;omega))) | rfl) (show ((((LA.gjAt x0 k).2:Nat):Int):Int)=(((LA.gjAt x0 (k+1)).2:Nat):Int) from by first | with_reducible rfl | (first | (rw [LA.gm_none (by omega) (by omega)];done) | (rw [LA.gm_done (i:=i) hat (by omega) (by omega)];try first | rfl | (dsimp only;omega))) | rfl) (show (((k:Nat):Int)+1:Int)=(((k+1):Nat):Int) from by first | with_reducible rfl | (omega) | rfl)),(by omega),(by omega)⟩
    ·replace h9 : ¬ (((LA.gp x0 k : Nat) : Int) = ((List.length (LA.gjAt x0 k).1 : Nat) : Int)) := of_decide_eq_false h9
     have hgpl:LA.gp x0 k < List.length (LA.gjAt x0 k).1:=by have:=LA.gp_bd x0 k;omega
     have hgpz:=(LA.gp_bd x0 k).2.2 hgpl
     have hpv:=hgv _ (LA.getD_in (rows:=(LA.gjAt x0 k).1) hgpl)
     have hpvl:=hpv.1
     have hav:=hgv _ (LA.getD_in (rows:=(LA.gjAt x0 k).1) hat)
     refine wp_skip (then_normal (wp_seq ?_))
     refine at_regq [] { ts:=[1,4,5,6,7,8,9,17,18,19,20,30,31,32,33,34,35,36,37],os:=[1] } [(0:Int)≤((LA.gp x0 k:Nat):Int)∧((LA.gp x0 k:Nat):Int) < ((List.length (LA.gjAt x0 k).1:Nat):Int),LA.gp x0 k < List.length (LA.gjAt x0 k).1] gamOK hT h (by kernel_rfl) ⟨(by refine ⟨?_,?_⟩<;>(first | omega | (simp only [lsA];omega) | (simp<;>omega))),(by first | omega | (simp only [lsA];omega) | (simp<;>omega)),trivial⟩ fun a w h=>then_normal (wp_seq ?_)
     refine at_regq [] { ts:=[1,4,5,6,7,9,17,18,19,20,30,31,32,33,34,35,36,37],os:=[1] } [(0:Int)≤(((LA.gjAt x0 k).2:Nat):Int)∧(((LA.gjAt x0 k).2:Nat):Int) < ((List.length (LA.gjAt x0 k).1:Nat):Int),(LA.gjAt x0 k).2 < List.length (LA.gjAt x0 k).1,(0:Int)≤((LA.gp x0 k:Nat):Int)∧((LA.gp x0 k:Nat):Int) < ((List.length (LA.gjAt x0 k).1:Nat):Int),LA.gp x0 k < List.length (LA.gjAt x0 k).1] gamOK hT h (by kernel_rfl) ⟨(by refine ⟨?_,?_⟩<;>(first | omega | (simp only [lsA];omega) | (simp<;>omega))),(by first | omega | (simp only [lsA];omega) | (simp<;>omega)),(by refine ⟨?_,?_⟩<;>(first | omega | (simp only [lsA];omega) | (simp<;>omega))),(by first | omega | (simp only [lsA];omega) | (simp<;>omega)),trivial⟩ fun a w h=>then_normal (wp_seq ?_)
     refine at_regq [{},{},{},{},{},{},{},{},{ frz:=true }] { ts:=[1,4,5,6,7,17,18,19,20,30,31,32,33,34,35,36,37],os:=[1] } [(0:Int)≤((k:Nat):Int)∧((k:Nat):Int) < ((List.length ((LA.gjAt x0 k).1.getD (LA.gp x0 k) []):Nat):Int),True,Q_spec_ScaleVector ((LA.gjAt x0 k).1.getD (LA.gp x0 k) []) (invF (((LA.gjAt x0 k).1.getD (LA.gp x0 k) []).getD k 0)),(0:Int)≤(((LA.gjAt x0 k).2:Nat):Int)∧(((LA.gjAt x0 k).2:Nat):Int) < ((List.length (List.set (LA.gjAt x0 k).1 (LA.gp x0 k) ((LA.gjAt x0 k).1.getD (LA.gjAt x0 k).2 [])):Nat):Int),(LA.gjAt x0 k).2 < List.length (List.set (LA.gjAt x0 k).1 (LA.gp x0 k) ((LA.gjAt x0 k).1.getD (LA.gjAt x0 k).2 []))] gamOK hT h (by kernel_rfl) ⟨(by refine ⟨?_,?_⟩<;>(first | omega | (simp only [lsA];omega) | (simp<;>omega))),trivial,(by exact fitV hpv hw2),(by refine ⟨?_,?_⟩<;>(first | omega | (simp only [lsA];omega) | (simp<;>omega))),(by first | omega | (simp only [lsA];omega) | (simp<;>omega)),trivial⟩ fun a w h=>then_normal (wp_seq (wp_seq ?_))
     refine at_regq [] { ts:=[1,4,5,6,7,10,17,18,19,20,30,31,32,33,34,35,36,37],os:=[1] } [] gamOK hT h (by kernel_rfl) trivial fun a w h=>then_normal (wp_block ?_)
     replace h:=at_out (σ':=⟨[(1,aI x1),(4,.p (.c (cN))),(5,aS 1),(6,aI (((LA.gjAt x0 k).2:Nat):Int)),(7,aI ((k:Nat):Int)),(10,aI 0),(17,aI (((LA.gjAt x0 k).2:Nat):Int)),(18,aS 1),(19,aI ((List.length (LA.gjAt x0 k).1:Nat):Int)),(20,aB (decide ((((LA.gjAt x0 k).2:Nat):Int) < ((List.length (LA.gjAt x0 k).1:Nat):Int)))),(30,.p (.c (.v undef))),(31,.p (.c (.v undef))),(32,.p (.c (.v undef))),(33,.p (.c (.v undef))),(34,.p (.c (.v undef))),(35,.p (.c (.v undef))),(36,.p (.c (.v undef))),(37,.p (.c (.v undef)))],[(1,oF s22 (List.set (List.set (LA.gjAt x0 k).1 (LA.gp x0 k) ((LA.gjAt x0 k).1.getD (LA.gjAt x0 k).2 [])) (LA.gjAt x0 k).2 (scaleV ((LA.gjAt x0 k).1.getD (LA.gp x0 k) []) (invF (((LA.gjAt x0 k).1.getD (LA.gp x0 k) []).getD k 0)))))]⟩) { ts:=[1,4,5,6,7,10,17,18,19,20,30,31,32,33,34,35,36,37],os:=[1] } h (by kernel_rfl)
     refine at_loop (fun i:Nat=>(⟨[(1,aI x1),(4,.p (.c (cN))),(5,aS 1),(6,aI (((LA.gjAt x0 k).2:Nat):Int)),(7,aI ((k:Nat):Int)),(10,aI ((i:Nat):Int)),(17,aI (((LA.gjAt x0 k).2:Nat):Int)),(18,aS 1),(19,aI ((List.length (LA.gjAt x0 k).1:Nat):Int)),(20,aB (decide ((((LA.gjAt x0 k).2:Nat):Int) < ((List.length (LA.gjAt x0 k).1:Nat):Int)))),(30,.p (.c (.v undef))),(31,.p (.c (.v undef))),(32,.p (.c (.v undef))),(33,.p (.c (.v undef))),(34,.p (.c (.v undef))),(35,.p (.c (.v undef))),(36,.p (.c (.v undef))),(37,.p (.c (.v undef)))],[(1,oF s22 (LA.gm x0 k i))]⟩:St)) (fun i=>i≤List.length (LA.gjAt x0 k).1) (fun i=>List.length (LA.gjAt x0 k).1 - i) (0) h (st_congr2 (fun (d0:List (List Int)) (d1:Int)=>(⟨[(1,aI x1),(4,.p (.c (cN))),(5,aS 1),(6,aI (((LA.gjAt x0 k).2:Nat):Int)),(7,aI ((k:Nat):Int)),(10,aI d1),(17,aI (((LA.gjAt x0 k).2:Nat):Int)),(18,aS 1),(19,aI ((List.length (LA.gjAt x0 k).1:Nat):Int)),(20,aB (decide ((((LA.gjAt x0 k).2:Nat):Int) < ((List.length (LA.gjAt x0 k).1:Nat):Int)))),(30,.p (.c (.v undef))),(31,.p (.c (.v undef))),(32,.p (.c (.v undef))),(33,.p (.c (.v undef))),(34,.p (.c (.v undef))),(35,.p (.c (.v undef))),(36,.p (.c (.v undef))),(37,.p (.c (.v undef)))],[(1,oF s22 d0)]⟩:St)) (show ((List.set (List.set (LA.gjAt x0 k).1 (LA.gp x0 k) ((LA.gjAt x0 k).1.getD (LA.gjAt x0 k).2 [])) (LA.gjAt x0 k).2 (scaleV ((LA.gjAt x0 k).1.getD (LA.gp x0 k) []) (invF (((LA.gjAt x0 k).1.getD (LA.gp x0 k) []).getD k 0)))):List (List Int))=(LA.gm x0 k (0)) from by first | with_reducible rfl | (exact LA.gm_zero (l7_lead hgv hw2 hgpl hgpz)) | rfl) (show (0:Int)=(((0):Nat):Int) from by first | with_reducible rfl | (exact LA.gm_zero (l7_lead hgv hw2 hgpl hgpz)) | rfl)) (by omega) ?_
     intro i a w hok2 h
     have hml:=LA.gm_len x0 k i
     refine wp_seq (wp_seq ?_)
     refine at_regq [] { ts:=[1,4,5,6,7,10,17,18,19,20,30,31,32,33,34,35,36,37,69],os:=[1] } [] gamOK hT h (by kernel_rfl) trivial fun a w h=>then_normal ?_
     refine at_test (decide (((i:Nat):Int) < ((List.length (LA.gm x0 k i):Nat):Int))) h (by kernel_rfl) (fun h10=>?_) (fun h10=>?_)
     ·replace h10 : ((i : Nat) : Int) < ((List.length (LA.gm x0 k i) : Nat) : Int) := of_decide_eq_true h10
      have hmi:=LA.gm_ok (i:=i) hw1 hat hgpl (show i < List.length (LA.gjAt x0 k).1 by omega)
      have hmil:=hmi.1
      have hmir:=hmi.rng k
      have hma:=LA.gm_piv (i:=i) hw1 hat hgpl
      have hmal:=hma.1
      refine wp_skip (then_normal (wp_seq (wp_block (wp_seq ?_))))
      by_cases h11:((i:Nat):Int)=(((LA.gjAt x0 k).2:Nat):Int)
      ·refine at_regq [{}, {}, { hint := some (aB false) }] { ts := [1, 4, 5, 6, 7, 10, 17, 18, 19, 20, 30, 31, 32, 33, 34, 35, 36, 37, 76, 77, 78, 79, 80, 81, 82, 83, 84], os := [1] } [(AV.p (.c (.v (.bool (!decide (((i : Nat) : Int) = (((LA.gjAt x0 k).2 : Nat) : Int)))))) = AV.p (.c (.v (.bool false))))] gamOK hT h (by kernel_rfl) ⟨hint_bool (ndT h11), trivial⟩ fun a w h => then_normal ?_
       refine at_test false h (by kernel_rfl) (fun hh=>nomatch hh) (fun hh=>?_)
       refine wp_skip (in_normal (then_normal ?_))
       refine at_regq [{},{ nw:=true }] { ts:=[1,4,5,6,7,10,17,18,19,20,30,31,32,33,34,35,36,37,76,77,78,79,80,81,82,83],os:=[1] } [I64 (((i:Nat):Int)+1)] gamOK hT h (by kernel_rfl) ⟨⟨by first | omega | (simp only [lsA];omega) | (simp<;>omega),by first | omega | (simp only [lsA];omega) | (simp<;>omega)⟩,trivial⟩ fun a w h=>?_
       replace h:=at_out (σ':=⟨[(1,aI x1),(4,.p (.c (cN))),(5,aS 1),(6,aI (((LA.gjAt x0 k).2:Nat):Int)),(7,aI ((k:Nat):Int)),(10,aI (((i:Nat):Int)+1)),(17,aI (((LA.gjAt x0 k).2:Nat):Int)),(18,aS 1),(19,aI ((List.length (LA.gjAt x0 k).1:Nat):Int)),(20,aB (decide ((((LA.gjAt x0 k).2:Nat):Int) < ((List.length (LA.gjAt x0 k).1:Nat):Int)))),(30,.p (.c (.v undef))),(31,.p (.c (.v undef))),(32,.p (.c (.v undef))),(33,.p (.c (.v undef))),(34,.p (.c (.v undef))),(35,.p (.c (.v undef))),(36,.p (.c (.v undef))),(37,.p (.c (.v undef)))],[(1,oF s22 (LA.gm x0 k i))]⟩) { ts:=[1,4,5,6,7,10,17,18,19,20,30,31,32,33,34,35,36,37],os:=[1] } h (by kernel_rfl)
       exact ⟨i+1,at_eq h (st_congr2 (fun (d0:List (List Int)) (d1:Int)=>(⟨[(1,aI x1),(4,.p (.c (cN))),(5,aS 1),(6,aI (((LA.gjAt x0 k).2:Nat):Int)),(7,aI ((k:Nat):Int)),(10,aI d1),(17,aI (((LA.gjAt x0 k).2:Nat):Int)),(18,aS 1),(19,aI ((List.length (LA.gjAt x0 k).1:Nat):Int)),(20,aB (decide ((((LA.gjAt x0 k).2:Nat):Int) < ((List.length (LA.gjAt x0 k).1:Nat):Int)))),(30,.p (.c (.v undef))),(31,.p (.c (.v undef))),(32,.p (.c (.v undef))),(33,.p (.c (.v undef))),(34,.p (.c (.v undef))),(35,.p (.c (.v undef))),(36,.p (.c (.v undef))),(37,.p (.c (.v undef)))],[(1,oF s22 d0)]⟩:St)) (show ((LA.gm x0 k i):List (List Int))=(LA.gm x0 k (i+1)) from by first | with_reducible rfl | (first | exact (LA.gm_same (by omega) (Or.inl (by omega))).symm | exact (LA.gm_same (by omega) (Or.inr (by assumption))).symm | (rw [addV_L hmi hma hw2 (by omega)];exact (LA.gm_add (by omega) hat (by omega) (by assumption)).symm)) | rfl) (show (((i:Nat):Int)+1:Int)=(((i+1):Nat):Int) from by first | with_reducible rfl | (omega) | rfl)),(by omega),(by omega)⟩
      ·refine at_regq [{}, {}, { hint := some (aB true) }] { ts := [1, 4, 5, 6, 7, 10, 17, 18, 19, 20, 30, 31, 32, 33, 34, 35, 36, 37, 76, 77, 78, 79, 80, 81, 82, 83, 84], os := [1] } [(AV.p (.c (.v (.bool (!decide (((i : Nat) : Int) = (((LA.gjAt x0 k).2 : Nat) : Int)))))) = AV.p (.c (.v (.bool true)))), (0 : Int) ≤ ((i : Nat) : Int) ∧ ((i : Nat) : Int) < ((List.length (LA.gm x0 k i) : Nat) : Int), i < List.length (LA.gm x0 k i), (0 : Int) ≤ ((k : Nat) : Int) ∧ ((k : Nat) : Int) < ((List.length ((LA.gm x0 k i).getD i []) : Nat) : Int)] gamOK hT h (by kernel_rfl) ⟨hint_bool (ndF h11), (by refine ⟨?_, ?_⟩ <;> (first | omega | (simp only [lsA]; omega) | (simp <;> omega))), (by first | omega | (simp only [lsA]; omega) | (simp <;> omega)), (by refine ⟨?_, ?_⟩ <;> (first | omega | (simp only [lsA]; omega) | (simp <;> omega))), trivial⟩ fun a w h => then_normal ?_
       refine at_test (!decide ((((LA.gm x0 k i).getD i []).getD k 0)=0)) h (by kernel_rfl) (fun h12=>?_) (fun h12=>?_)
       ·replace h12 : ¬ ((((LA.gm x0 k i).getD i []).getD k 0) = 0) := of_decide_eq_false (notT h12)
        refine at_anyq [{},{},{},{},{},{},{},{},{},{},{},{},{},{},{},{},{},{ nw:=true },{ frz:=true },{},{}] { ts:=[1,4,5,6,7,10,17,18,19,20,30,31,32,33,34,35,36,37,76,77,78,79,80,81,82,83],os:=[1] } [(0:Int)≤((i:Nat):Int)∧((i:Nat):Int) < ((List.length (LA.gm x0 k i):Nat):Int),i < List.length (LA.gm x0 k i),(0:Int)≤(((LA.gjAt x0 k).2:Nat):Int)∧(((LA.gjAt x0 k).2:Nat):Int) < ((List.length (LA.gm x0 k i):Nat):Int),(LA.gjAt x0 k).2 < List.length (LA.gm x0 k i),(0:Int)≤((i:Nat):Int)∧((i:Nat):Int) < ((List.length (LA.gm x0 k i):Nat):Int),i < List.length (LA.gm x0 k i),(0:Int)≤((k:Nat):Int)∧((k:Nat):Int) < ((List.length ((LA.gm x0 k i).getD i []):Nat):Int),I64 (1019 - (((LA.gm x0 k i).getD i []).getD k 0)),Q_spec_AddScaled ((LA.gm x0 k i).getD i []) ((LA.gm x0 k i).getD (LA.gjAt x0 k).2 []) (1019 - (((LA.gm x0 k i).getD i []).getD k 0)),(0:Int)≤((i:Nat):Int)∧((i:Nat):Int) < ((List.length (LA.gm x0 k i):Nat):Int),i < List.length (LA.gm x0 k i)] gamOK hT mixed h (by kernel_rfl) ⟨(by refine ⟨?_,?_⟩<;>(first | omega | (simp only [lsA];omega) | (simp<;>omega))),(by first | omega | (simp only [lsA];omega) | (simp<;>omega)),(by refine ⟨?_,?_⟩<;>(first | omega | (simp only [lsA];omega) | (simp<;>omega))),(by first | omega | (simp only [lsA];omega) | (simp<;>omega)),(by refine ⟨?_,?_⟩<;>(first | omega | (simp only [lsA];omega) | (simp<;>omega))),(by first | omega | (simp only [lsA];omega) | (simp<;>omega)),(by refine ⟨?_,?_⟩<;>(first | omega | (simp only [lsA];omega) | (simp<;>omega))),⟨by first | omega | (simp only [lsA];omega) | (simp<;>omega),by first | omega | (simp only [lsA];omega) | (simp<;>omega)⟩,(by exact ⟨fitV hmi hw2,fitV hma hw2⟩),(by refine ⟨?_,?_⟩<;>(first | omega | (simp only [lsA];omega) | (simp<;>omega))),(by first | omega | (simp only [lsA];omega) | (simp<;>omega)),trivial⟩ fun a w h=>in_normal (then_normal ?_)
        refine at_regq [{},{ nw:=true }] { ts:=[1,4,5,6,7,10,17,18,19,20,30,31,32,33,34,35,36,37,76,77,78,79,80,81,82,83],os:=[1] } [I64 (((i:Nat):Int)+1)] gamOK hT h (by kernel_rfl) ⟨⟨by first | omega | (simp only [lsA];omega) | (simp<;>omega),by first | omega | (simp only [lsA];omega) | (simp<;>omega)⟩,trivial⟩ fun a w h=>?_
        replace h:=at_out (σ':=⟨[(1,aI x1),(4,.p (.c (cN))),(5,aS 1),(6,aI (((LA.gjAt x0 k).2:Nat):Int)),(7,aI ((k:Nat):Int)),(10,aI (((i:Nat):Int)+1)),(17,aI (((LA.gjAt x0 k).2:Nat):Int)),(18,aS 1),(19,aI ((List.length (LA.gjAt x0 k).1:Nat):Int)),(20,aB (decide ((((LA.gjAt x0 k).2:Nat):Int) < ((List.length (LA.gjAt x0 k).1:Nat):Int)))),(30,.p (.c (.v undef))),(31,.p (.c (.v undef))),(32,.p (.c (.v undef))),(33,.p (.c (.v undef))),(34,.p (.c (.v undef))),(35,.p (.c (.v undef))),(36,.p (.c (.v undef))),(37,.p (.c (.v undef)))],[(1,oF s22 (List.set (LA.gm x0 k i) i (addV ((LA.gm x0 k i).getD i []) ((LA.gm x0 k i).getD (LA.gjAt x0 k).2 []) (1019 - (((LA.gm x0 k i).getD i []).getD k 0)))))]⟩) { ts:=[1,4,5,6,7,10,17,18,19,20,30,31,32,33,34,35,36,37],os:=[1] } h (by kernel_rfl)
        exact ⟨i+1,at_eq h (st_congr2 (fun (d0:List (List Int)) (d1:Int)=>(⟨[(1,aI x1),(4,.p (.c (cN))),(5,aS 1),(6,aI (((LA.gjAt x0 k).2:Nat):Int)),(7,aI ((k:Nat):Int)),(10,aI d1),(17,aI (((LA.gjAt x0 k).2:Nat):Int)),(18,aS 1),(19,aI ((List.length (LA.gjAt x0 k).1:Nat):Int)),(20,aB (decide ((((LA.gjAt x0 k).2:Nat):Int) < ((List.length (LA.gjAt x0 k).1:Nat):Int)))),(30,.p (.c (.v undef))),(31,.p (.c (.v undef))),(32,.p (.c (.v undef))),(33,.p (.c (.v undef))),(34,.p (.c (.v undef))),(35,.p (.c (.v undef))),(36,.p (.c (.v undef))),(37,.p (.c (.v undef)))],[(1,oF s22 d0)]⟩:St)) (show ((List.set (LA.gm x0 k i) i (addV ((LA.gm x0 k i).getD i []) ((LA.gm x0 k i).getD (LA.gjAt x0 k).2 []) (1019 - (((LA.gm x0 k i).getD i []).getD k 0)))):List (List Int))=(LA.gm x0 k (i+1)) from by first | with_reducible rfl | (first | exact (LA.gm_same (by omega) (Or.inl (by omega))).symm | exact (LA.gm_same (by omega) (Or.inr (by assumption))).symm | (rw [addV_L hmi hma hw2 (by omega)];exact (LA.gm_add (by omega) hat (by omega) (by assumption)).symm)) | rfl) (show (((i:Nat):Int)+1:Int)=(((i+1):Nat):Int) from by first | with_reducible rfl | (omega) | rfl)),(by omega),(by omega)⟩
       ·replace h12 : (((LA.gm x0 k i).getD i []).getD k 0) = 0 := of_decide_eq_true (notF h12)
        refine wp_skip (in_normal (then_normal ?_))
        refine at_regq [{},{ nw:=true }] { ts:=[1,4,5,6,7,10,17,18,19,20,30,31,32,33,34,35,36,37,76,77,78,79,80,81,82,83],os:=[1] } [I64 (((i:Nat):Int)+1)] gamOK hT h (by kernel_rfl) ⟨⟨by first | omega | (simp only [lsA];omega) | (simp<;>omega),by first | omega | (simp only [lsA];omega) | (simp<;>omega)⟩,trivial⟩ fun a w h=>?_
        replace h:=at_out (σ':=⟨[(1,aI x1),(4,.p (.c (cN))),(5,aS 1),(6,aI (((LA.gjAt x0 k).2:Nat):Int)),(7,aI ((k:Nat):Int)),(10,aI (((i:Nat):Int)+1)),(17,aI (((LA.gjAt x0 k).2:Nat):Int)),(18,aS 1),(19,aI ((List.length (LA.gjAt x0 k).1:Nat):Int)),(20,aB (decide ((((LA.gjAt x0 k).2:Nat):Int) < ((List.length (LA.gjAt x0 k).1:Nat):Int)))),(30,.p (.c (.v undef))),(31,.p (.c (.v undef))),(32,.p (.c (.v undef))),(33,.p (.c (.v undef))),(34,.p (.c (.v undef))),(35,.p (.c (.v undef))),(36,.p (.c (.v undef))),(37,.p (.c (.v undef)))],[(1,oF s22 (LA.gm x0 k i))]⟩) { ts:=[1,4,5,6,7,10,17,18,19,20,30,31,32,33,34,35,36,37],os:=[1] } h (by kernel_rfl)
        exact ⟨i+1,at_eq h (st_congr2 (fun (d0:List (List Int)) (d1:Int)=>(⟨[(1,aI x1),(4,.p (.c (cN))),(5,aS 1),(6,aI (((LA.gjAt x0 k).2:Nat):Int)),(7,aI ((k:Nat):Int)),(10,aI d1),(17,aI (((LA.gjAt x0 k).2:Nat):Int)),(18,aS 1),(19,aI ((List.length (LA.gjAt x0 k).1:Nat):Int)),(20,aB (decide ((((LA.gjAt x0 k).2:Nat):Int) < ((List.length (LA.gjAt x0 k).1:Nat):Int)))),(30,.p (.c (.v undef))),(31,.p (.c (.v undef))),(32,.p (.c (.v undef))),(33,.p (.c (.v undef))),(34,.p (.c (.v undef))),(35,.p (.c (.v undef))),(36,.p (.c (.v undef))),(37,.p (.c (.v undef)))],[(1,oF s22 d0)]⟩:St)) (show ((LA.gm x0 k i):List (List Int))=(LA.gm x0 k (i+1)) from by first | with_reducible rfl | (first | exact (LA.gm_same (by omega) (Or.inl (by omega))).symm | exact (LA.gm_same (by omega) (Or.inr (by assumption))).symm | (rw [addV_L hmi hma hw2 (by omega)];exact (LA.gm_add (by omega) hat (by omega) (by assumption)).symm)) | rfl) (show (((i:Nat):Int)+1:Int)=(((i+1):Nat):Int) from by first | with_reducible rfl | (omega) | rfl)),(by omega),(by omega)⟩
     ·replace h10 : ¬ (((i : Nat) : Int) < ((List.length (LA.gm x0 k i) : Nat) : Int)) := of_decide_eq_false h10
      refine wp_exit (then_exit (then_exit (in_hit (then_normal ?_))))
      refine at_regq [{},{ nw:=true }] { ts:=[1,4,5,6,7,17,18,19,20,30,31,32,33,34,35,36,37],os:=[1] } [I64 ((((LA.gjAt x0 k).2:Nat):Int)+1)] gamOK hT h (by kernel_rfl) ⟨⟨by first | omega | (simp only [lsA];omega) | (simp<;>omega),by first | omega | (simp only [lsA];omega) | (simp<;>omega)⟩,trivial⟩ fun a w h=>in_normal (then_normal ?_)
      refine at_regq [{},{ nw:=true }] { ts:=[1,4,5,6,7,17,18,19,20,30,31,32,33,34,35,36,37],os:=[1] } [I64 (((k:Nat):Int)+1)] gamOK hT h (by kernel_rfl) ⟨⟨by first | omega | (simp only [lsA];omega) | (simp<;>omega),by first | omega | (simp only [lsA];omega) | (simp<;>omega)⟩,trivial⟩ fun a w h=>?_
      replace h:=at_out (σ':=⟨[(1,aI x1),(4,.p (.c (cN))),(5,aS 1),(6,aI ((((LA.gjAt x0 k).2:Nat):Int)+1)),(7,aI (((k:Nat):Int)+1))],[(1,oF s22 (LA.gm x0 k i))]⟩) { ts:=[1,4,5,6,7],os:=[1] } h (by kernel_rfl)
      exact ⟨k+1,at_eq h (st_congr3 (fun (d0:List (List Int)) (d1:Int) (d2:Int)=>(⟨[(1,aI x1),(4,.p (.c (cN))),(5,aS 1),(6,aI d1),(7,aI d2)],[(1,oF s22 d0)]⟩:St)) (show ((LA.gm x0 k i):List (List Int))=(LA.gjAt x0 (k+1)).1 from by first | with_reducible rfl | (first | (rw [LA.gm_none (by omega) (by omega)];done) | (rw [LA.gm_done (i:=i) hat (by omega) (by omega)];try first | rfl | (dsimp only;omega))) | rfl) (show ((((LA.gjAt x0 k).2:Nat):Int)+1:Int)=(((LA.gjAt x0 (k+1)).2:Nat):Int) from by first | with_reducible rfl | (first | (rw [LA.gm_none (by omega) (by omega)];done) | (rw [LA.gm_done (i:=i) hat (by omega) (by omega)];try first | rfl | (dsimp only;omega))) | rfl) (show (((k:Nat):Int)+1:Int)=(((k+1):Nat):Int) from by first | with_reducible rfl | (omega) | rfl)),(by omega),(by omega)⟩
  ·replace h2 : ¬ ((((LA.gjAt x0 k).2 : Nat) : Int) < ((List.length (LA.gjAt x0 k).1 : Nat) : Int)) := of_decide_eq_false h2
   refine wp_exit (then_exit (then_exit (in_hit (then_normal (wp_seq ?_)))))
   refine at_regq [{},{},{ ids:=[2] }] { ts:=[4],os:=[2] } [(0:Int)≤(((LA.gjAt x0 k).2:Nat):Int)∧(((LA.gjAt x0 k).2:Nat):Int)≤((List.length (LA.gjAt x0 k).1:Nat):Int)] gamOK hT h (by kernel_rfl) ⟨(by refine ⟨?_,?_⟩<;>(first | omega | (simp only [lsA];omega) | (simp<;>omega))),trivial⟩ fun a w h=>then_normal (wp_ret ?_)
   exact at_return ((List.take (LA.gjAt x0 k).2 (LA.gjAt x0 k).1),()) [] h (by kernel_rfl) trivial (congrArg (fun z=>(z,())) (show ((List.take (LA.gjAt x0 k).2 (LA.gjAt x0 k).1))=D_spec_l7Reduce x0 x1 from by unfold D_spec_l7Reduce;(exact LA.gm_end hok0 (by omega))))
 ·refine at_regq [{}, {}, { hint := some (aB false) }] { ts := [1, 4, 5, 6, 7, 17, 18, 19, 20, 21], os := [1] } [(AV.p (.c (.v (.bool (decide (((k : Nat) : Int) < x1))))) = AV.p (.c (.v (.bool false))))] gamOK hT h (by kernel_rfl) ⟨hint_bool (decide_eq_false h1), trivial⟩ fun a w h => then_normal ?_
  refine at_test false h (by kernel_rfl) (fun hh=>nomatch hh) (fun hh=>?_)
  refine wp_exit (then_exit (then_exit (in_hit (then_normal (wp_seq ?_)))))
  refine at_regq [{},{},{ ids:=[2] }] { ts:=[4],os:=[2] } [(0:Int)≤(((LA.gjAt x0 k).2:Nat):Int)∧(((LA.gjAt x0 k).2:Nat):Int)≤((List.length (LA.gjAt x0 k).1:Nat):Int)] gamOK hT h (by kernel_rfl) ⟨(by refine ⟨?_,?_⟩<;>(first | omega | (simp only [lsA];omega) | (simp<;>omega))),trivial⟩ fun a w h=>then_normal (wp_ret ?_)
  exact at_return ((List.take (LA.gjAt x0 k).2 (LA.gjAt x0 k).1),()) [] h (by kernel_rfl) trivial (congrArg (fun z=>(z,())) (show ((List.take (LA.gjAt x0 k).2 (LA.gjAt x0 k).1))=D_spec_l7Reduce x0 x1 from by unfold D_spec_l7Reduce;(exact LA.gm_end hok0 (by omega))))

def rowRed (x0:(List (List Int))):(List (List Int)):=(if (validM x0)=true then (D_spec_l7Reduce x0 (colsOf x0)) else ([]:List (List Int)))
abbrev Q_spec_RowReduce:=(fun (x0:(List (List Int)))=>Sh.fit s66 x0)
def S_spec_RowReduce:Sum:={ fid:=145,dom:=[s66],cod:=[s66],dp:=false,fz:=false,pre:=fun x=>Q_spec_RowReduce x.1,g:=fun x=>((rowRed x.1),()) }
def S_spec_RowReduce_tab:List (Nat×Sum):=[(107,S_spec_IsValidMatrix),(66,S_spec_ColumnsOf),(155,S_spec_l7Reduce)]
theorem S_spec_RowReduce_ok:FnOK Try.prog 145 S_spec_RowReduce:=by
 refine at_enter 11 (fun x=>⟨[(0,aF s22 x.1)],[]⟩) Try.func145 rfl (by kernel_rfl) (fun x=>rfl) ?_
 rintro w0 Z0 ⟨x0,u⟩ a w
 revert x0
 intro (x0:(List (List Int))) hpre hlens h
 replace hpre:Q_spec_RowReduce x0:=hpre
 have hT:TabOK Try.prog S_spec_RowReduce_tab:=(.cons S_spec_IsValidMatrix_ok (.cons S_spec_ColumnsOf_ok (.cons S_spec_l7Reduce_ok .nil)))
 have hf0:Sh.fit s66 x0:=hpre
 have hn0_1:List.length x0≤1073741824:=hf0.1
 refine wp_seq ?_
 refine at_regq [] { ts:=[0,2],os:=[] } [] gamOK hT h (by kernel_rfl) trivial fun a w h=>then_normal (wp_seq (wp_seq ?_))
 refine at_regq [] { ts:=[0,2,5],os:=[] } [Q_spec_IsValidMatrix x0] gamOK hT h (by kernel_rfl) ⟨(by exact hf0),trivial⟩ fun a w h=>then_normal ?_
 refine at_test (!(validM x0)) h (by kernel_rfl) (fun h1=>?_) (fun h1=>?_)
 ·replace h1 : (validM x0) = false := notT h1
  refine wp_seq ?_
  refine at_regq [{ ids:=[1],dp:=false }] { ts:=[0,2],os:=[1] } [] gamOK hT h (by kernel_rfl) trivial fun a w h=>then_normal (wp_ret (then_ret ?_))
  exact at_return (([]:List (List Int)),()) [] h (by kernel_rfl) trivial (congrArg (fun z=>(z,())) (show (([]:List (List Int)))=rowRed x0 from by first | rfl | (unfold rowRed;rw [if_neg (neT h1)])))
 ·replace h1 : (validM x0) = true := notF h1
  have hvh1:=validM_t h1
  refine wp_skip (then_normal (wp_seq ?_))
  refine at_regq [{},{},{},{ ids:=[2] }] { ts:=[2],os:=[2] } [Q_spec_ColumnsOf x0,Q_spec_l7Reduce x0 (colsOf x0)] gamOK hT h (by kernel_rfl) ⟨(by exact hf0),(by exact ⟨hf0,l7P_of (by assumption)⟩),trivial⟩ fun a w h=>then_normal (wp_ret ?_)
  exact at_return ((D_spec_l7Reduce x0 (colsOf x0)),()) [] h (by kernel_rfl) trivial (congrArg (fun z=>(z,())) (show ((D_spec_l7Reduce x0 (colsOf x0)))=rowRed x0 from by first | rfl | (unfold rowRed;rw [if_pos h1])))
theorem rowRed_at {m:List (List Int)} (h:validM m=true):rowRed m=LA.gjS m (List.length (m.getD 0 [])):=by
 unfold rowRed D_spec_l7Reduce
 rw [if_pos h,l7_cols]
theorem rowRed_fit {m:List (List Int)} (h:Sh.fit s66 m):Sh.fit s66 (rowRed m):=by
 by_cases hv:validM m=true
 ·rw [rowRed_at hv]
  have hr:=(LA.gjS_ok (validM_ok hv)).1
  have hl:=hr.len
  have hc:=l7_w hv
  exact fitM hr.ok hc (by omega)
 ·unfold rowRed;rw [if_neg hv];exact Sh.fit_nil

def isRedS (x0:(List (List Int))):Bool:=(if (validM x0)=true then ((Sh.eqB s66) (rowRed x0) x0) else false)
abbrev Q_spec_IsReduced:=(fun (x0:(List (List Int)))=>Sh.fit s66 x0)
def S_spec_IsReduced:Sum:={ fid:=138,dom:=[s66],cod:=[(.bool 4)],dp:=true,fz:=false,pre:=fun x=>Q_spec_IsReduced x.1,g:=fun x=>((isRedS x.1),()) }
def S_spec_IsReduced_tab:List (Nat×Sum):=[(107,S_spec_IsValidMatrix),(145,S_spec_RowReduce),(152,S_spec_EqualMatrices)]
theorem S_spec_IsReduced_ok:FnOK Try.prog 138 S_spec_IsReduced:=by
 refine at_enter 11 (fun x=>⟨[(0,aF s22 x.1)],[]⟩) Try.func138 rfl (by kernel_rfl) (fun x=>rfl) ?_
 rintro w0 Z0 ⟨x0,u⟩ a w
 revert x0
 intro (x0:(List (List Int))) hpre hlens h
 replace hpre:Q_spec_IsReduced x0:=hpre
 have hT:TabOK Try.prog S_spec_IsReduced_tab:=(.cons S_spec_IsValidMatrix_ok (.cons S_spec_RowReduce_ok (.cons S_spec_EqualMatrices_ok .nil)))
 have hf0:Sh.fit s66 x0:=hpre
 have hn0_1:List.length x0≤1073741824:=hf0.1
 refine wp_seq ?_
 refine at_regq [] { ts:=[0,2],os:=[] } [] gamOK hT h (by kernel_rfl) trivial fun a w h=>then_normal (wp_seq ?_)
 rcases Bool.eq_false_or_eq_true ((validM x0)) with h1 | h1
 ·have hvh1 := validM_t h1
  refine at_regq [{},{ hint:=some (aB true) },{},{},{ ids:=[1] }] { ts:=[2],os:=[] } [Q_spec_IsValidMatrix x0,(AV.p (.c (.v (.bool ((validM x0)))))=AV.p (.c (.v (.bool true)))),Q_spec_RowReduce x0,True] gamOK hT h (by kernel_rfl) ⟨(by exact hf0),hint_bool (h1),(by exact hf0),trivial,trivial⟩ fun a w h=>then_normal (wp_ret ?_)
  exact at_return (((Sh.eqB s66) (rowRed x0) x0),()) [] h (by kernel_rfl) trivial (congrArg (fun z=>(z,())) (show (((Sh.eqB s66) (rowRed x0) x0))=isRedS x0 from by first | rfl | (unfold isRedS;rw [if_pos h1])))
 ·refine at_regq [{}, { hint := some (aB false) }] { ts := [2], os := [] } [Q_spec_IsValidMatrix x0, (AV.p (.c (.v (.bool ((validM x0))))) = AV.p (.c (.v (.bool false))))] gamOK hT h (by kernel_rfl) ⟨(by exact hf0), hint_bool (h1), trivial⟩ fun a w h => then_normal (wp_ret ?_)
  exact at_return (false,()) [] h (by kernel_rfl) trivial (congrArg (fun z=>(z,())) (show (false)=isRedS x0 from by first | rfl | (unfold isRedS;rw [if_neg (neT h1)])))
theorem isRed_all {n:Nat} {m:List (List Int)} (h:∀ r∈m,LA.VokB n r) (hn:n≤40):isRed m=true↔LA.RedL n m:=by
 rw [← isRed_iff h hn];unfold isRed
 by_cases h1:validM m=true
 ·rw [if_pos h1]; by_cases h2 : allN (redB m) (List.length m) = true
  ·simp [h1,h2]
  ·simp [h1,h2]
 ·rw [if_neg h1];simp [h1]
theorem isRedS_eq (m:List (List Int)):isRedS m=isRed m:=by
 unfold isRedS isRed
 by_cases h1:validM m=true
 ·rw [if_pos h1, if_pos h1, rowRed_at h1, Bool.eq_iff_iff, Sh.eqB_iff, LA.gjS_iff (validM_ok h1), ← red_all (validM_ok h1)]
  by_cases h2:allN (redB m) (List.length m)=true
  ·simp [h2]
  ·simp [h2]
 ·rw [if_neg h1,if_neg h1]
theorem isRed_v {m:List (List Int)} (h:isRed m=true):validM m=true:=by
 unfold isRed at h;split at h
 ·assumption
 ·cases h

def validB (x0:T95):Bool:=(if (inR x0.1 0 40)=true then (if (isRed x0.2)=true then (if ((List.length x0.2:Nat):Int)=0 then true else decide (((List.length (x0.2.getD 0 []):Nat):Int)=x0.1)) else false) else false)
abbrev Q_impl_IsValidBasis:=(fun (x0:T95)=>Sh.fit s95 x0)
def S_impl_IsValidBasis:Sum:={ fid:=115,dom:=[s95],cod:=[(.bool 4)],dp:=true,fz:=false,pre:=fun x=>Q_impl_IsValidBasis x.1,g:=fun x=>((validB x.1),()) }
def S_impl_IsValidBasis_tab:List (Nat×Sum):=[(73,S_impl_InRange),(141,S_impl_IsReduced)]
theorem S_impl_IsValidBasis_ok:FnOK Try.prog 115 S_impl_IsValidBasis:=by
 refine at_enter 27 (fun x=>⟨[(0,aG [cI x.1.1,.ro s22 x.1.2])],[]⟩) Try.func115 rfl (by kernel_rfl) (fun x=>rfl) ?_
 rintro w0 Z0 ⟨x0,u⟩ a w
 revert x0
 intro (x0:T95) hpre hlens h
 replace hpre:Q_impl_IsValidBasis x0:=hpre
 have hT:TabOK Try.prog S_impl_IsValidBasis_tab:=(.cons S_impl_InRange_ok (.cons S_impl_IsReduced_ok .nil))
 have hf0:Sh.fit s95 x0:=hpre
 have hn0_1:List.length x0.2≤1073741824:=hf0.2.1
 refine wp_seq ?_
 refine at_regq [{ ids:=[1] }] { ts:=[1,2],os:=[1] } [] gamOK hT h (by kernel_rfl) trivial fun a w h=>then_normal (wp_seq ?_)
 rcases Bool.eq_false_or_eq_true ((inR x0.1 0 40)) with h1 | h1
 ·have hvh1 := inR_t h1
  rcases Bool.eq_false_or_eq_true ((isRed x0.2)) with h2 | h2
  ·by_cases h3 : ((List.length x0.2 : Nat) : Int) = 0
   ·refine at_anyq [{}, {}, { hint := some (aB true) }, {}, {}, {}, { hint := some (aB true) }, {}, {}, {}, {}, {}, { hint := some (aB true) }, {}, {}, {}, {}, {}, {}, {}, {}, {}, {}, {}, {}] { ts := [2], os := [] } [True, (AV.p (.c (.v (.bool ((inR x0.1 0 40))))) = AV.p (.c (.v (.bool true)))), Q_impl_IsReduced x0.2, (AV.p (.c (.v (.bool ((isRed x0.2))))) = AV.p (.c (.v (.bool true)))), (AV.p (.c (.v (.bool (decide (((List.length x0.2 : Nat) : Int) = 0))))) = AV.p (.c (.v (.bool true))))] gamOK hT mixed h (by kernel_rfl) ⟨trivial, hint_bool (h1), (by exact hf0.2), hint_bool (h2), hint_bool (decide_eq_true h3), trivial⟩ fun a w h => then_normal (wp_ret ?_)
    exact at_return (true,()) [] h (by kernel_rfl) trivial (congrArg (fun z=>(z,())) (show (true)=validB x0 from by first | rfl | (unfold validB;rw [if_pos h1,if_pos h2,if_pos h3])))
   ·refine at_anyq [{}, {}, { hint := some (aB true) }, {}, {}, {}, { hint := some (aB true) }, {}, {}, {}, {}, {}, { hint := some (aB false) }, {}, {}, {}, {}, {}, {}, {}, {}, {}, {}, {}, {}] { ts := [2], os := [] } [True, (AV.p (.c (.v (.bool ((inR x0.1 0 40))))) = AV.p (.c (.v (.bool true)))), Q_impl_IsReduced x0.2, (AV.p (.c (.v (.bool ((isRed x0.2))))) = AV.p (.c (.v (.bool true)))), (AV.p (.c (.v (.bool (decide (((List.length x0.2 : Nat) : Int) = 0))))) = AV.p (.c (.v (.bool false)))), (0 : Int) ≤ 0 ∧ 0 < ((List.length x0.2 : Nat) : Int)] gamOK hT mixed h (by kernel_rfl) ⟨trivial, hint_bool (h1), (by exact hf0.2), hint_bool (h2), hint_bool (decide_eq_false h3), (by refine ⟨?_, ?_⟩ <;> (first | omega | (simp only [lsA]; omega) | (simp <;> omega))), trivial⟩ fun a w h => then_normal (wp_ret ?_)
    exact at_return (decide (((List.length (x0.2.getD 0 []):Nat):Int)=x0.1),()) [] h (by kernel_rfl) trivial (congrArg (fun z=>(z,())) (show (decide (((List.length (x0.2.getD 0 []):Nat):Int)=x0.1))=validB x0 from by first | rfl | (unfold validB;rw [if_pos h1,if_pos h2,if_neg h3])))
  ·refine at_anyq [{}, {}, { hint := some (aB true) }, {}, {}, {}, { hint := some (aB false) }, {}, {}, {}, {}, {}, {}, {}, {}, {}, {}, {}, {}, {}, {}, {}, {}, {}, {}] { ts := [2], os := [] } [True, (AV.p (.c (.v (.bool ((inR x0.1 0 40))))) = AV.p (.c (.v (.bool true)))), Q_impl_IsReduced x0.2, (AV.p (.c (.v (.bool ((isRed x0.2))))) = AV.p (.c (.v (.bool false))))] gamOK hT mixed h (by kernel_rfl) ⟨trivial, hint_bool (h1), (by exact hf0.2), hint_bool (h2), trivial⟩ fun a w h => then_normal (wp_ret ?_)
   exact at_return (false,()) [] h (by kernel_rfl) trivial (congrArg (fun z=>(z,())) (show (false)=validB x0 from by first | rfl | (unfold validB;rw [if_pos h1,if_neg (neT h2)])))
 ·have hvh1 := inR_f h1
  refine at_anyq [{},{},{ hint:=some (aB false) },{},{},{},{},{},{},{},{},{},{},{},{},{},{},{},{},{},{},{},{},{},{}] { ts:=[2],os:=[] } [True,(AV.p (.c (.v (.bool ((inR x0.1 0 40)))))=AV.p (.c (.v (.bool false))))] gamOK hT mixed h (by kernel_rfl) ⟨trivial,hint_bool (h1),trivial⟩ fun a w h=>then_normal (wp_ret ?_)
  exact at_return (false,()) [] h (by kernel_rfl) trivial (congrArg (fun z=>(z,())) (show (false)=validB x0 from by first | rfl | (unfold validB;rw [if_neg (neT h1)])))

def validBS (x0:T95):Bool:=(if (List.all x0.2 (fun r=>decide (((List.length r:Nat):Int)=x0.1)))=true then (if (inR x0.1 0 40)=true then (isRedS x0.2) else false) else false)
abbrev Q_spec_IsValidBasis:=(fun (x0:T95)=>Sh.fit s95 x0)
def S_spec_IsValidBasis:Sum:={ fid:=104,dom:=[s95],cod:=[(.bool 4)],dp:=true,fz:=false,pre:=fun x=>Q_spec_IsValidBasis x.1,g:=fun x=>((validBS x.1),()) }
def S_spec_IsValidBasis_tab:List (Nat×Sum):=[(59,S_spec_l1In),(138,S_spec_IsReduced)]
theorem S_spec_IsValidBasis_ok:FnOK Try.prog 104 S_spec_IsValidBasis:=by
 refine at_enter 28 (fun x=>⟨[(0,aG [cI x.1.1,.ro s22 x.1.2])],[]⟩) Try.func104 rfl (by kernel_rfl) (fun x=>rfl) ?_
 rintro w0 Z0 ⟨x0,u⟩ a w
 revert x0
 intro (x0:T95) hpre hlens h
 replace hpre:Q_spec_IsValidBasis x0:=hpre
 have hT:TabOK Try.prog S_spec_IsValidBasis_tab:=(.cons S_spec_l1In_ok (.cons S_spec_IsReduced_ok .nil))
 have hf0:Sh.fit s95 x0:=hpre
 have hn0_1:List.length x0.2≤1073741824:=hf0.2.1
 refine wp_seq ?_
 refine at_regq [{ ids:=[1] }] { ts:=[1,2],os:=[1] } [] gamOK hT h (by kernel_rfl) trivial fun a w h=>then_normal (wp_seq (wp_seq ?_))
 refine at_regq [] { ts:=[1,2,3],os:=[1] } [] gamOK hT h (by kernel_rfl) trivial fun a w h=>then_normal (wp_block ?_)
 replace h:=at_out (σ':=⟨[(1,aP 1 0),(2,aB false),(3,aI 0)],[(1,oX 95 [cI x0.1,.ro s22 x0.2])]⟩) { ts:=[1,2,3],os:=[1] } h (by kernel_rfl)
 refine at_loop (fun i:Nat=>(⟨[(1,aP 1 0),(2,aB false),(3,aI ((i:Nat):Int))],[(1,oX 95 [cI x0.1,.ro s22 x0.2])]⟩:St)) (fun i=>(i≤List.length x0.2∧allTo1 (fun r=>decide (((List.length r:Nat):Int)=x0.1)) x0.2 [] i)) (fun i=>List.length x0.2 - i) (0) h (st_congr1 (fun (d0:Int)=>(⟨[(1,aP 1 0),(2,aB false),(3,aI d0)],[(1,oX 95 [cI x0.1,.ro s22 x0.2])]⟩:St)) (show (0:Int)=(((0):Nat):Int) from by first | with_reducible rfl | (rfl) | rfl)) (by exact ⟨Nat.zero_le _,allTo1_zero⟩) ?_
 intro i a w hok0 h
 refine wp_seq (wp_seq ?_)
 refine at_regq [] { ts:=[1,2,3,8],os:=[1] } [] gamOK hT h (by kernel_rfl) trivial fun a w h=>then_normal ?_
 refine at_test (decide (((i:Nat):Int) < ((List.length x0.2:Nat):Int))) h (by kernel_rfl) (fun h1=>?_) (fun h1=>?_)
 ·replace h1 : ((i : Nat) : Int) < ((List.length x0.2 : Nat) : Int) := of_decide_eq_true h1
  refine wp_skip (then_normal (wp_seq (wp_block (wp_seq ?_))))
  refine at_anyq [{},{},{},{},{},{},{},{},{}] { ts:=[1,2,3,19],os:=[1] } [(0:Int)≤((i:Nat):Int)∧((i:Nat):Int) < ((List.length x0.2:Nat):Int)] gamOK hT mixed h (by kernel_rfl) ⟨(by refine ⟨?_,?_⟩<;>(first | omega | (simp only [lsA];omega) | (simp<;>omega))),trivial⟩ fun a w h=>then_normal ?_
  refine at_test (!decide (((List.length (x0.2.getD i []):Nat):Int)=x0.1)) h (by kernel_rfl) (fun h2=>?_) (fun h2=>?_)
  ·replace h2 : ¬ (((List.length (x0.2.getD i []) : Nat) : Int) = x0.1) := of_decide_eq_false (notT h2)
   refine wp_seq ?_
   refine at_regq [] { ts:=[1,2,3],os:=[1] } [] gamOK hT h (by kernel_rfl) trivial fun a w h=>then_normal (wp_ret (in_ret (then_ret ?_)))
   have hs3:(List.all x0.2 (fun r=>decide (((List.length r:Nat):Int)=x0.1)))=false:=by exact all_at (z:=[]) (i:=i) (by omega) (by first | assumption | exact decide_eq_false (by omega) | (simp_all;done))
   refine then_ret (in_ret (then_ret ?_))
   exact at_return (false,()) [] h (by kernel_rfl) trivial (congrArg (fun z=>(z,())) (show (false)=validBS x0 from by first | rfl | (unfold validBS;rw [if_neg (neT hs3)])))
  ·replace h2 : ((List.length (x0.2.getD i []) : Nat) : Int) = x0.1 := of_decide_eq_true (notF h2)
   refine wp_skip (in_normal (then_normal ?_))
   refine at_regq [{},{ nw:=true }] { ts:=[1,2,3],os:=[1] } [I64 (((i:Nat):Int)+1)] gamOK hT h (by kernel_rfl) ⟨⟨by first | omega | (simp only [lsA];omega) | (simp<;>omega),by first | omega | (simp only [lsA];omega) | (simp<;>omega)⟩,trivial⟩ fun a w h=>?_
   replace h:=at_out (σ':=⟨[(1,aP 1 0),(2,aB false),(3,aI (((i:Nat):Int)+1))],[(1,oX 95 [cI x0.1,.ro s22 x0.2])]⟩) { ts:=[1,2,3],os:=[1] } h (by kernel_rfl)
   exact ⟨i+1,at_eq h (st_congr1 (fun (d0:Int)=>(⟨[(1,aP 1 0),(2,aB false),(3,aI d0)],[(1,oX 95 [cI x0.1,.ro s22 x0.2])]⟩:St)) (show (((i:Nat):Int)+1:Int)=(((i+1):Nat):Int) from by first | with_reducible rfl | (omega) | rfl)),(by exact ⟨by omega,allTo1_succ hok0.2 (by first | assumption | exact decide_eq_true (by omega) | (simp_all;done))⟩),(by omega)⟩
 ·replace h1 : ¬ (((i : Nat) : Int) < ((List.length x0.2 : Nat) : Int)) := of_decide_eq_false h1
  refine wp_exit (then_exit ?_)
  have hs4:(List.all x0.2 (fun r=>decide (((List.length r:Nat):Int)=x0.1)))=true:=by exact all_of (z:=[]) (i:=i) (by omega) hok0.2
  refine then_exit (in_hit (then_normal (wp_seq ?_)))
  rcases Bool.eq_false_or_eq_true ((inR x0.1 0 40)) with h5 | h5
  ·have hvh5 := inR_t h5
   refine at_regq [{},{},{ hint:=some (aB true) }] { ts:=[2],os:=[] } [True,(AV.p (.c (.v (.bool ((inR x0.1 0 40)))))=AV.p (.c (.v (.bool true)))),Q_spec_IsReduced x0.2] gamOK hT h (by kernel_rfl) ⟨trivial,hint_bool (h5),(by exact hf0.2),trivial⟩ fun a w h=>then_normal (wp_ret ?_)
   exact at_return ((isRedS x0.2),()) [] h (by kernel_rfl) trivial (congrArg (fun z=>(z,())) (show ((isRedS x0.2))=validBS x0 from by first | rfl | (unfold validBS;rw [if_pos hs4,if_pos h5])))
  ·have hvh5 := inR_f h5
   refine at_regq [{},{},{ hint:=some (aB false) }] { ts:=[2],os:=[] } [True,(AV.p (.c (.v (.bool ((inR x0.1 0 40)))))=AV.p (.c (.v (.bool false))))] gamOK hT h (by kernel_rfl) ⟨trivial,hint_bool (h5),trivial⟩ fun a w h=>then_normal (wp_ret ?_)
   exact at_return (false,()) [] h (by kernel_rfl) trivial (congrArg (fun z=>(z,())) (show (false)=validBS x0 from by first | rfl | (unfold validBS;rw [if_pos hs4,if_neg (neT h5)])))
def basP (b:T95):Prop:=(0≤b.1∧b.1≤40)∧LA.RedL b.1.toNat b.2
theorem basP_w {b:T95} (h:isRed b.2=true) (h0:0≤b.1∧b.1≤40) (hw:∀ r∈b.2,((List.length r:Nat):Int)=b.1):basP b:=by
 refine ⟨h0,?_⟩
 have hv:=validM_t (isRed_v h)
 have hk:∀ r∈b.2,LA.VokB b.1.toNat r:=fun r hr=>⟨by have:=hw r hr;omega,(validV_t (hv.2 r hr).1).2.1⟩
 exact (isRed_all hk (by omega)).1 h
theorem validB_iff (b:T95):validB b=true↔basP b:=by
 constructor
 ·intro h
  unfold validB at h
  split at h
  ·split at h
   ·rename_i h1 h2
    have h0:=inR_t h1
    refine basP_w h2 h0 fun r hr=>?_
    have hv:=(validM_t (isRed_v h2)).2 r hr
    have hp:=List.length_pos_of_mem hr
    split at h
    ·omega
    ·have:=of_decide_eq_true h;rw [hv.2];exact this
   ·cases h
  ·cases h
 ·intro h
  have hr:isRed b.2=true:=(isRed_all h.2.ok (by have:=h.1;omega)).2 h.2
  unfold validB
  rw [if_pos (inR_true h.1),if_pos hr]
  split
  ·rfl
  ·rename_i h0
   have:=(h.2.ok _ (LA.getD_in (rows:=b.2) (i:=0) (by omega))).1
   exact decide_eq_true (by have:=h.1;omega)
theorem validBS_eq (b:T95):validBS b=validB b:=by
 rw [Bool.eq_iff_iff,validB_iff]
 constructor
 ·intro h
  unfold validBS at h
  split at h
  ·split at h
   ·rename_i h1 h2
    rw [isRedS_eq] at h
    exact basP_w h (inR_t h2) fun r hr=>of_decide_eq_true (List.all_eq_true.1 h1 r hr)
   ·cases h
  ·cases h
 ·intro h
  have hr:isRed b.2=true:=(isRed_all h.2.ok (by have:=h.1;omega)).2 h.2
  unfold validBS
  rw [if_pos (List.all_eq_true.2 fun r hr=>decide_eq_true (by have:=(h.2.ok r hr).1;have:=h.1;omega)),if_pos (inR_true h.1),isRedS_eq]
  exact hr
theorem validB_t {b:T95} (h:validB b=true):basP b:=(validB_iff b).1 h
theorem validBS_t {b:T95} (h:validBS b=true):basP b:=validB_t (by rwa [validBS_eq] at h)
def redP (b:T95) (v:List Int):Prop:=basP b∧LA.VokB b.1.toNat v
def takesB (x0:T95) (x1:List Int):Bool:=if validB x0=true then (if validV x1=true then decide (((List.length x1:Nat):Int)=x0.1) else false) else false
theorem takesB_t {b:T95} {v:List Int} (h:takesB b v=true):redP b v:=by
 unfold takesB at h
 split at h
 ·split at h
  ·rename_i h1 h2
   have:=of_decide_eq_true h
   have hb:=validB_t h1
   exact ⟨hb,by omega,(validV_t h2).2.1⟩
  ·cases h
 ·cases h
theorem takesB_of {b:T95} {v:List Int} (h:redP b v):takesB b v=true:=by
 unfold takesB
 rw [if_pos ((validB_iff b).2 h.1),if_pos (validV_of h.2 (by have:=h.1.1;omega))]
 exact decide_eq_true (by have:=h.2.1;have:=h.1.1;omega)
theorem basP_fit {a:T95} (h:basP a):Sh.fit s95 a:=⟨trivial,fitM h.2.ok (by have:=h.1;omega) (by have:=h.2.len;have:=h.1;omega)⟩
theorem ctL_bd {α:Type} {c:α→Nat} {m:Nat}:∀ {xs:List α},(∀ x∈xs,c x≤m)→ctL c xs≤m*xs.length
 | [],_=>Nat.zero_le _
 | x :: l, h => by
  have h1:=h x (by simp)
  have h2:=ctL_bd (xs:=l) (fun y hy=>h y (by simp [hy]))
  simp only [ctL,List.length_cons,Nat.mul_add,Nat.mul_one];omega
theorem basP_sz {a:T95} (h:basP a):Sh.sz s95 a≤2000:=by
 have h1:Sh.sz s95 a=0+(List.length a.2+ctL (Sh.sz s22) a.2):=rfl
 have h2:=ctL_bd (c:=Sh.sz s22) (m:=40) (xs:=a.2) (fun x hx=>by rw [sz_flat (by rfl)];have:=(h.2.ok x hx).1;have:=h.1;omega)
 have h3:=h.2.len;have h4:=h.1
 omega
def insU (b:T95) (v:List Int):T95:=(b.1,(LA.insS b.2 v).1)
def insD (b:T95) (v:List Int):Bool:=(LA.insS b.2 v).2

abbrev Q__impl_Basis_clone:=(fun (x0:T95)=>Sh.fit s95 x0)
def S__impl_Basis_clone:Sum:={ fid:=110,dom:=[s95],cod:=[s95],dp:=true,fz:=false,pre:=fun x=>Q__impl_Basis_clone x.1,g:=fun x=>(((idD s95) x.1),()) }
def S__impl_Basis_clone_tab:List (Nat×Sum):=[(111,S_impl_copyMatrix)]
theorem S__impl_Basis_clone_ok:FnOK Try.prog 110 S__impl_Basis_clone:=by
 refine at_enter 9 (fun x=>⟨[(0,aG [cI x.1.1,.ro s22 x.1.2])],[]⟩) Try.func110 rfl (by kernel_rfl) (fun x=>rfl) ?_
 rintro w0 Z0 ⟨x0,u⟩ a w
 revert x0
 intro (x0:T95) hpre hlens h
 replace hpre:Q__impl_Basis_clone x0:=hpre
 have hT:TabOK Try.prog S__impl_Basis_clone_tab:=(.cons S_impl_copyMatrix_ok .nil)
 have hf0:Sh.fit s95 x0:=hpre
 have hn0_1:List.length x0.2≤1073741824:=hf0.2.1
 refine wp_seq ?_
 refine at_regq [{ ids:=[1] },{ ids:=[2] }] { ts:=[1,2],os:=[1,2] } [] gamOK hT h (by kernel_rfl) trivial fun a w h=>then_normal (wp_seq ?_)
 refine at_anyq [{},{},{},{},{ ids:=[3] },{},{}] { ts:=[2],os:=[2,3] } [Q_impl_copyMatrix x0.2] gamOK hT mixed h (by kernel_rfl) ⟨(by exact hf0.2),trivial⟩ fun a w h=>then_normal (wp_ret ?_)
 exact at_return (x0,()) [] h (by kernel_rfl) trivial (congrArg (fun z=>(z,())) (show (x0)=(idD s95) x0 from by rfl))

abbrev Q_spec_l8Copy:=(fun (x0:T95)=>Sh.fit s95 x0)
def S_spec_l8Copy:Sum:={ fid:=102,dom:=[s95],cod:=[s95],dp:=false,fz:=false,pre:=fun x=>Q_spec_l8Copy x.1,g:=fun x=>(((idD s95) x.1),()) }
def S_spec_l8Copy_tab:List (Nat×Sum):=[(103,S_spec_l6Copy)]
theorem S_spec_l8Copy_ok:FnOK Try.prog 102 S_spec_l8Copy:=by
 refine at_enter 9 (fun x=>⟨[(0,aG [cI x.1.1,.ro s22 x.1.2])],[]⟩) Try.func102 rfl (by kernel_rfl) (fun x=>rfl) ?_
 rintro w0 Z0 ⟨x0,u⟩ a w
 revert x0
 intro (x0:T95) hpre hlens h
 replace hpre:Q_spec_l8Copy x0:=hpre
 have hT:TabOK Try.prog S_spec_l8Copy_tab:=(.cons S_spec_l6Copy_ok .nil)
 have hf0:Sh.fit s95 x0:=hpre
 have hn0_1:List.length x0.2≤1073741824:=hf0.2.1
 refine wp_seq ?_
 refine at_regq [{ ids:=[1] },{ ids:=[2] }] { ts:=[1,2],os:=[1,2] } [] gamOK hT h (by kernel_rfl) trivial fun a w h=>then_normal (wp_seq ?_)
 refine at_anyq [{},{},{},{},{ ids:=[3] },{},{}] { ts:=[2],os:=[2,3] } [Q_spec_l6Copy x0.2] gamOK hT mixed h (by kernel_rfl) ⟨(by exact hf0.2),trivial⟩ fun a w h=>then_normal (wp_ret ?_)
 exact at_return (x0,()) [] h (by kernel_rfl) trivial (congrArg (fun z=>(z,())) (show (x0)=(idD s95) x0 from by rfl))

def D_impl_SymbolWidth:=(fun (g:T68)=>colsOf g.2)
abbrev Q_impl_SymbolWidth:=(fun (x0:T68)=>Sh.fit s68 x0)
def S_impl_SymbolWidth:Sum:={ fid:=78,dom:=[s68],cod:=[(.int 3)],dp:=true,fz:=false,pre:=fun x=>Q_impl_SymbolWidth x.1,g:=fun x=>((D_impl_SymbolWidth x.1),()) }
def S_impl_SymbolWidth_tab:List (Nat×Sum):=[(118,S_impl_ColumnsOf)]
theorem S_impl_SymbolWidth_ok:FnOK Try.prog 78 S_impl_SymbolWidth:=by
 refine at_enter 6 (fun x=>⟨[(0,aG [cI x.1.1,.ro s22 x.1.2])],[]⟩) Try.func78 rfl (by kernel_rfl) (fun x=>rfl) ?_
 rintro w0 Z0 ⟨x0,u⟩ a w
 revert x0
 intro (x0:T68) hpre hlens h
 replace hpre:Q_impl_SymbolWidth x0:=hpre
 have hT:TabOK Try.prog S_impl_SymbolWidth_tab:=(.cons S_impl_ColumnsOf_ok .nil)
 have hf0:Sh.fit s68 x0:=hpre
 have hn0_1:List.length x0.2≤1073741824:=hf0.2.1
 refine wp_seq ?_
 refine at_regq [{ ids:=[1] }] { ts:=[1,2],os:=[1] } [] gamOK hT h (by kernel_rfl) trivial fun a w h=>then_normal (wp_seq ?_)
 refine at_regq [] { ts:=[2],os:=[] } [Q_impl_ColumnsOf x0.2] gamOK hT h (by kernel_rfl) ⟨(by exact hf0.2),trivial⟩ fun a w h=>then_normal (wp_ret ?_)
 exact at_return ((colsOf x0.2),()) [] h (by kernel_rfl) trivial (congrArg (fun z=>(z,())) (show ((colsOf x0.2))=D_impl_SymbolWidth x0 from by unfold D_impl_SymbolWidth;rfl))

def validG (x0:T68):Bool:=(if (inR x0.1 0 1000000000000)=true then (if (inR ((List.length x0.2:Nat):Int) 1 8)=true then (if (validM x0.2)=true then (inR (colsOf x0.2) 1 16) else false) else false) else false)
abbrev Q_spec_IsValidGeneration:=(fun (x0:T68)=>Sh.fit s68 x0)
def S_spec_IsValidGeneration:Sum:={ fid:=65,dom:=[s68],cod:=[(.bool 4)],dp:=true,fz:=false,pre:=fun x=>Q_spec_IsValidGeneration x.1,g:=fun x=>((validG x.1),()) }
def S_spec_IsValidGeneration_tab:List (Nat×Sum):=[(59,S_spec_l1In),(107,S_spec_IsValidMatrix),(66,S_spec_ColumnsOf)]
theorem S_spec_IsValidGeneration_ok:FnOK Try.prog 65 S_spec_IsValidGeneration:=by
 refine at_enter 23 (fun x=>⟨[(0,aG [cI x.1.1,.ro s22 x.1.2])],[]⟩) Try.func65 rfl (by kernel_rfl) (fun x=>rfl) ?_
 rintro w0 Z0 ⟨x0,u⟩ a w
 revert x0
 intro (x0:T68) hpre hlens h
 replace hpre:Q_spec_IsValidGeneration x0:=hpre
 have hT:TabOK Try.prog S_spec_IsValidGeneration_tab:=(.cons S_spec_l1In_ok (.cons S_spec_IsValidMatrix_ok (.cons S_spec_ColumnsOf_ok .nil)))
 have hf0:Sh.fit s68 x0:=hpre
 have hn0_1:List.length x0.2≤1073741824:=hf0.2.1
 refine wp_seq ?_
 refine at_regq [{ ids:=[1] }] { ts:=[1,2],os:=[1] } [] gamOK hT h (by kernel_rfl) trivial fun a w h=>then_normal (wp_seq ?_)
 rcases Bool.eq_false_or_eq_true ((inR x0.1 0 1000000000000)) with h1 | h1
 ·have hvh1 := inR_t h1
  rcases Bool.eq_false_or_eq_true ((inR ((List.length x0.2:Nat):Int) 1 8)) with h2 | h2
  ·have hvh2 := inR_t h2
   rcases Bool.eq_false_or_eq_true ((validM x0.2)) with h3 | h3
   ·have hvh3 := validM_t h3
    refine at_regq [{},{},{ hint:=some (aB true) },{},{},{},{},{ hint:=some (aB true) },{},{},{},{},{ hint:=some (aB true) }] { ts:=[2],os:=[] } [True,(AV.p (.c (.v (.bool ((inR x0.1 0 1000000000000)))))=AV.p (.c (.v (.bool true)))),True,(AV.p (.c (.v (.bool ((inR ((List.length x0.2:Nat):Int) 1 8)))))=AV.p (.c (.v (.bool true)))),Q_spec_IsValidMatrix x0.2,(AV.p (.c (.v (.bool ((validM x0.2)))))=AV.p (.c (.v (.bool true)))),Q_spec_ColumnsOf x0.2,True] gamOK hT h (by kernel_rfl) ⟨trivial,hint_bool (h1),trivial,hint_bool (h2),(by exact hf0.2),hint_bool (h3),(by exact hf0.2),trivial,trivial⟩ fun a w h=>then_normal (wp_ret ?_)
    exact at_return ((inR (colsOf x0.2) 1 16),()) [] h (by kernel_rfl) trivial (congrArg (fun z=>(z,())) (show ((inR (colsOf x0.2) 1 16))=validG x0 from by first | rfl | (unfold validG;rw [if_pos h1,if_pos h2,if_pos h3])))
   ·refine at_regq [{}, {}, { hint := some (aB true) }, {}, {}, {}, {}, { hint := some (aB true) }, {}, {}, {}, {}, { hint := some (aB false) }] { ts := [2], os := [] } [True, (AV.p (.c (.v (.bool ((inR x0.1 0 1000000000000))))) = AV.p (.c (.v (.bool true)))), True, (AV.p (.c (.v (.bool ((inR ((List.length x0.2 : Nat) : Int) 1 8))))) = AV.p (.c (.v (.bool true)))), Q_spec_IsValidMatrix x0.2, (AV.p (.c (.v (.bool ((validM x0.2))))) = AV.p (.c (.v (.bool false))))] gamOK hT h (by kernel_rfl) ⟨trivial, hint_bool (h1), trivial, hint_bool (h2), (by exact hf0.2), hint_bool (h3), trivial⟩ fun a w h => then_normal (wp_ret ?_)
    exact at_return (false,()) [] h (by kernel_rfl) trivial (congrArg (fun z=>(z,())) (show (false)=validG x0 from by first | rfl | (unfold validG;rw [if_pos h1,if_pos h2,if_neg (neT h3)])))
  ·have hvh2 := inR_f h2
   refine at_regq [{},{},{ hint:=some (aB true) },{},{},{},{},{ hint:=some (aB false) }] { ts:=[2],os:=[] } [True,(AV.p (.c (.v (.bool ((inR x0.1 0 1000000000000)))))=AV.p (.c (.v (.bool true)))),True,(AV.p (.c (.v (.bool ((inR ((List.length x0.2:Nat):Int) 1 8)))))=AV.p (.c (.v (.bool false))))] gamOK hT h (by kernel_rfl) ⟨trivial,hint_bool (h1),trivial,hint_bool (h2),trivial⟩ fun a w h=>then_normal (wp_ret ?_)
   exact at_return (false,()) [] h (by kernel_rfl) trivial (congrArg (fun z=>(z,())) (show (false)=validG x0 from by first | rfl | (unfold validG;rw [if_pos h1,if_neg (neT h2)])))
 ·have hvh1 := inR_f h1
  refine at_regq [{},{},{ hint:=some (aB false) }] { ts:=[2],os:=[] } [True,(AV.p (.c (.v (.bool ((inR x0.1 0 1000000000000)))))=AV.p (.c (.v (.bool false))))] gamOK hT h (by kernel_rfl) ⟨trivial,hint_bool (h1),trivial⟩ fun a w h=>then_normal (wp_ret ?_)
  exact at_return (false,()) [] h (by kernel_rfl) trivial (congrArg (fun z=>(z,())) (show (false)=validG x0 from by first | rfl | (unfold validG;rw [if_neg (neT h1)])))
theorem validG_t {g:T68} (h:validG g=true):(0≤g.1∧g.1≤1000000000000)∧(1≤List.length g.2∧List.length g.2≤8)∧validM g.2=true∧(1≤colsOf g.2∧colsOf g.2≤16):=by
 unfold validG at h
 split at h
 ·split at h
  ·split at h
   ·rename_i h1 h2 h3
    have a1:=inR_t h1;have a2:=inR_t h2;have a3:=inR_t h
    exact ⟨a1,by omega,h3,a3⟩
   ·cases h
  ·cases h
 ·cases h
theorem colsOf_at {m:List (List Int)} (h:1≤List.length m):colsOf m=((List.length (m.getD 0 []):Nat):Int):=by unfold colsOf;rw [if_neg (by omega)]

abbrev Q_impl_IsValidGeneration:=(fun (x0:T68)=>Sh.fit s68 x0)
def S_impl_IsValidGeneration:Sum:={ fid:=77,dom:=[s68],cod:=[(.bool 4)],dp:=true,fz:=false,pre:=fun x=>Q_impl_IsValidGeneration x.1,g:=fun x=>((validG x.1),()) }
def S_impl_IsValidGeneration_tab:List (Nat×Sum):=[(73,S_impl_InRange),(117,S_impl_IsValidVector),(78,S_impl_SymbolWidth)]
theorem S_impl_IsValidGeneration_ok:FnOK Try.prog 77 S_impl_IsValidGeneration:=by
 refine at_enter 40 (fun x=>⟨[(0,aG [cI x.1.1,.ro s22 x.1.2])],[]⟩) Try.func77 rfl (by kernel_rfl) (fun x=>rfl) ?_
 rintro w0 Z0 ⟨x0,u⟩ a w
 revert x0
 intro (x0:T68) hpre hlens h
 replace hpre:Q_impl_IsValidGeneration x0:=hpre
 have hT:TabOK Try.prog S_impl_IsValidGeneration_tab:=(.cons S_impl_InRange_ok (.cons S_impl_IsValidVector_ok (.cons S_impl_SymbolWidth_ok .nil)))
 have hf0:Sh.fit s68 x0:=hpre
 have hn0_1:List.length x0.2≤1073741824:=hf0.2.1
 refine wp_seq ?_
 refine at_regq [{ ids:=[1] }] { ts:=[1,2],os:=[1] } [] gamOK hT h (by kernel_rfl) trivial fun a w h=>then_normal (wp_seq (wp_seq ?_))
 rcases Bool.eq_false_or_eq_true (!(inR x0.1 0 1000000000000)) with h1 | h1
 ·have hzh1 : (inR x0.1 0 1000000000000) = false := notT h1
  have hvh1:=inR_f (notT h1)
  refine at_regq [{},{},{},{ hint:=some (aB true) }] { ts:=[1,2,15],os:=[1] } [True,(AV.p (.c (.v (.bool (!(inR x0.1 0 1000000000000)))))=AV.p (.c (.v (.bool true))))] gamOK hT h (by kernel_rfl) ⟨trivial,hint_bool (h1),trivial⟩ fun a w h=>then_normal ?_
  refine at_test true h (by kernel_rfl) (fun hh=>?_) (fun hh=>nomatch hh)
  refine wp_seq ?_
  refine at_regq [] { ts:=[1,2],os:=[1] } [] gamOK hT h (by kernel_rfl) trivial fun a w h=>then_normal (wp_ret (then_ret ?_))
  exact at_return (false,()) [] h (by kernel_rfl) trivial (congrArg (fun z=>(z,())) (show (false)=validG x0 from by first | rfl | (unfold validG;rw [if_neg (neT (notT h1))];done) | (unfold validG;(repeat (first | rfl | split))<;>(first | rfl | omega | (simp_all [-List.all_eq_true,-List.any_eq_true,-List.all_eq_false,-List.any_eq_false,validM,D_impl_SymbolWidth];done) | (simp_all [-List.all_eq_true,-List.any_eq_true,-List.all_eq_false,-List.any_eq_false,validM,D_impl_SymbolWidth];omega) | (exfalso;simp_all [-List.all_eq_true,-List.any_eq_true,-List.all_eq_false,-List.any_eq_false,validM,D_impl_SymbolWidth];omega)))))
 ·have hzh1 : (inR x0.1 0 1000000000000) = true := notF h1
  have hvh1:=inR_t (notF h1)
  refine at_regq [{},{},{},{ hint:=some (aB false) }] { ts:=[1,2,15],os:=[1] } [True,(AV.p (.c (.v (.bool (!(inR x0.1 0 1000000000000)))))=AV.p (.c (.v (.bool false)))),True] gamOK hT h (by kernel_rfl) ⟨trivial,hint_bool (h1),trivial,trivial⟩ fun a w h=>then_normal ?_
  refine at_test (!(inR ((List.length x0.2:Nat):Int) 1 8)) h (by kernel_rfl) (fun h2=>?_) (fun h2=>?_)
  ·replace h2 : (inR ((List.length x0.2 : Nat) : Int) 1 8) = false := notT h2
   have hvh2:=inR_f h2
   refine wp_seq ?_
   refine at_regq [] { ts:=[1,2],os:=[1] } [] gamOK hT h (by kernel_rfl) trivial fun a w h=>then_normal (wp_ret (then_ret ?_))
   exact at_return (false,()) [] h (by kernel_rfl) trivial (congrArg (fun z=>(z,())) (show (false)=validG x0 from by first | rfl | (unfold validG;rw [if_pos (notF h1),if_neg (neT h2)];done) | (unfold validG;(repeat (first | rfl | split))<;>(first | rfl | omega | (simp_all [-List.all_eq_true,-List.any_eq_true,-List.all_eq_false,-List.any_eq_false,validM,D_impl_SymbolWidth];done) | (simp_all [-List.all_eq_true,-List.any_eq_true,-List.all_eq_false,-List.any_eq_false,validM,D_impl_SymbolWidth];omega) | (exfalso;simp_all [-List.all_eq_true,-List.any_eq_true,-List.all_eq_false,-List.any_eq_false,validM,D_impl_SymbolWidth];omega)))))
  ·replace h2 : (inR ((List.length x0.2 : Nat) : Int) 1 8) = true := notF h2
   have hvh2:=inR_t h2
   refine wp_skip (then_normal (wp_seq (wp_seq ?_)))
   refine at_regq [] { ts:=[1,2,17,18,19],os:=[1] } [] gamOK hT h (by kernel_rfl) trivial fun a w h=>then_normal (wp_block ?_)
   replace h:=at_out (σ':=⟨[(1,aP 1 0),(2,aB false),(17,aF s22 x0.2),(18,aI ((List.length x0.2:Nat):Int)),(19,aI 0)],[(1,oX 68 [cI x0.1,.ro s22 x0.2])]⟩) { ts:=[1,2,17,18,19],os:=[1] } h (by kernel_rfl)
   refine at_loop (fun i:Nat=>(⟨[(1,aP 1 0),(2,aB false),(17,aF s22 x0.2),(18,aI ((List.length x0.2:Nat):Int)),(19,aI ((i:Nat):Int))],[(1,oX 68 [cI x0.1,.ro s22 x0.2])]⟩:St)) (fun i=>(i≤List.length x0.2∧allTo1 (fun r=>validV r && decide (List.length r=List.length (x0.2.getD 0 []))) x0.2 [] i)) (fun i=>List.length x0.2 - i) (0) h (st_congr1 (fun (d0:Int)=>(⟨[(1,aP 1 0),(2,aB false),(17,aF s22 x0.2),(18,aI ((List.length x0.2:Nat):Int)),(19,aI d0)],[(1,oX 68 [cI x0.1,.ro s22 x0.2])]⟩:St)) (show (0:Int)=(((0):Nat):Int) from by first | with_reducible rfl | (rfl) | rfl)) (by exact ⟨Nat.zero_le _,allTo1_zero⟩) ?_
   intro i a w hok0 h
   refine wp_seq ?_
   refine at_regq [] { ts:=[1,2,17,18,19,20],os:=[1] } [] gamOK hT h (by kernel_rfl) trivial fun a w h=>then_normal (wp_seq ?_)
   refine at_test (decide (((i:Nat):Int) < ((List.length x0.2:Nat):Int))) h (by kernel_rfl) (fun h3=>?_) (fun h3=>?_)
   ·replace h3 : ((i : Nat) : Int) < ((List.length x0.2 : Nat) : Int) := of_decide_eq_true h3
    refine wp_skip (then_normal (wp_seq (wp_block (wp_seq ?_))))
    refine at_regq [] { ts:=[1,2,4,17,18,19],os:=[1] } [(0:Int)≤((i:Nat):Int)∧((i:Nat):Int) < ((List.length x0.2:Nat):Int)] gamOK hT h (by kernel_rfl) ⟨(by refine ⟨?_,?_⟩<;>(first | omega | (simp only [lsA];omega) | (simp<;>omega))),trivial⟩ fun a w h=>then_normal (wp_seq ?_)
    rcases Bool.eq_false_or_eq_true (!(validV (x0.2.getD i []))) with h4 | h4
    ·have hzh4 : (validV (x0.2.getD i [])) = false := notT h4
     refine at_regq [{},{},{ hint:=some (aB true) }] { ts:=[1,2,17,18,19,27,28,29,30,31,32,33,34,35],os:=[1] } [Q_impl_IsValidVector (x0.2.getD i []),(AV.p (.c (.v (.bool (!(validV (x0.2.getD i []))))))=AV.p (.c (.v (.bool true))))] gamOK hT h (by kernel_rfl) ⟨(by exact (Sh.fit_getD hf0.2 i)),hint_bool (h4),trivial⟩ fun a w h=>then_normal ?_
     refine at_test true h (by kernel_rfl) (fun hh=>?_) (fun hh=>nomatch hh)
     refine wp_seq ?_
     refine at_regq [] { ts:=[1,2,17,18,19,27,28,29,30,31,32,33,34],os:=[1] } [] gamOK hT h (by kernel_rfl) trivial fun a w h=>then_normal (wp_ret (in_ret (then_ret ?_)))
     have hs5:(List.all x0.2 (fun r=>validV r && decide (List.length r=List.length (x0.2.getD 0 []))))=false:=by exact all_at (z:=[]) (i:=i) (by omega) (by (show ((validV _) && _)=false;rw [Bool.and_eq_false_iff];first | (left;assumption) | (right;exact decide_eq_false (by omega))))
     refine then_ret (in_ret (then_ret ?_))
     exact at_return (false,()) [] h (by kernel_rfl) trivial (congrArg (fun z=>(z,())) (show (false)=validG x0 from by first | rfl | (unfold validG;rw [if_pos (notF h1),if_pos h2,if_neg (neT hs5)];done) | (unfold validG;(repeat (first | rfl | split))<;>(first | rfl | omega | (simp_all [-List.all_eq_true,-List.any_eq_true,-List.all_eq_false,-List.any_eq_false,validM,D_impl_SymbolWidth];done) | (simp_all [-List.all_eq_true,-List.any_eq_true,-List.all_eq_false,-List.any_eq_false,validM,D_impl_SymbolWidth];omega) | (exfalso;simp_all [-List.all_eq_true,-List.any_eq_true,-List.all_eq_false,-List.any_eq_false,validM,D_impl_SymbolWidth];omega)))))
    ·have hzh4 : (validV (x0.2.getD i [])) = true := notF h4
     have hvh4:=validV_t (notF h4)
     refine at_regq [{},{},{ hint:=some (aB false) }] { ts:=[1,2,17,18,19,27,28,29,30,31,32,33,34,35],os:=[1] } [Q_impl_IsValidVector (x0.2.getD i []),(AV.p (.c (.v (.bool (!(validV (x0.2.getD i []))))))=AV.p (.c (.v (.bool false)))),(0:Int)≤0∧0 < ((List.length x0.2:Nat):Int)] gamOK hT h (by kernel_rfl) ⟨(by exact (Sh.fit_getD hf0.2 i)),hint_bool (h4),(by refine ⟨?_,?_⟩<;>(first | omega | (simp only [lsA];omega) | (simp<;>omega))),trivial⟩ fun a w h=>then_normal ?_
     refine at_test (!decide (((List.length (x0.2.getD i []):Nat):Int)=((List.length (x0.2.getD 0 []):Nat):Int))) h (by kernel_rfl) (fun h6=>?_) (fun h6=>?_)
     ·replace h6 : ¬ (((List.length (x0.2.getD i []) : Nat) : Int) = ((List.length (x0.2.getD 0 []) : Nat) : Int)) := of_decide_eq_false (notT h6)
      refine wp_seq ?_
      refine at_regq [] { ts:=[1,2,17,18,19,27,28,29,30,31,32,33,34],os:=[1] } [] gamOK hT h (by kernel_rfl) trivial fun a w h=>then_normal (wp_ret (in_ret (then_ret ?_)))
      have hs7:(List.all x0.2 (fun r=>validV r && decide (List.length r=List.length (x0.2.getD 0 []))))=false:=by exact all_at (z:=[]) (i:=i) (by omega) (by (show ((validV _) && _)=false;rw [Bool.and_eq_false_iff];first | (left;assumption) | (right;exact decide_eq_false (by omega))))
      refine then_ret (in_ret (then_ret ?_))
      exact at_return (false,()) [] h (by kernel_rfl) trivial (congrArg (fun z=>(z,())) (show (false)=validG x0 from by first | rfl | (unfold validG;rw [if_pos (notF h1),if_pos h2,if_neg (neT hs7)];done) | (unfold validG;(repeat (first | rfl | split))<;>(first | rfl | omega | (simp_all [-List.all_eq_true,-List.any_eq_true,-List.all_eq_false,-List.any_eq_false,validM,D_impl_SymbolWidth];done) | (simp_all [-List.all_eq_true,-List.any_eq_true,-List.all_eq_false,-List.any_eq_false,validM,D_impl_SymbolWidth];omega) | (exfalso;simp_all [-List.all_eq_true,-List.any_eq_true,-List.all_eq_false,-List.any_eq_false,validM,D_impl_SymbolWidth];omega)))))
     ·replace h6 : ((List.length (x0.2.getD i []) : Nat) : Int) = ((List.length (x0.2.getD 0 []) : Nat) : Int) := of_decide_eq_true (notF h6)
      refine wp_skip (in_normal (then_normal ?_))
      refine at_regq [{ nw:=true }] { ts:=[1,2,17,18,19,27,28,29,30,31,32,33,34],os:=[1] } [I64 (((i:Nat):Int)+1)] gamOK hT h (by kernel_rfl) ⟨⟨by first | omega | (simp only [lsA];omega) | (simp<;>omega),by first | omega | (simp only [lsA];omega) | (simp<;>omega)⟩,trivial⟩ fun a w h=>?_
      replace h:=at_out (σ':=⟨[(1,aP 1 0),(2,aB false),(17,aF s22 x0.2),(18,aI ((List.length x0.2:Nat):Int)),(19,aI (((i:Nat):Int)+1))],[(1,oX 68 [cI x0.1,.ro s22 x0.2])]⟩) { ts:=[1,2,17,18,19],os:=[1] } h (by kernel_rfl)
      exact ⟨i+1,at_eq h (st_congr1 (fun (d0:Int)=>(⟨[(1,aP 1 0),(2,aB false),(17,aF s22 x0.2),(18,aI ((List.length x0.2:Nat):Int)),(19,aI d0)],[(1,oX 68 [cI x0.1,.ro s22 x0.2])]⟩:St)) (show (((i:Nat):Int)+1:Int)=(((i+1):Nat):Int) from by first | with_reducible rfl | (omega) | rfl)),(by exact ⟨by omega,allTo1_succ hok0.2 (by (show ((validV _) && _)=true;rw [Bool.and_eq_true];exact ⟨by assumption,decide_eq_true (by omega)⟩))⟩),(by omega)⟩
   ·replace h3 : ¬ (((i : Nat) : Int) < ((List.length x0.2 : Nat) : Int)) := of_decide_eq_false h3
    refine wp_exit (then_exit ?_)
    have hs8:(List.all x0.2 (fun r=>validV r && decide (List.length r=List.length (x0.2.getD 0 []))))=true:=by exact all_of (z:=[]) (i:=i) (by omega) hok0.2
    refine then_exit (in_hit (then_normal (wp_seq ?_)))
    refine at_regq [] { ts:=[2],os:=[] } [Q_impl_SymbolWidth x0,True] gamOK hT h (by kernel_rfl) ⟨(by exact hf0),trivial,trivial⟩ fun a w h=>then_normal (wp_ret ?_)
    exact at_return ((inR (colsOf x0.2) 1 16),()) [] h (by kernel_rfl) trivial (congrArg (fun z=>(z,())) (show ((inR (colsOf x0.2) 1 16))=validG x0 from by first | rfl | (unfold validG;rw [if_pos (notF h1),if_pos h2,if_pos hs8];done) | (unfold validG;(repeat (first | rfl | split))<;>(first | rfl | omega | (simp_all [-List.all_eq_true,-List.any_eq_true,-List.all_eq_false,-List.any_eq_false,validM,D_impl_SymbolWidth];done) | (simp_all [-List.all_eq_true,-List.any_eq_true,-List.all_eq_false,-List.any_eq_false,validM,D_impl_SymbolWidth];omega) | (exfalso;simp_all [-List.all_eq_true,-List.any_eq_true,-List.all_eq_false,-List.any_eq_false,validM,D_impl_SymbolWidth];omega)))))

def isFmt (x0:Int) (x1:Int) (x2:Int):Bool:=(if (inR x0 0 1000000000000)=true then (if (inR x1 1 8)=true then (inR x2 1 16) else false) else false)
def S_impl_isFormat:Sum:={ fid:=114,dom:=[(.int 3),(.int 3),(.int 3)],cod:=[(.bool 4)],dp:=true,fz:=false,pre:=fun x=>True,g:=fun x=>((isFmt x.1 x.2.1 x.2.2.1),()) }
def S_impl_isFormat_tab:List (Nat×Sum):=[(73,S_impl_InRange)]
theorem S_impl_isFormat_ok:FnOK Try.prog 114 S_impl_isFormat:=by
 refine at_enter 17 (fun x=>⟨[(0,aI x.1),(1,aI x.2.1),(2,aI x.2.2.1)],[]⟩) Try.func114 rfl (by kernel_rfl) (fun x=>rfl) ?_
 rintro w0 Z0 ⟨x0,x1,x2,u⟩ a w
 revert x0 x1 x2
 intro (x0:Int) (x1:Int) (x2:Int) hpre hlens h
 have hT:TabOK Try.prog S_impl_isFormat_tab:=(.cons S_impl_InRange_ok .nil)
 refine wp_seq ?_
 refine at_regq [] { ts:=[0,1,2,6],os:=[] } [] gamOK hT h (by kernel_rfl) trivial fun a w h=>then_normal (wp_seq ?_)
 rcases Bool.eq_false_or_eq_true ((inR x0 0 1000000000000)) with h1 | h1
 ·have hvh1 := inR_t h1
  rcases Bool.eq_false_or_eq_true ((inR x1 1 8)) with h2 | h2
  ·have hvh2 := inR_t h2
   refine at_regq [{},{ hint:=some (aB true) },{},{},{ hint:=some (aB true) }] { ts:=[6],os:=[] } [True,(AV.p (.c (.v (.bool ((inR x0 0 1000000000000)))))=AV.p (.c (.v (.bool true)))),True,(AV.p (.c (.v (.bool ((inR x1 1 8)))))=AV.p (.c (.v (.bool true)))),True] gamOK hT h (by kernel_rfl) ⟨trivial,hint_bool (h1),trivial,hint_bool (h2),trivial,trivial⟩ fun a w h=>then_normal (wp_ret ?_)
   exact at_return ((inR x2 1 16),()) [] h (by kernel_rfl) trivial (congrArg (fun z=>(z,())) (show ((inR x2 1 16))=isFmt x0 x1 x2 from by first | rfl | (unfold isFmt;rw [if_pos h1,if_pos h2])))
  ·have hvh2 := inR_f h2
   refine at_regq [{},{ hint:=some (aB true) },{},{},{ hint:=some (aB false) }] { ts:=[6],os:=[] } [True,(AV.p (.c (.v (.bool ((inR x0 0 1000000000000)))))=AV.p (.c (.v (.bool true)))),True,(AV.p (.c (.v (.bool ((inR x1 1 8)))))=AV.p (.c (.v (.bool false))))] gamOK hT h (by kernel_rfl) ⟨trivial,hint_bool (h1),trivial,hint_bool (h2),trivial⟩ fun a w h=>then_normal (wp_ret ?_)
   exact at_return (false,()) [] h (by kernel_rfl) trivial (congrArg (fun z=>(z,())) (show (false)=isFmt x0 x1 x2 from by first | rfl | (unfold isFmt;rw [if_pos h1,if_neg (neT h2)])))
 ·have hvh1 := inR_f h1
  refine at_regq [{},{ hint:=some (aB false) }] { ts:=[6],os:=[] } [True,(AV.p (.c (.v (.bool ((inR x0 0 1000000000000)))))=AV.p (.c (.v (.bool false))))] gamOK hT h (by kernel_rfl) ⟨trivial,hint_bool (h1),trivial⟩ fun a w h=>then_normal (wp_ret ?_)
  exact at_return (false,()) [] h (by kernel_rfl) trivial (congrArg (fun z=>(z,())) (show (false)=isFmt x0 x1 x2 from by first | rfl | (unfold isFmt;rw [if_neg (neT h1)])))
theorem isFmt_t {g s w:Int} (h:isFmt g s w=true):(0≤g∧g≤1000000000000)∧(1≤s∧s≤8)∧(1≤w∧w≤16):=by
 unfold isFmt at h
 split at h
 ·split at h
  ·exact ⟨inR_t (by assumption),inR_t (by assumption),inR_t h⟩
  ·cases h
 ·cases h

end Go.Proofs.Ytamibfjeldfphaa
