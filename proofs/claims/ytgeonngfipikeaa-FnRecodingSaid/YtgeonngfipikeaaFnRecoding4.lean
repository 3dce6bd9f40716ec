/- The law FnRecoding returns true for every input and leaves its arguments as they were. No condition. -/
import Derived.Test.YtgeonngfipikeaaFnRecoding3
import Derived.Test.YtgeonngfipikeaaLA
import Derived.Test.YtgeonngfipikeaaProg
import Derived.Test.YtgeonngfipikeaaRows
import Derived.Test.YtgeonngfipikeaaFX
namespace Go.Proofs.Ytgeonngfipikeaa
open Go.RowKit
set_option linter.unusedVariables false
set_option linter.unusedSimpArgs false
def rowIt (x:T91):Nat→T91×List Int
 | 0=>(x,[])
 | i+1=>((belowC (rowIt x i).1 256).1,(rowIt x i).2++[(belowC (rowIt x i).1 256).2])
def genIt (x:T91) (n:Nat):Nat→T91×List (List Int)
 | 0=>(x,[])
 | i+1=>((rowIt (genIt x n i).1 n).1,(genIt x n i).2++[(rowIt (genIt x n i).1 n).2])
theorem rowIt_inv {x:T91} (hx:0≤x.2.1):∀ i,0≤(rowIt x i).1.2.1∧(rowIt x i).2.length=i∧∀ e∈(rowIt x i).2,LA.El e
 | 0=>⟨hx,rfl,fun e he=>by cases he⟩
 | i + 1 => by
  obtain ⟨h1,h2,h3⟩:=rowIt_inv hx i
  have hb:=below_bd (rowIt x i).1 (n:=256) (by decide)
  refine ⟨below_ok h1,by simp [rowIt,h2],fun y hy=>?_⟩
  rcases List.mem_append.1 hy with hy | hy
  ·exact h3 y hy
  ·have : y = (belowC (rowIt x i).1 256).2 := by simpa using hy
   rw [this];unfold LA.El;omega
theorem genIt_inv {x:T91} {n:Nat} (hx:0≤x.2.1):∀ i,0≤(genIt x n i).1.2.1∧(genIt x n i).2.length=i∧∀ r∈(genIt x n i).2,LA.VokB n r
 | 0=>⟨hx,rfl,fun e he=>by cases he⟩
 | i + 1 => by
  obtain ⟨h1,h2,h3⟩:=genIt_inv (n:=n) hx i
  have hr:=rowIt_inv h1 n
  refine ⟨hr.1,by simp [genIt,h2],fun y hy=>?_⟩
  rcases List.mem_append.1 hy with hy | hy
  ·exact h3 y hy
  ·have : y = (rowIt (genIt x n i).1 n).2 := by simpa using hy
   rw [this];exact ⟨hr.2.1,hr.2.2⟩
theorem validG_of {a:Int} {m:List (List Int)} {n:Nat} (ha:0≤a∧a≤1000000000000) (h1:1≤m.length∧m.length≤8) (hn:1≤n∧n≤16) (h2:∀ r∈m,LA.VokB n r):validG (a,m)=true∧colsOf m=(n:Int):=by
 have h0:(m.getD 0 []).length=n:=(h2 _ (getD_mem (z:=[]) (show 0 < m.length by omega))).1
 have hc:colsOf m=(n:Int):=by rw [colsOf_at h1.1,h0]
 have hm:validM m=true:=by
  unfold validM
  have ha:m.all (fun r=>validV r && decide (List.length r=List.length (m.getD 0 [])))=true:=List.all_eq_true.2 fun r hr=>by
   rw [Bool.and_eq_true]
   exact ⟨validV_of (h2 r hr) (by omega),decide_eq_true (by rw [h0];exact (h2 r hr).1)⟩
  rw [if_pos ha]
  exact decide_eq_true (by omega)
 refine ⟨?_,hc⟩
 unfold validG
 rw [if_pos (show inR a 0 1000000000000=true from inR_true ha),if_pos (show inR ((List.length m:Nat):Int) 1 8=true from inR_true (by omega)),if_pos hm,hc]
 exact inR_true (by omega)
def genD (x0:T91):T91×T26:=((genIt (belowC (belowC (belowC x0 5).1 3).1 4).1 (1+(belowC (belowC x0 5).1 3).2).toNat (1+(belowC (belowC (belowC x0 5).1 3).1 4).2).toNat).1,((belowC x0 5).2,(genIt (belowC (belowC (belowC x0 5).1 3).1 4).1 (1+(belowC (belowC x0 5).1 3).2).toNat (1+(belowC (belowC (belowC x0 5).1 3).1 4).2).toNat).2))
abbrev Q_spec_l10Gen:=(fun (x0:T91)=>0≤x0.2.1)
def B_spec_l10Gen:BS:={ t:=91,s:=s91,dom:=[],cod:=[s26],pre:=fun y x=>Q_spec_l10Gen y,upd:=fun y x=>(genD y).1,g:=fun y x=>((genD y).2,()) }
def S_spec_l10Gen:Sum:=bSum 31 B_spec_l10Gen
def S_spec_l10Gen_tab:List (Nat×Sum):=[(60,S_spec_l1Below)]
theorem S_spec_l10Gen_ok:FnOK Try.prog 31 S_spec_l10Gen:=by
 refine at_enterB (B:=B_spec_l10Gen) 39 (fun v y x=>⟨[(0,aP 1 0)],[(1,oX 91 [.ro (.u8 5) y.1,cI y.2.1,cI y.2.2]),(2,oP 1 v)]⟩) Try.func31 rfl (by kernel_rfl) (fun v y x=>rfl) ?_
 rintro w0 Z0 b0 x0 ⟨u⟩ a w
 revert x0
 intro (x0:T91) hpre hlens0 hlens h
 replace h:At w0 Z0 [b0] 39 ⟨[(0,aP 1 0)],[(1,oX 91 [.ro (.u8 5) x0.1,cI x0.2.1,cI x0.2.2]),(2,oP 1 (Value.pointer (some ⟨b0,0,none⟩)))]⟩ a w:=h
 replace hpre:Q_spec_l10Gen x0:=hpre
 have hl1:List.length x0.1≤9223372036854775807:=hlens0.1.1
 have hu0:u8L x0.1:=hlens0.1.2
 have hT:TabOK Try.prog S_spec_l10Gen_tab:=(.cons S_spec_l1Below_ok .nil)
 have hb1:=below_bd x0 (n:=5) (by decide)
 have hb2:=below_bd (belowC x0 5).1 (n:=3) (by decide)
 have hb3:=below_bd (belowC (belowC x0 5).1 3).1 (n:=4) (by decide)
 have hc:=below_ok (n:=4) (below_ok (n:=3) (below_ok (n:=5) hpre))
 refine wp_seq ?_
 refine at_regq [{ ids:=[3] }] { ts:=[0,2],os:=[1,2,3] } [] gamOK hT h (by kernel_rfl) trivial fun a w h=>then_normal (wp_seq ?_)
 refine at_regq [{},{},{},{ ids:=[4] }] { ts:=[0,2,3],os:=[1,2,3,4] } [B_spec_l1Below.pre x0 (5,())] gamOK hT h (by kernel_rfl) ⟨(by exact hpre),trivial⟩ fun a w h=>then_normal (wp_seq ?_)
 refine at_regq [{},{},{ nw:=true }] { ts:=[0,2,3,4],os:=[1,2,3,4] } [B_spec_l1Below.pre (belowC x0 5).1 (3,()),I64 (1+(belowC (belowC x0 5).1 3).2)] gamOK hT h (by kernel_rfl) ⟨(by exact (below_ok hpre)),⟨by first | omega | (simp only [lsA];omega) | (simp<;>omega),by first | omega | (simp only [lsA];omega) | (simp<;>omega)⟩,trivial⟩ fun a w h=>then_normal (wp_seq (wp_seq ?_))
 refine at_regq [{},{},{ nw:=true }] { ts:=[0,2,3,4,5],os:=[1,2,3,4] } [B_spec_l1Below.pre (belowC (belowC x0 5).1 3).1 (4,()),I64 (1+(belowC (belowC (belowC x0 5).1 3).1 4).2)] gamOK hT h (by kernel_rfl) ⟨(by exact (below_ok (below_ok hpre))),⟨by first | omega | (simp only [lsA];omega) | (simp<;>omega),by first | omega | (simp only [lsA];omega) | (simp<;>omega)⟩,trivial⟩ fun a w h=>then_normal (wp_block ?_)
 replace h:=at_out (σ':=⟨[(0,aP 1 0),(2,aP 3 0),(3,aP 4 0),(4,aI (1+(belowC (belowC x0 5).1 3).2)),(5,aI (1+(belowC (belowC (belowC x0 5).1 3).1 4).2))],[(1,oX 91 [.ro (.u8 5) (belowC (belowC (belowC x0 5).1 3).1 4).1.1,cI (belowC (belowC (belowC x0 5).1 3).1 4).1.2.1,cI (belowC (belowC (belowC x0 5).1 3).1 4).1.2.2]),(2,oP 1 (Value.pointer (some ⟨b0,0,none⟩))),(3,oX 26 [cI 0,cN]),(4,oX 26 [cI (belowC x0 5).2,.sl 5]),(5,oR s33 ([]:List (List Int)))]⟩) { mt:=[⟨some 4,1,5,true,s33⟩],ts:=[0,2,3,4,5],os:=[1,2,3,4,5] } h (by kernel_rfl)
 refine at_loop (fun i:Nat=>(⟨[(0,aP 1 0),(2,aP 3 0),(3,aP 4 0),(4,aI (1+(belowC (belowC x0 5).1 3).2)),(5,aI ((1+(belowC (belowC (belowC x0 5).1 3).1 4).2) - ((i:Nat):Int)))],[(1,oX 91 [.ro (.u8 5) (genIt (belowC (belowC (belowC x0 5).1 3).1 4).1 (1+(belowC (belowC x0 5).1 3).2).toNat i).1.1,cI (genIt (belowC (belowC (belowC x0 5).1 3).1 4).1 (1+(belowC (belowC x0 5).1 3).2).toNat i).1.2.1,cI (genIt (belowC (belowC (belowC x0 5).1 3).1 4).1 (1+(belowC (belowC x0 5).1 3).2).toNat i).1.2.2]),(2,oP 1 (Value.pointer (some ⟨b0,0,none⟩))),(3,oX 26 [cI 0,cN]),(4,oX 26 [cI (belowC x0 5).2,.sl 5]),(5,oR s33 (genIt (belowC (belowC (belowC x0 5).1 3).1 4).1 (1+(belowC (belowC x0 5).1 3).2).toNat i).2)]⟩:St)) (fun i=>((i:Nat):Int)≤(1+(belowC (belowC (belowC x0 5).1 3).1 4).2)) (fun i=>((1+(belowC (belowC (belowC x0 5).1 3).1 4).2)).toNat - i) (0) h (st_congr5 (fun (d0:List Int) (d1:Int) (d2:Int) (d3:List (List Int)) (d4:Int)=>(⟨[(0,aP 1 0),(2,aP 3 0),(3,aP 4 0),(4,aI (1+(belowC (belowC x0 5).1 3).2)),(5,aI d4)],[(1,oX 91 [.ro (.u8 5) d0,cI d1,cI d2]),(2,oP 1 (Value.pointer (some ⟨b0,0,none⟩))),(3,oX 26 [cI 0,cN]),(4,oX 26 [cI (belowC x0 5).2,.sl 5]),(5,oR s33 d3)]⟩:St)) (show ((belowC (belowC (belowC x0 5).1 3).1 4).1.1:List Int)=(genIt (belowC (belowC (belowC x0 5).1 3).1 4).1 (1+(belowC (belowC x0 5).1 3).2).toNat (0)).1.1 from by first | with_reducible rfl | (first | rfl | omega) | rfl) (show ((belowC (belowC (belowC x0 5).1 3).1 4).1.2.1:Int)=(genIt (belowC (belowC (belowC x0 5).1 3).1 4).1 (1+(belowC (belowC x0 5).1 3).2).toNat (0)).1.2.1 from by first | with_reducible rfl | (first | rfl | omega) | rfl) (show ((belowC (belowC (belowC x0 5).1 3).1 4).1.2.2:Int)=(genIt (belowC (belowC (belowC x0 5).1 3).1 4).1 (1+(belowC (belowC x0 5).1 3).2).toNat (0)).1.2.2 from by first | with_reducible rfl | (first | rfl | omega) | rfl) (show (([]:List (List Int)):List (List Int))=(genIt (belowC (belowC (belowC x0 5).1 3).1 4).1 (1+(belowC (belowC x0 5).1 3).2).toNat (0)).2 from by first | with_reducible rfl | (first | rfl | omega) | rfl) (show (1+(belowC (belowC (belowC x0 5).1 3).1 4).2:Int)=((1+(belowC (belowC (belowC x0 5).1 3).1 4).2) - (((0):Nat):Int)) from by first | with_reducible rfl | (first | rfl | omega) | rfl)) (by omega) ?_
 intro i a w hok0 h
 have hgi:=genIt_inv (n:=(1+(belowC (belowC x0 5).1 3).2).toNat) hc i
 have hgl:=hgi.2.1
 refine wp_seq (wp_seq ?_)
 refine at_regq [] { ts:=[0,2,3,4,5,18],os:=[1,2,3,4,5] } [] gamOK hT h (by kernel_rfl) trivial fun a w h=>then_normal ?_
 refine at_test (decide (((1+(belowC (belowC (belowC x0 5).1 3).1 4).2) - ((i:Nat):Int)) > 0)) h (by kernel_rfl) (fun h1=>?_) (fun h1=>?_)
 ·replace h1 : ((1 + (belowC (belowC (belowC x0 5).1 3).1 4).2) - ((i : Nat) : Int)) > 0 := of_decide_eq_true h1
  refine wp_skip (then_normal (wp_seq (wp_block (wp_seq ?_))))
  refine at_regq [{ ids:=[6] }] { ts:=[0,2,3,4,5,6],os:=[1,2,3,4,5,6] } [] gamOK hT h (by kernel_rfl) trivial fun a w h=>then_normal (wp_seq (wp_seq ?_))
  refine at_regq [] { ts:=[0,2,3,4,5,6,7],os:=[1,2,3,4,5,6] } [] gamOK hT h (by kernel_rfl) trivial fun a w h=>then_normal (wp_block ?_)
  replace h:=at_out (σ':=⟨[(0,aP 1 0),(2,aP 3 0),(3,aP 4 0),(4,aI (1+(belowC (belowC x0 5).1 3).2)),(5,aI ((1+(belowC (belowC (belowC x0 5).1 3).1 4).2) - ((i:Nat):Int))),(6,aS 6),(7,aI 0)],[(1,oX 91 [.ro (.u8 5) (genIt (belowC (belowC (belowC x0 5).1 3).1 4).1 (1+(belowC (belowC x0 5).1 3).2).toNat i).1.1,cI (genIt (belowC (belowC (belowC x0 5).1 3).1 4).1 (1+(belowC (belowC x0 5).1 3).2).toNat i).1.2.1,cI (genIt (belowC (belowC (belowC x0 5).1 3).1 4).1 (1+(belowC (belowC x0 5).1 3).2).toNat i).1.2.2]),(2,oP 1 (Value.pointer (some ⟨b0,0,none⟩))),(3,oX 26 [cI 0,cN]),(4,oX 26 [cI (belowC x0 5).2,.sl 5]),(5,oR s33 (genIt (belowC (belowC (belowC x0 5).1 3).1 4).1 (1+(belowC (belowC x0 5).1 3).2).toNat i).2),(6,oR (.int 3) ([]:List Int))]⟩) { ts:=[0,2,3,4,5,6,7],os:=[1,2,3,4,5,6] } h (by kernel_rfl)
  refine at_loop (fun k:Nat=>(⟨[(0,aP 1 0),(2,aP 3 0),(3,aP 4 0),(4,aI (1+(belowC (belowC x0 5).1 3).2)),(5,aI ((1+(belowC (belowC (belowC x0 5).1 3).1 4).2) - ((i:Nat):Int))),(6,aS 6),(7,aI ((k:Nat):Int))],[(1,oX 91 [.ro (.u8 5) (rowIt (genIt (belowC (belowC (belowC x0 5).1 3).1 4).1 (1+(belowC (belowC x0 5).1 3).2).toNat i).1 k).1.1,cI (rowIt (genIt (belowC (belowC (belowC x0 5).1 3).1 4).1 (1+(belowC (belowC x0 5).1 3).2).toNat i).1 k).1.2.1,cI (rowIt (genIt (belowC (belowC (belowC x0 5).1 3).1 4).1 (1+(belowC (belowC x0 5).1 3).2).toNat i).1 k).1.2.2]),(2,oP 1 (Value.pointer (some ⟨b0,0,none⟩))),(3,oX 26 [cI 0,cN]),(4,oX 26 [cI (belowC x0 5).2,.sl 5]),(5,oR s33 (genIt (belowC (belowC (belowC x0 5).1 3).1 4).1 (1+(belowC (belowC x0 5).1 3).2).toNat i).2),(6,oR (.int 3) (rowIt (genIt (belowC (belowC (belowC x0 5).1 3).1 4).1 (1+(belowC (belowC x0 5).1 3).2).toNat i).1 k).2)]⟩:St)) (fun k=>k≤(1+(belowC (belowC x0 5).1 3).2).toNat) (fun k=>(1+(belowC (belowC x0 5).1 3).2).toNat - k) (0) h (st_congr5 (fun (d0:List Int) (d1:Int) (d2:Int) (d3:List Int) (d4:Int)=>(⟨[(0,aP 1 0),(2,aP 3 0),(3,aP 4 0),(4,aI (1+(belowC (belowC x0 5).1 3).2)),(5,aI ((1+(belowC (belowC (belowC x0 5).1 3).1 4).2) - ((i:Nat):Int))),(6,aS 6),(7,aI d4)],[(1,oX 91 [.ro (.u8 5) d0,cI d1,cI d2]),(2,oP 1 (Value.pointer (some ⟨b0,0,none⟩))),(3,oX 26 [cI 0,cN]),(4,oX 26 [cI (belowC x0 5).2,.sl 5]),(5,oR s33 (genIt (belowC (belowC (belowC x0 5).1 3).1 4).1 (1+(belowC (belowC x0 5).1 3).2).toNat i).2),(6,oR (.int 3) d3)]⟩:St)) (show ((genIt (belowC (belowC (belowC x0 5).1 3).1 4).1 (1+(belowC (belowC x0 5).1 3).2).toNat i).1.1:List Int)=(rowIt (genIt (belowC (belowC (belowC x0 5).1 3).1 4).1 (1+(belowC (belowC x0 5).1 3).2).toNat i).1 (0)).1.1 from by first | with_reducible rfl | (rfl) | rfl) (show ((genIt (belowC (belowC (belowC x0 5).1 3).1 4).1 (1+(belowC (belowC x0 5).1 3).2).toNat i).1.2.1:Int)=(rowIt (genIt (belowC (belowC (belowC x0 5).1 3).1 4).1 (1+(belowC (belowC x0 5).1 3).2).toNat i).1 (0)).1.2.1 from by first | with_reducible rfl | (rfl) | rfl) (show ((genIt (belowC (belowC (belowC x0 5).1 3).1 4).1 (1+(belowC (belowC x0 5).1 3).2).toNat i).1.2.2:Int)=(rowIt (genIt (belowC (belowC (belowC x0 5).1 3).1 4).1 (1+(belowC (belowC x0 5).1 3).2).toNat i).1 (0)).1.2.2 from by first | with_reducible rfl | (rfl) | rfl) (show (([]:List Int):List Int)=(rowIt (genIt (belowC (belowC (belowC x0 5).1 3).1 4).1 (1+(belowC (belowC x0 5).1 3).2).toNat i).1 (0)).2 from by first | with_reducible rfl | (rfl) | rfl) (show (0:Int)=(((0):Nat):Int) from by first | with_reducible rfl | (rfl) | rfl)) (by omega) ?_
  intro k a w hok1 h
  have hri:=rowIt_inv hgi.1 k
  have hrl:=hri.2.1
  refine wp_seq (wp_seq ?_)
  refine at_regq [] { ts:=[0,2,3,4,5,6,7,24],os:=[1,2,3,4,5,6] } [] gamOK hT h (by kernel_rfl) trivial fun a w h=>then_normal ?_
  refine at_test (decide (((k:Nat):Int) < 1+(belowC (belowC x0 5).1 3).2)) h (by kernel_rfl) (fun h2=>?_) (fun h2=>?_)
  ·replace h2 : ((k : Nat) : Int) < 1 + (belowC (belowC x0 5).1 3).2 := of_decide_eq_true h2
   refine wp_skip (then_normal (wp_seq (wp_block ?_)))
   refine at_regq [{},{},{},{ ids:=[7] },{ ids:=[8] }] { ts:=[0,2,3,4,5,6,7],os:=[1,2,3,4,5,8] } [B_spec_l1Below.pre (rowIt (genIt (belowC (belowC (belowC x0 5).1 3).1 4).1 (1+(belowC (belowC x0 5).1 3).2).toNat i).1 k).1 (256,()),(List.length (rowIt (genIt (belowC (belowC (belowC x0 5).1 3).1 4).1 (1+(belowC (belowC x0 5).1 3).2).toNat i).1 k).2+List.length ([(belowC (rowIt (genIt (belowC (belowC (belowC x0 5).1 3).1 4).1 (1+(belowC (belowC x0 5).1 3).2).toNat i).1 k).1 256).2]))*8≤140737488355328] gamOK hT h (by kernel_rfl) ⟨(by exact hri.1),(by first | omega | (simp only [lsA];omega) | (simp<;>omega)),trivial⟩ fun a w h=>in_normal (then_normal ?_)
   refine at_regq [{},{ nw:=true }] { ts:=[0,2,3,4,5,6,7],os:=[1,2,3,4,5,8] } [I64 (((k:Nat):Int)+1)] gamOK hT h (by kernel_rfl) ⟨⟨by first | omega | (simp only [lsA];omega) | (simp<;>omega),by first | omega | (simp only [lsA];omega) | (simp<;>omega)⟩,trivial⟩ fun a w h=>?_
   replace h:=at_out (σ':=⟨[(0,aP 1 0),(2,aP 3 0),(3,aP 4 0),(4,aI (1+(belowC (belowC x0 5).1 3).2)),(5,aI ((1+(belowC (belowC (belowC x0 5).1 3).1 4).2) - ((i:Nat):Int))),(6,aS 6),(7,aI (((k:Nat):Int)+1))],[(1,oX 91 [.ro (.u8 5) (belowC (rowIt (genIt (belowC (belowC (belowC x0 5).1 3).1 4).1 (1+(belowC (belowC x0 5).1 3).2).toNat i).1 k).1 256).1.1,cI (belowC (rowIt (genIt (belowC (belowC (belowC x0 5).1 3).1 4).1 (1+(belowC (belowC x0 5).1 3).2).toNat i).1 k).1 256).1.2.1,cI (belowC (rowIt (genIt (belowC (belowC (belowC x0 5).1 3).1 4).1 (1+(belowC (belowC x0 5).1 3).2).toNat i).1 k).1 256).1.2.2]),(2,oP 1 (Value.pointer (some ⟨b0,0,none⟩))),(3,oX 26 [cI 0,cN]),(4,oX 26 [cI (belowC x0 5).2,.sl 5]),(5,oR s33 (genIt (belowC (belowC (belowC x0 5).1 3).1 4).1 (1+(belowC (belowC x0 5).1 3).2).toNat i).2),(6,oR (.int 3) ((rowIt (genIt (belowC (belowC (belowC x0 5).1 3).1 4).1 (1+(belowC (belowC x0 5).1 3).2).toNat i).1 k).2++([(belowC (rowIt (genIt (belowC (belowC (belowC x0 5).1 3).1 4).1 (1+(belowC (belowC x0 5).1 3).2).toNat i).1 k).1 256).2])))]⟩) { ts:=[0,2,3,4,5,6,7],os:=[1,2,3,4,5,8],rn:=[(8,6)] } h (by kernel_rfl)
   exact ⟨k+1,at_eq h (st_congr5 (fun (d0:List Int) (d1:Int) (d2:Int) (d3:List Int) (d4:Int)=>(⟨[(0,aP 1 0),(2,aP 3 0),(3,aP 4 0),(4,aI (1+(belowC (belowC x0 5).1 3).2)),(5,aI ((1+(belowC (belowC (belowC x0 5).1 3).1 4).2) - ((i:Nat):Int))),(6,aS 6),(7,aI d4)],[(1,oX 91 [.ro (.u8 5) d0,cI d1,cI d2]),(2,oP 1 (Value.pointer (some ⟨b0,0,none⟩))),(3,oX 26 [cI 0,cN]),(4,oX 26 [cI (belowC x0 5).2,.sl 5]),(5,oR s33 (genIt (belowC (belowC (belowC x0 5).1 3).1 4).1 (1+(belowC (belowC x0 5).1 3).2).toNat i).2),(6,oR (.int 3) d3)]⟩:St)) (show ((belowC (rowIt (genIt (belowC (belowC (belowC x0 5).1 3).1 4).1 (1+(belowC (belowC x0 5).1 3).2).toNat i).1 k).1 256).1.1:List Int)=(rowIt (genIt (belowC (belowC (belowC x0 5).1 3).1 4).1 (1+(belowC (belowC x0 5).1 3).2).toNat i).1 (k+1)).1.1 from by first | with_reducible rfl | (rfl) | rfl) (show ((belowC (rowIt (genIt (belowC (belowC (belowC x0 5).1 3).1 4).1 (1+(belowC (belowC x0 5).1 3).2).toNat i).1 k).1 256).1.2.1:Int)=(rowIt (genIt (belowC (belowC (belowC x0 5).1 3).1 4).1 (1+(belowC (belowC x0 5).1 3).2).toNat i).1 (k+1)).1.2.1 from by first | with_reducible rfl | (rfl) | rfl) (show ((belowC (rowIt (genIt (belowC (belowC (belowC x0 5).1 3).1 4).1 (1+(belowC (belowC x0 5).1 3).2).toNat i).1 k).1 256).1.2.2:Int)=(rowIt (genIt (belowC (belowC (belowC x0 5).1 3).1 4).1 (1+(belowC (belowC x0 5).1 3).2).toNat i).1 (k+1)).1.2.2 from by first | with_reducible rfl | (rfl) | rfl) (show (((rowIt (genIt (belowC (belowC (belowC x0 5).1 3).1 4).1 (1+(belowC (belowC x0 5).1 3).2).toNat i).1 k).2++([(belowC (rowIt (genIt (belowC (belowC (belowC x0 5).1 3).1 4).1 (1+(belowC (belowC x0 5).1 3).2).toNat i).1 k).1 256).2])):List Int)=(rowIt (genIt (belowC (belowC (belowC x0 5).1 3).1 4).1 (1+(belowC (belowC x0 5).1 3).2).toNat i).1 (k+1)).2 from by first | with_reducible rfl | (rfl) | rfl) (show (((k:Nat):Int)+1:Int)=(((k+1):Nat):Int) from by first | with_reducible rfl | (omega) | rfl)),(by omega),(by omega)⟩
  ·replace h2 : ¬ (((k : Nat) : Int) < 1 + (belowC (belowC x0 5).1 3).2) := of_decide_eq_false h2
   refine wp_exit (then_exit ?_)
   replace h:=at_out (σ':=⟨[(0,aP 1 0),(2,aP 3 0),(3,aP 4 0),(4,aI (1+(belowC (belowC x0 5).1 3).2)),(5,aI ((1+(belowC (belowC (belowC x0 5).1 3).1 4).2) - ((i:Nat):Int))),(6,aS 6)],[(1,oX 91 [.ro (.u8 5) (rowIt (genIt (belowC (belowC (belowC x0 5).1 3).1 4).1 (1+(belowC (belowC x0 5).1 3).2).toNat i).1 k).1.1,cI (rowIt (genIt (belowC (belowC (belowC x0 5).1 3).1 4).1 (1+(belowC (belowC x0 5).1 3).2).toNat i).1 k).1.2.1,cI (rowIt (genIt (belowC (belowC (belowC x0 5).1 3).1 4).1 (1+(belowC (belowC x0 5).1 3).2).toNat i).1 k).1.2.2]),(2,oP 1 (Value.pointer (some ⟨b0,0,none⟩))),(3,oX 26 [cI 0,cN]),(4,oX 26 [cI (belowC x0 5).2,.sl 5]),(5,oR s33 (genIt (belowC (belowC (belowC x0 5).1 3).1 4).1 (1+(belowC (belowC x0 5).1 3).2).toNat i).2),(6,oR (.int 3) (rowIt (genIt (belowC (belowC (belowC x0 5).1 3).1 4).1 (1+(belowC (belowC x0 5).1 3).2).toNat i).1 k).2)]⟩) { ts:=[0,2,3,4,5,6],os:=[1,2,3,4,5,6] } h (by kernel_rfl)
   replace h:=at_eq (σ':=⟨[(0,aP 1 0),(2,aP 3 0),(3,aP 4 0),(4,aI (1+(belowC (belowC x0 5).1 3).2)),(5,aI ((1+(belowC (belowC (belowC x0 5).1 3).1 4).2) - ((i:Nat):Int))),(6,aS 6)],[(1,oX 91 [.ro (.u8 5) (rowIt (genIt (belowC (belowC (belowC x0 5).1 3).1 4).1 (1+(belowC (belowC x0 5).1 3).2).toNat i).1 (1+(belowC (belowC x0 5).1 3).2).toNat).1.1,cI (rowIt (genIt (belowC (belowC (belowC x0 5).1 3).1 4).1 (1+(belowC (belowC x0 5).1 3).2).toNat i).1 (1+(belowC (belowC x0 5).1 3).2).toNat).1.2.1,cI (rowIt (genIt (belowC (belowC (belowC x0 5).1 3).1 4).1 (1+(belowC (belowC x0 5).1 3).2).toNat i).1 (1+(belowC (belowC x0 5).1 3).2).toNat).1.2.2]),(2,oP 1 (Value.pointer (some ⟨b0,0,none⟩))),(3,oX 26 [cI 0,cN]),(4,oX 26 [cI (belowC x0 5).2,.sl 5]),(5,oR s33 (genIt (belowC (belowC (belowC x0 5).1 3).1 4).1 (1+(belowC (belowC x0 5).1 3).2).toNat i).2),(6,oR (.int 3) (rowIt (genIt (belowC (belowC (belowC x0 5).1 3).1 4).1 (1+(belowC (belowC x0 5).1 3).2).toNat i).1 (1+(belowC (belowC x0 5).1 3).2).toNat).2)]⟩) h (st_congr4 (fun (d0:List Int) (d1:Int) (d2:Int) (d3:List Int)=>(⟨[(0,aP 1 0),(2,aP 3 0),(3,aP 4 0),(4,aI (1+(belowC (belowC x0 5).1 3).2)),(5,aI ((1+(belowC (belowC (belowC x0 5).1 3).1 4).2) - ((i:Nat):Int))),(6,aS 6)],[(1,oX 91 [.ro (.u8 5) d0,cI d1,cI d2]),(2,oP 1 (Value.pointer (some ⟨b0,0,none⟩))),(3,oX 26 [cI 0,cN]),(4,oX 26 [cI (belowC x0 5).2,.sl 5]),(5,oR s33 (genIt (belowC (belowC (belowC x0 5).1 3).1 4).1 (1+(belowC (belowC x0 5).1 3).2).toNat i).2),(6,oR (.int 3) d3)]⟩:St)) (show ((rowIt (genIt (belowC (belowC (belowC x0 5).1 3).1 4).1 (1+(belowC (belowC x0 5).1 3).2).toNat i).1 k).1.1:List Int)=(rowIt (genIt (belowC (belowC (belowC x0 5).1 3).1 4).1 (1+(belowC (belowC x0 5).1 3).2).toNat i).1 (1+(belowC (belowC x0 5).1 3).2).toNat).1.1 from by first | with_reducible rfl | (rw [show (1+(belowC (belowC x0 5).1 3).2).toNat=k by omega]) | rfl) (show ((rowIt (genIt (belowC (belowC (belowC x0 5).1 3).1 4).1 (1+(belowC (belowC x0 5).1 3).2).toNat i).1 k).1.2.1:Int)=(rowIt (genIt (belowC (belowC (belowC x0 5).1 3).1 4).1 (1+(belowC (belowC x0 5).1 3).2).toNat i).1 (1+(belowC (belowC x0 5).1 3).2).toNat).1.2.1 from by first | with_reducible rfl | (rw [show (1+(belowC (belowC x0 5).1 3).2).toNat=k by omega]) | rfl) (show ((rowIt (genIt (belowC (belowC (belowC x0 5).1 3).1 4).1 (1+(belowC (belowC x0 5).1 3).2).toNat i).1 k).1.2.2:Int)=(rowIt (genIt (belowC (belowC (belowC x0 5).1 3).1 4).1 (1+(belowC (belowC x0 5).1 3).2).toNat i).1 (1+(belowC (belowC x0 5).1 3).2).toNat).1.2.2 from by first | with_reducible rfl | (rw [show (1+(belowC (belowC x0 5).1 3).2).toNat=k by omega]) | rfl) (show ((rowIt (genIt (belowC (belowC (belowC x0 5).1 3).1 4).1 (1+(belowC (belowC x0 5).1 3).2).toNat i).1 k).2:List Int)=(rowIt (genIt (belowC (belowC (belowC x0 5).1 3).1 4).1 (1+(belowC (belowC x0 5).1 3).2).toNat i).1 (1+(belowC (belowC x0 5).1 3).2).toNat).2 from by first | with_reducible rfl | (rw [show (1+(belowC (belowC x0 5).1 3).2).toNat=k by omega]) | rfl))
   refine then_exit (in_hit (then_normal ?_))
   refine at_regq [{},{},{},{ ids:=[9] },{ ids:=[10] }] { ts:=[0,2,3,4,5],os:=[1,2,3,4,10] } [(List.length (genIt (belowC (belowC (belowC x0 5).1 3).1 4).1 (1+(belowC (belowC x0 5).1 3).2).toNat i).2+List.length ([(rowIt (genIt (belowC (belowC (belowC x0 5).1 3).1 4).1 (1+(belowC (belowC x0 5).1 3).2).toNat i).1 (1+(belowC (belowC x0 5).1 3).2).toNat).2]))*24≤140737488355328] gamOK hT h (by kernel_rfl) ⟨(by first | omega | (simp only [lsA];omega) | (simp<;>omega)),trivial⟩ fun a w h=>in_normal (then_normal ?_)
   refine at_regq [{},{ nw:=true }] { ts:=[0,2,3,4,5],os:=[1,2,3,4,10] } [I64 (((1+(belowC (belowC (belowC x0 5).1 3).1 4).2) - ((i:Nat):Int)) - 1)] gamOK hT h (by kernel_rfl) ⟨⟨by first | omega | (simp only [lsA];omega) | (simp<;>omega),by first | omega | (simp only [lsA];omega) | (simp<;>omega)⟩,trivial⟩ fun a w h=>?_
   replace h:=at_out (σ':=⟨[(0,aP 1 0),(2,aP 3 0),(3,aP 4 0),(4,aI (1+(belowC (belowC x0 5).1 3).2)),(5,aI (((1+(belowC (belowC (belowC x0 5).1 3).1 4).2) - ((i:Nat):Int)) - 1))],[(1,oX 91 [.ro (.u8 5) (rowIt (genIt (belowC (belowC (belowC x0 5).1 3).1 4).1 (1+(belowC (belowC x0 5).1 3).2).toNat i).1 (1+(belowC (belowC x0 5).1 3).2).toNat).1.1,cI (rowIt (genIt (belowC (belowC (belowC x0 5).1 3).1 4).1 (1+(belowC (belowC x0 5).1 3).2).toNat i).1 (1+(belowC (belowC x0 5).1 3).2).toNat).1.2.1,cI (rowIt (genIt (belowC (belowC (belowC x0 5).1 3).1 4).1 (1+(belowC (belowC x0 5).1 3).2).toNat i).1 (1+(belowC (belowC x0 5).1 3).2).toNat).1.2.2]),(2,oP 1 (Value.pointer (some ⟨b0,0,none⟩))),(3,oX 26 [cI 0,cN]),(4,oX 26 [cI (belowC x0 5).2,.sl 5]),(5,oR s33 ((genIt (belowC (belowC (belowC x0 5).1 3).1 4).1 (1+(belowC (belowC x0 5).1 3).2).toNat i).2++([(rowIt (genIt (belowC (belowC (belowC x0 5).1 3).1 4).1 (1+(belowC (belowC x0 5).1 3).2).toNat i).1 (1+(belowC (belowC x0 5).1 3).2).toNat).2])))]⟩) { ts:=[0,2,3,4,5],os:=[1,2,3,4,10],rn:=[(10,5)] } h (by kernel_rfl)
   exact ⟨i+1,at_eq h (st_congr5 (fun (d0:List Int) (d1:Int) (d2:Int) (d3:List (List Int)) (d4:Int)=>(⟨[(0,aP 1 0),(2,aP 3 0),(3,aP 4 0),(4,aI (1+(belowC (belowC x0 5).1 3).2)),(5,aI d4)],[(1,oX 91 [.ro (.u8 5) d0,cI d1,cI d2]),(2,oP 1 (Value.pointer (some ⟨b0,0,none⟩))),(3,oX 26 [cI 0,cN]),(4,oX 26 [cI (belowC x0 5).2,.sl 5]),(5,oR s33 d3)]⟩:St)) (show ((rowIt (genIt (belowC (belowC (belowC x0 5).1 3).1 4).1 (1+(belowC (belowC x0 5).1 3).2).toNat i).1 (1+(belowC (belowC x0 5).1 3).2).toNat).1.1:List Int)=(genIt (belowC (belowC (belowC x0 5).1 3).1 4).1 (1+(belowC (belowC x0 5).1 3).2).toNat (i+1)).1.1 from by first | with_reducible rfl | (rfl) | rfl) (show ((rowIt (genIt (belowC (belowC (belowC x0 5).1 3).1 4).1 (1+(belowC (belowC x0 5).1 3).2).toNat i).1 (1+(belowC (belowC x0 5).1 3).2).toNat).1.2.1:Int)=(genIt (belowC (belowC (belowC x0 5).1 3).1 4).1 (1+(belowC (belowC x0 5).1 3).2).toNat (i+1)).1.2.1 from by first | with_reducible rfl | (rfl) | rfl) (show ((rowIt (genIt (belowC (belowC (belowC x0 5).1 3).1 4).1 (1+(belowC (belowC x0 5).1 3).2).toNat i).1 (1+(belowC (belowC x0 5).1 3).2).toNat).1.2.2:Int)=(genIt (belowC (belowC (belowC x0 5).1 3).1 4).1 (1+(belowC (belowC x0 5).1 3).2).toNat (i+1)).1.2.2 from by first | with_reducible rfl | (rfl) | rfl) (show (((genIt (belowC (belowC (belowC x0 5).1 3).1 4).1 (1+(belowC (belowC x0 5).1 3).2).toNat i).2++([(rowIt (genIt (belowC (belowC (belowC x0 5).1 3).1 4).1 (1+(belowC (belowC x0 5).1 3).2).toNat i).1 (1+(belowC (belowC x0 5).1 3).2).toNat).2])):List (List Int))=(genIt (belowC (belowC (belowC x0 5).1 3).1 4).1 (1+(belowC (belowC x0 5).1 3).2).toNat (i+1)).2 from by first | with_reducible rfl | (rfl) | rfl) (show (((1+(belowC (belowC (belowC x0 5).1 3).1 4).2) - ((i:Nat):Int)) - 1:Int)=((1+(belowC (belowC (belowC x0 5).1 3).1 4).2) - (((i+1):Nat):Int)) from by first | with_reducible rfl | (omega) | rfl)),(by omega),(by omega)⟩
 ·replace h1 : ¬ (((1 + (belowC (belowC (belowC x0 5).1 3).1 4).2) - ((i : Nat) : Int)) > 0) := of_decide_eq_false h1
  refine wp_exit (then_exit ?_)
  replace h:=at_out (σ':=⟨[(2,aP 3 0),(3,aP 4 0)],[(1,oX 91 [.ro (.u8 5) (genIt (belowC (belowC (belowC x0 5).1 3).1 4).1 (1+(belowC (belowC x0 5).1 3).2).toNat i).1.1,cI (genIt (belowC (belowC (belowC x0 5).1 3).1 4).1 (1+(belowC (belowC x0 5).1 3).2).toNat i).1.2.1,cI (genIt (belowC (belowC (belowC x0 5).1 3).1 4).1 (1+(belowC (belowC x0 5).1 3).2).toNat i).1.2.2]),(2,oP 1 (Value.pointer (some ⟨b0,0,none⟩))),(3,oX 26 [cI 0,cN]),(4,oX 26 [cI (belowC x0 5).2,.sl 5]),(5,oR s33 (genIt (belowC (belowC (belowC x0 5).1 3).1 4).1 (1+(belowC (belowC x0 5).1 3).2).toNat i).2)]⟩) { ts:=[2,3],os:=[1,2,3,4,5] } h (by kernel_rfl)
  replace h:=at_eq (σ':=⟨[(2,aP 3 0),(3,aP 4 0)],[(1,oX 91 [.ro (.u8 5) (genIt (belowC (belowC (belowC x0 5).1 3).1 4).1 (1+(belowC (belowC x0 5).1 3).2).toNat (1+(belowC (belowC (belowC x0 5).1 3).1 4).2).toNat).1.1,cI (genIt (belowC (belowC (belowC x0 5).1 3).1 4).1 (1+(belowC (belowC x0 5).1 3).2).toNat (1+(belowC (belowC (belowC x0 5).1 3).1 4).2).toNat).1.2.1,cI (genIt (belowC (belowC (belowC x0 5).1 3).1 4).1 (1+(belowC (belowC x0 5).1 3).2).toNat (1+(belowC (belowC (belowC x0 5).1 3).1 4).2).toNat).1.2.2]),(2,oP 1 (Value.pointer (some ⟨b0,0,none⟩))),(3,oX 26 [cI 0,cN]),(4,oX 26 [cI (belowC x0 5).2,.sl 5]),(5,oR s33 (genIt (belowC (belowC (belowC x0 5).1 3).1 4).1 (1+(belowC (belowC x0 5).1 3).2).toNat (1+(belowC (belowC (belowC x0 5).1 3).1 4).2).toNat).2)]⟩) h (st_congr4 (fun (d0:List Int) (d1:Int) (d2:Int) (d3:List (List Int))=>(⟨[(2,aP 3 0),(3,aP 4 0)],[(1,oX 91 [.ro (.u8 5) d0,cI d1,cI d2]),(2,oP 1 (Value.pointer (some ⟨b0,0,none⟩))),(3,oX 26 [cI 0,cN]),(4,oX 26 [cI (belowC x0 5).2,.sl 5]),(5,oR s33 d3)]⟩:St)) (show ((genIt (belowC (belowC (belowC x0 5).1 3).1 4).1 (1+(belowC (belowC x0 5).1 3).2).toNat i).1.1:List Int)=(genIt (belowC (belowC (belowC x0 5).1 3).1 4).1 (1+(belowC (belowC x0 5).1 3).2).toNat (1+(belowC (belowC (belowC x0 5).1 3).1 4).2).toNat).1.1 from by first | with_reducible rfl | (rw [show (1+(belowC (belowC (belowC x0 5).1 3).1 4).2).toNat=i by omega]) | rfl) (show ((genIt (belowC (belowC (belowC x0 5).1 3).1 4).1 (1+(belowC (belowC x0 5).1 3).2).toNat i).1.2.1:Int)=(genIt (belowC (belowC (belowC x0 5).1 3).1 4).1 (1+(belowC (belowC x0 5).1 3).2).toNat (1+(belowC (belowC (belowC x0 5).1 3).1 4).2).toNat).1.2.1 from by first | with_reducible rfl | (rw [show (1+(belowC (belowC (belowC x0 5).1 3).1 4).2).toNat=i by omega]) | rfl) (show ((genIt (belowC (belowC (belowC x0 5).1 3).1 4).1 (1+(belowC (belowC x0 5).1 3).2).toNat i).1.2.2:Int)=(genIt (belowC (belowC (belowC x0 5).1 3).1 4).1 (1+(belowC (belowC x0 5).1 3).2).toNat (1+(belowC (belowC (belowC x0 5).1 3).1 4).2).toNat).1.2.2 from by first | with_reducible rfl | (rw [show (1+(belowC (belowC (belowC x0 5).1 3).1 4).2).toNat=i by omega]) | rfl) (show ((genIt (belowC (belowC (belowC x0 5).1 3).1 4).1 (1+(belowC (belowC x0 5).1 3).2).toNat i).2:List (List Int))=(genIt (belowC (belowC (belowC x0 5).1 3).1 4).1 (1+(belowC (belowC x0 5).1 3).2).toNat (1+(belowC (belowC (belowC x0 5).1 3).1 4).2).toNat).2 from by first | with_reducible rfl | (rw [show (1+(belowC (belowC (belowC x0 5).1 3).1 4).2).toNat=i by omega]) | rfl))
  refine then_exit (in_hit (then_normal (wp_seq ?_)))
  refine at_regq [] { ts:=[2],os:=[1,2,3,5] } [] gamOK hT h (by kernel_rfl) trivial fun a w h=>then_normal (wp_ret ?_)
  have hr3:(((genIt (belowC (belowC (belowC x0 5).1 3).1 4).1 (1+(belowC (belowC x0 5).1 3).2).toNat (1+(belowC (belowC (belowC x0 5).1 3).1 4).2).toNat).1,((belowC x0 5).2,(genIt (belowC (belowC (belowC x0 5).1 3).1 4).1 (1+(belowC (belowC x0 5).1 3).2).toNat (1+(belowC (belowC (belowC x0 5).1 3).1 4).2).toNat).2)):T91×T26)=genD x0:=by rfl
  exact at_returnB (B:=B_spec_l10Gen) (c0:=x0) (x:=(())) ((genIt (belowC (belowC (belowC x0 5).1 3).1 4).1 (1+(belowC (belowC x0 5).1 3).2).toNat (1+(belowC (belowC (belowC x0 5).1 3).1 4).2).toNat).1) (((belowC x0 5).2,(genIt (belowC (belowC (belowC x0 5).1 3).1 4).1 (1+(belowC (belowC x0 5).1 3).2).toNat (1+(belowC (belowC (belowC x0 5).1 3).1 4).2).toNat).2),()) [(Value.pointer (some ⟨b0,0,none⟩))=(Value.pointer (some ⟨b0,0,none⟩))] h (by kernel_rfl) ⟨rfl,trivial⟩ (congrArg (a₁:=((genIt (belowC (belowC (belowC x0 5).1 3).1 4).1 (1+(belowC (belowC x0 5).1 3).2).toNat (1+(belowC (belowC (belowC x0 5).1 3).1 4).2).toNat).1,((belowC x0 5).2,(genIt (belowC (belowC (belowC x0 5).1 3).1 4).1 (1+(belowC (belowC x0 5).1 3).2).toNat (1+(belowC (belowC (belowC x0 5).1 3).1 4).2).toNat).2))) (a₂:=genD x0) (fun (z:T91×T26)=>z.1) hr3) (congrArg (a₁:=((genIt (belowC (belowC (belowC x0 5).1 3).1 4).1 (1+(belowC (belowC x0 5).1 3).2).toNat (1+(belowC (belowC (belowC x0 5).1 3).1 4).2).toNat).1,((belowC x0 5).2,(genIt (belowC (belowC (belowC x0 5).1 3).1 4).1 (1+(belowC (belowC x0 5).1 3).2).toNat (1+(belowC (belowC (belowC x0 5).1 3).1 4).2).toNat).2))) (a₂:=genD x0) (fun (z:T91×T26)=>(z.2,())) hr3)
theorem genD_ok {x:T91} (h:0≤x.2.1):0≤(genD x).1.2.1∧validG (genD x).2=true∧((genD x).2.1≤4∧List.length (genD x).2.2≤4∧colsOf (genD x).2.2≤3):=by
 have b1:=below_bd x (n:=5) (by decide)
 have b2:=below_bd (belowC x 5).1 (n:=3) (by decide)
 have b3:=below_bd (belowC (belowC x 5).1 3).1 (n:=4) (by decide)
 have hx:=below_ok (n:=4) (below_ok (n:=3) (below_ok (n:=5) h))
 have hi:=genIt_inv (n:=(1+(belowC (belowC x 5).1 3).2).toNat) hx (1+(belowC (belowC (belowC x 5).1 3).1 4).2).toNat
 have hv:=validG_of (a:=(belowC x 5).2) (n:=(1+(belowC (belowC x 5).1 3).2).toNat) (by omega) (by rw [hi.2.1];omega) (by omega) hi.2.2
 refine ⟨hi.1,hv.1,by show (belowC x 5).2≤4;omega,?_,?_⟩
 ·show List.length (genIt _ _ _).2 ≤ 4
  rw [hi.2.1];omega
 ·show colsOf (genIt _ _ _).2 ≤ 3
  rw [hv.2];omega
theorem validG_fit {g:T26} (h:validG g=true):Sh.fit s26 g:=by
 have h1:=validG_t h
 have hm:=validM_t h1.2.2.1
 refine ⟨trivial,by omega,fun r hr=>⟨by have:=(hm.2 r hr).2;have:=colsOf_at (m:=g.2) (by omega);omega,fun _ _=>trivial⟩⟩

theorem codePk_ok {g:T26} {cs:List Int} (h:validG g=true) (hc:LA.VokB g.2.length cs):codePk g cs=((g.1,cs,combS g.2 cs),true):=by
 have hg:=validG_t h
 rw [← codePk_y h (validV_of hc (by omega)) hc.1,genC h hc]
theorem combS_ok {g:T26} {cs:List Int} (h:validG g=true) (hc:LA.VokB g.2.length cs):LA.VokB (g.2.getD 0 []).length (combS g.2 cs):=by
 have hm:=validM_ok (validG_t h).2.2.1
 exact combTo_ok rfl (fun j=>hc.rng j) g.2.length fun j hj=>hm _ (LA.getD_in hj)
def pktD (x0:T91) (x1:T26):T91×T38:=((vecD x0 ((List.length x1.2:Nat):Int)).1,(codePk x1 (vecD x0 ((List.length x1.2:Nat):Int)).2).1)
abbrev Q_spec_l11Packet:=(fun (x0:T91) (x1:T26)=>0≤x0.2.1∧validG x1=true)
def B_spec_l11Packet:BS:={ t:=91,s:=s91,dom:=[s26],cod:=[s38],pre:=fun y x=>Q_spec_l11Packet y x.1,upd:=fun y x=>(pktD y x.1).1,g:=fun y x=>((pktD y x.1).2,()) }
def S_spec_l11Packet:Sum:=bSum 64 B_spec_l11Packet
def S_spec_l11Packet_tab:List (Nat×Sum):=[(98,S_spec_l5Vector),(18,S_spec_CodePacket)]
theorem S_spec_l11Packet_ok:FnOK Try.prog 64 S_spec_l11Packet:=by
 refine at_enterB (B:=B_spec_l11Packet) 18 (fun v y x=>⟨[(0,aP 1 0),(1,aG [cI x.1.1,.ro s33 x.1.2])],[(1,oX 91 [.ro (.u8 5) y.1,cI y.2.1,cI y.2.2]),(2,oP 1 v)]⟩) Try.func64 rfl (by kernel_rfl) (fun v y x=>rfl) ?_
 rintro w0 Z0 b0 x0 ⟨x1,u⟩ a w
 revert x0 x1
 intro (x0:T91) (x1:T26) hpre hlens0 hlens h
 replace h:At w0 Z0 [b0] 18 ⟨[(0,aP 1 0),(1,aG [cI x1.1,.ro s33 x1.2])],[(1,oX 91 [.ro (.u8 5) x0.1,cI x0.2.1,cI x0.2.2]),(2,oP 1 (Value.pointer (some ⟨b0,0,none⟩)))]⟩ a w:=h
 replace hpre:Q_spec_l11Packet x0 x1:=hpre
 have hl1:List.length x0.1≤9223372036854775807:=hlens0.1.1
 have hu0:u8L x0.1:=hlens0.1.2
 have hl2:List.length x1.2≤9223372036854775807:=hlens.1.2.1
 have hT:TabOK Try.prog S_spec_l11Packet_tab:=(.cons S_spec_l5Vector_ok (.cons S_spec_CodePacket_ok .nil))
 have hvg:=validG_t hpre.2
 have hvd:=vecD_ok (n:=((List.length x1.2:Nat):Int)) hpre.1
 have hvl:=hvd.2.1
 have hgf:=validG_fit hpre.2
 refine wp_seq ?_
 refine at_regq [{ ids:=[3] },{ ids:=[4] }] { ts:=[0,3,4],os:=[1,2,3,4] } [] gamOK hT h (by kernel_rfl) trivial fun a w h=>then_normal (wp_seq ?_)
 refine at_anyq [{},{},{},{},{},{ ids:=[5] },{ ids:=[6,7] },{},{},{},{ ids:=[8] },{},{}] { ts:=[4,5],os:=[1,2,4,6,7,8] } [B_spec_l5Vector.pre x0 (((List.length x1.2:Nat):Int),()),Q_spec_CodePacket x1 (vecD x0 ((List.length x1.2:Nat):Int)).2] gamOK hT mixed h (by kernel_rfl) ⟨(by exact ⟨hpre.1,by omega⟩),(by exact ⟨hgf,Sh.fit_len rfl (by omega)⟩),trivial⟩ fun a w h=>then_normal (wp_seq ?_)
 refine at_regq [] { ts:=[4],os:=[1,2,4,6,7] } [] gamOK hT h (by kernel_rfl) trivial fun a w h=>then_normal (wp_ret ?_)
 have hr1:(((vecD x0 ((List.length x1.2:Nat):Int)).1,(codePk x1 (vecD x0 ((List.length x1.2:Nat):Int)).2).1):T91×T38)=pktD x0 x1:=by rfl
 exact at_returnB (B:=B_spec_l11Packet) (c0:=x0) (x:=(x1,())) ((vecD x0 ((List.length x1.2:Nat):Int)).1) ((codePk x1 (vecD x0 ((List.length x1.2:Nat):Int)).2).1,()) [(Value.pointer (some ⟨b0,0,none⟩))=(Value.pointer (some ⟨b0,0,none⟩))] h (by kernel_rfl) ⟨rfl,trivial⟩ (congrArg (a₁:=((vecD x0 ((List.length x1.2:Nat):Int)).1,(codePk x1 (vecD x0 ((List.length x1.2:Nat):Int)).2).1)) (a₂:=pktD x0 x1) (fun (z:T91×T38)=>z.1) hr1) (congrArg (a₁:=((vecD x0 ((List.length x1.2:Nat):Int)).1,(codePk x1 (vecD x0 ((List.length x1.2:Nat):Int)).2).1)) (a₂:=pktD x0 x1) (fun (z:T91×T38)=>(z.2,())) hr1)
theorem pktD_ok {x:T91} {g:T26} (h:0≤x.2.1) (hg:validG g=true):0≤(pktD x g).1.2.1∧(pktD x g).2.1=g.1∧LA.VokB g.2.length (pktD x g).2.2.1∧(pktD x g).2.2.2=combS g.2 (pktD x g).2.2.1:=by
 have hvd:=vecD_ok (n:=((List.length g.2:Nat):Int)) h
 have hv2:=hvd.2
 rw [Int.toNat_natCast] at hv2
 unfold pktD
 rw [codePk_ok hg hv2]
 exact ⟨hvd.1,rfl,hv2,rfl⟩
theorem pktD_fit {x:T91} {g:T26} (h:0≤x.2.1) (hg:validG g=true):Sh.fit s38 (pktD x g).2:=by
 obtain ⟨h1,h2,h3,h4⟩:=pktD_ok h hg
 have hv:=validG_t hg
 have hc:=combS_ok hg h3
 have hco:=colsOf_at (m:=g.2) (by omega)
 refine ⟨trivial,⟨by have:=h3.1;omega,fun _ _=>trivial⟩,⟨?_,fun _ _=>trivial⟩⟩
 rw [h4];have:=hc.1;omega
theorem pktD_len {x:T91} {g:T26} (h:0≤x.2.1) (hg:validG g=true):List.length (pktD x g).2.2.1≤8∧(1≤List.length (pktD x g).2.2.2∧List.length (pktD x g).2.2.2≤16)∧∀ j,0≤(pktD x g).2.2.2.getD j 0∧(pktD x g).2.2.2.getD j 0≤1018:=by
 obtain ⟨_,_,h3,h4⟩:=pktD_ok h hg
 have hv:=validG_t hg
 have hc:=combS_ok hg h3
 have hco:=colsOf_at (m:=g.2) (by omega)
 rw [h4]
 exact ⟨by have:=h3.1;omega,by have:=hc.1;omega,fun j=>hc.rng j⟩

def Cons (m:List (List Int)) (w:Nat) (v:LA.V):Prop:=(∀ j,j < w→v (m.length+j)=LA.sumN (fun k=>v k*LA.vec (m.getD k []) j) m.length)∧∀ j,m.length+w≤j→v j=0
theorem Cons.nil {m:List (List Int)} {w:Nat} {v:LA.V} (h:Cons m w v) (h0:∀ k,k < m.length→v k=0):v=LA.vz:=by
 funext j
 by_cases h1:j < m.length
 ·exact h0 j h1
 ·by_cases h2 : j < m.length + w
  ·have := h.1 (j - m.length) (by omega)
   rw [show m.length+(j - m.length)=j by omega] at this
   rw [this];exact LA.sumN_zero fun i hi=>by rw [h0 i hi];grind
  ·exact h.2 j (by omega)
theorem Cons.lead {m:List (List Int)} {w:Nat} {v:LA.V} (h:Cons m w v) {l:Nat} (hl:LA.Lead v l):l < m.length:=by
 refine Decidable.byContradiction fun hn=>?_
 have:=h.nil (fun k hk=>hl.2 k (by omega))
 rw [this] at hl;exact hl.1 rfl
theorem vec_app {a b:List Int} (j:Nat):LA.vec (a++b) j=if j < a.length then LA.vec a j else LA.vec b (j - a.length):=by
 unfold LA.vec
 split
 ·rename_i h
  rw [List.getD_eq_getElem?_getD,List.getElem?_append_left h,List.getD_eq_getElem?_getD]
 ·rename_i h
  rw [List.getD_eq_getElem?_getD,List.getElem?_append_right (by omega),List.getD_eq_getElem?_getD]
theorem vec_comb {m:List (List Int)} {cs:List Int} {w:Nat} (hm:∀ j,j < m.length→LA.VokB w (m.getD j [])) (h0:(m.getD 0 []).length=w) (hc:∀ j,0≤cs.getD j 0∧cs.getD j 0≤1018):∀ i,i≤m.length→LA.vec (combTo m cs i)=fun j=>LA.sumN (fun k=>LA.vec cs k*LA.vec (m.getD k []) j) i
 | 0, _ => by
  funext j
  simp only [combTo,LA.vec,LA.sumN]
  rw [List.getD_eq_getElem?_getD,List.getElem?_replicate]
  split<;>rfl
 | i + 1, hi => by
  have ih:=vec_comb hm h0 hc i (by omega)
  have ho:=combTo_ok (n:=w) (vs:=m) (cs:=cs) h0 hc i (fun j hj=>hm j (by omega))
  simp only [combTo]
  rw [(LA.addS_ok ho (hm i (by omega)) (hc i)).2,ih]
  rfl
theorem cons_code {m:List (List Int)} {cs:List Int} {w:Nat} (hm:∀ j,j < m.length→LA.VokB w (m.getD j [])) (h0:(m.getD 0 []).length=w) (hc:LA.VokB m.length cs):Cons m w (LA.vec (cs++combS m cs)):=by
 have hv:=vec_comb hm h0 hc.rng m.length (Nat.le_refl _)
 have ho:=combTo_ok (n:=w) (vs:=m) (cs:=cs) h0 hc.rng m.length hm
 refine ⟨fun j hj=>?_,fun j hj=>?_⟩
 ·rw [vec_app, hc.1, if_neg (by omega), Nat.add_sub_cancel_left]
  unfold combS;rw [hv]
  exact LA.sumN_congr fun k hk=>by rw [vec_app,hc.1,if_pos hk]
 ·exact LA.vec_out (by rw [List.length_append,hc.1];unfold combS;rw [ho.1];exact hj)
structure ConR (m:List (List Int)) (w:Nat) (rows:List (List Int)):Prop where
 red:LA.RedL (m.length+w) rows
 con:∀ r∈rows,Cons m w (LA.vec r)
theorem ConR.all {m:List (List Int)} {w:Nat} {rows:List (List Int)} (h:ConR m w rows):∀ r∈rows.map LA.vec,Cons m w r:=fun r hr=>by
 obtain ⟨x,hx,rfl⟩:=List.mem_map.1 hr
 exact h.con x hx
theorem ConR.piv {m:List (List Int)} {w:Nat} {rows:List (List Int)} (h:ConR m w rows) {i:Nat} (hi:i < rows.length):LA.pv rows i < m.length:=by
 have h1:=h.red.red.lead (i:=i) (by simpa using hi)
 rw [LA.row_vec hi] at h1
 exact (h.con _ (LA.getD_in hi)).lead h1
theorem ConR.lead {m:List (List Int)} {w:Nat} {rows:List (List Int)} (h:ConR m w rows):∀ r∈rows,LA.leadS r < (m.length:Int):=fun r hr=>by
 obtain ⟨i,hi,rfl⟩:=List.getElem_of_mem hr
 have h1:=h.piv hi
 unfold LA.pv at h1
 rw [getD_of_lt hi] at h1
 have:=h.red.nz _ hr
 omega
def uRow (m:List (List Int)) (i:Nat):List Int:=unitL m.length i++m.getD i []
theorem unitL_at {n:Nat} {i j:Nat} (hj:j < n):(unitL n i).getD j 0=if j=i then 1 else 0:=by
 rw [getD_of_lt (by rw [unitL_len];exact hj)]
 simp only [unitL,List.getElem_map,List.getElem_range]
 by_cases e:j=i
 ·rw [if_pos e,if_pos (by omega)]
 ·rw [if_neg e,if_neg (by omega)]
theorem vec_unit {n:Nat} {i j:Nat} (hi:i < n):LA.vec (unitL n i) j=if j=i then 1 else 0:=by
 by_cases hj:j < n
 ·unfold LA.vec;rw [unitL_at hj];split<;>rfl
 ·rw [LA.vec_out (by rw [unitL_len];omega),if_neg (by omega)]
theorem uRow_ok {m:List (List Int)} {w:Nat} {i:Nat} (hm:∀ j,j < m.length→LA.VokB w (m.getD j [])) (hi:i < m.length):LA.VokB (m.length+w) (uRow m i):=by
 have h1:=unitL_ok m.length (i:Int)
 have h2:=hm i hi
 refine ⟨by unfold uRow;rw [List.length_append,h1.1,h2.1],fun x hx=>?_⟩
 rcases List.mem_append.1 hx with hx | hx
 ·exact h1.2 x hx
 ·exact h2.2 x hx
theorem uRow_at {m:List (List Int)} {i k:Nat} (hi:i < m.length) (hk:k < m.length):LA.vec (uRow m i) k=if k=i then 1 else 0:=by
 unfold uRow
 rw [vec_app,unitL_len,if_pos hk,vec_unit hi]
theorem ConR.unit {m:List (List Int)} {w:Nat} {rows:List (List Int)} (h:ConR m w rows) (hm:∀ j,j < m.length→LA.VokB w (m.getD j [])) {i:Nat} (hi:i < m.length) (hs:LA.Span (rows.map LA.vec) (LA.vec (uRow m i))):∃ k,k < rows.length∧LA.pv rows k=i∧rows.getD k []=uRow m i:=by
 obtain ⟨c,hc⟩:=hs
 have hL:(rows.map LA.vec).length=rows.length:=List.length_map ..
 have hp:∀ k,k < rows.length→c k=if LA.pv rows k=i then 1 else 0:=fun k hk=>by
  rw [← h.red.red.at_piv c (k:=k) (by rw [hL];exact hk),← hc,uRow_at hi (h.piv hk)]
 by_cases he:∃ k,k < rows.length∧LA.pv rows k=i
 ·obtain ⟨k, hk, hki⟩ := he
  refine ⟨k,hk,hki,?_⟩
  refine LA.vec_inj (h.red.ok _ (LA.getD_in hk)) (uRow_ok hm hi) ?_
  rw [hc];funext j
  simp only [LA.comb]
  rw [LA.sumN_single (k:=k) (by rw [hL];exact hk) (fun t ht hne=>by
   rw [hp t (by rw [hL] at ht;exact ht),if_neg (fun e=>hne (h.red.red.inj ht (by rw [hL];exact hk) (e.trans hki.symm)))];grind),hp k hk,if_pos hki,LA.row_vec hk];grind
 ·exfalso
  have h1:=congrFun hc i
  rw [uRow_at hi hi,if_pos rfl] at h1
  simp only [LA.comb] at h1
  rw [LA.sumN_zero (fun t ht=>by rw [hp t (by rw [hL] at ht;exact ht),if_neg (fun e=>he ⟨t,by rw [hL] at ht;exact ht,e⟩)];grind)] at h1
  exact absurd h1 (by decide)
theorem ConR.mono {m:List (List Int)} {w:Nat} {rows:List (List Int)} (h:ConR m w rows) {i j:Nat} (hij:i < j) (hj:j < rows.length):LA.pv rows i < LA.pv rows j:=h.red.red.inc i j hij (by simpa using hj)
theorem ConR.ge {m:List (List Int)} {w:Nat} {rows:List (List Int)} (h:ConR m w rows):∀ i,i < rows.length→i≤LA.pv rows i
 | 0,_=>Nat.zero_le _
 | i+1,hi=>by have:=h.ge i (by omega);have:=h.mono (show i < i+1 by omega) hi;omega
theorem ConR.le {m:List (List Int)} {w:Nat} {rows:List (List Int)} (h:ConR m w rows):rows.length≤m.length:=by
 rcases Nat.eq_zero_or_pos rows.length with h0 | h0
 ·omega
 ·have h1 := h.ge (rows.length - 1) (by omega)
  have h2:=h.piv (i:=rows.length - 1) (by omega)
  omega
theorem ConR.len {m:List (List Int)} {w:Nat} {rows:List (List Int)} (h:ConR m w rows) (hm:∀ j,j < m.length→LA.VokB w (m.getD j [])) (hs:∀ i,i < m.length→LA.Span (rows.map LA.vec) (LA.vec (uRow m i))):rows.length=m.length:=by
 have key:∀ i,i < m.length→i < rows.length∧∃ k,k < rows.length∧i≤k∧LA.pv rows k=i:=by
  intro i
  induction i with
  | zero=>intro hi;obtain ⟨k,hk,hp,_⟩:=h.unit hm hi (hs 0 hi);exact ⟨by omega,k,hk,Nat.zero_le _,hp⟩
  | succ i ih =>
   intro hi
   obtain ⟨h1,k,hk,hik,hp⟩:=ih (by omega)
   obtain ⟨k',hk',hp',_⟩:=h.unit hm hi (hs (i+1) hi)
   have:k < k':=by
    rcases Nat.lt_trichotomy k k' with h | h' | h'
    ·exact h
    ·subst h';omega
    ·have:=h.mono h' hk;omega
   exact ⟨by omega,k',hk',by omega,hp'⟩
 have:=h.le
 rcases Nat.eq_zero_or_pos m.length with h0 | h0
 ·omega
 ·have:=(key (m.length - 1) (by omega)).1;omega
def wid (g:T26):Nat:=(g.2.getD 0 []).length
theorem gen_rows {g:T26} (h:validG g=true):(1≤g.2.length∧g.2.length≤8)∧(1≤wid g∧wid g≤16)∧(∀ j,j < g.2.length→LA.VokB (wid g) (g.2.getD j []))∧colsOf g.2=((wid g:Nat):Int):=by
 have h1:=validG_t h
 have h2:=validM_ok h1.2.2.1
 have h3:=colsOf_at (m:=g.2) (by omega)
 unfold wid
 exact ⟨by omega,by omega,fun j hj=>h2 _ (LA.getD_in hj),h3⟩
structure DecOK (g:T26) (d:T30):Prop where
 id:d.1=g.1
 sz:d.2.1=((List.length g.2:Nat):Int)
 wd:d.2.2.1=((wid g:Nat):Int)
 tot:d.2.2.2.1=((List.length g.2+wid g:Nat):Int)
 con:ConR g.2 (wid g) d.2.2.2.2
theorem DecOK.basis {g:T26} {d:T30} (hg:validG g=true) (h:DecOK g d):basP d.2.2.2:=by
 have h1:=gen_rows hg
 have h2:=h.tot
 refine ⟨by omega,?_⟩
 rw [h2,Int.toNat_natCast];exact h.con.red
theorem DecOK.valid {g:T26} {d:T30} (hg:validG g=true) (h:DecOK g d):validD d=true:=by
 have h1:=gen_rows hg
 have hv:=validG_t hg
 have h2:=h.tot;have h3:=h.sz;have h4:=h.wd;have h5:=h.id
 have hf:isFmt d.1 d.2.1 d.2.2.1=true:=by
  unfold isFmt
  rw [if_pos (show inR d.1 0 1000000000000=true from inR_true (by omega)),if_pos (show inR d.2.1 1 8=true from inR_true (by omega))]
  exact inR_true (by omega)
 have hall:(d.2.2.2.2.all fun r=>decide (LA.leadS r < d.2.1))=true:=List.all_eq_true.2 fun r hr=>decide_eq_true (by have:=h.con.lead r hr;omega)
 unfold validD
 rw [if_pos hf,if_pos ((validB_iff _).2 (h.basis hg)),if_pos (by omega)]
 first | exact hall | exact if_pos hall
theorem DecOK.fit {g:T26} {d:T30} (hg:validG g=true) (h:DecOK g d):Sh.fit s30 d:=⟨trivial,trivial,trivial,basP_fit (h.basis hg)⟩
theorem code_row {g:T26} {cs:List Int} (hg:validG g=true) (hc:LA.VokB g.2.length cs):LA.VokB (g.2.length+wid g) (cs++combS g.2 cs)∧Cons g.2 (wid g) (LA.vec (cs++combS g.2 cs)):=by
 have h1:=gen_rows hg
 have ho:=combTo_ok (n:=wid g) (vs:=g.2) (cs:=cs) rfl hc.rng g.2.length h1.2.2.1
 refine ⟨⟨by rw [List.length_append,hc.1];unfold combS;rw [ho.1],fun x hx=>?_⟩,cons_code h1.2.2.1 rfl hc⟩
 rcases List.mem_append.1 hx with hx | hx
 ·exact hc.2 x hx
 ·exact ho.2 x hx
theorem code_valid {g:T26} {cs:List Int} (hg:validG g=true) (hc:LA.VokB g.2.length cs) {a b:Int} (ha:a=((List.length g.2:Nat):Int)) (hb:b=((wid g:Nat):Int)):validP (g.1,cs,combS g.2 cs) a b=true:=by
 have h1:=gen_rows hg
 have hv:=validG_t hg
 have ho:=combTo_ok (n:=wid g) (vs:=g.2) (cs:=cs) rfl hc.rng g.2.length h1.2.2.1
 subst ha hb
 refine validP_of ⟨?_,?_,?_,validV_of hc (by omega),validV_of (n:=wid g) (v:=combS g.2 cs) ho (by omega)⟩
 ·unfold isFmt
  rw [if_pos (show inR g.1 0 1000000000000=true from inR_true (by omega)),if_pos (show inR ((List.length g.2:Nat):Int) 1 8=true from inR_true (by omega))]
  exact inR_true (by omega)
 ·show ((List.length cs:Nat):Int)=_;rw [hc.1]
 ·show ((List.length (combS g.2 cs):Nat):Int)=_;unfold combS;rw [ho.1]
theorem red_le {n:Nat} {A B:List (List Int)} (hA:LA.RedL n A) (hB:LA.RedL n B) (h:∀ x,LA.Span (A.map LA.vec) x→LA.Span (B.map LA.vec) x):A.length≤B.length:=by
 have key:∀ i,i < A.length→∃ k,k < B.length∧i≤k∧LA.pv B k=LA.pv A i:=by
  intro i
  induction i with
  | zero =>
   intro hi
   have hl:=hA.red.lead (i:=0) (by simpa using hi)
   obtain ⟨k,hk,hp⟩:=hB.red.lead_piv (h _ (LA.Span.row (m:=A.map LA.vec) (i:=0) (by simpa using hi))) hl
   exact ⟨k,by simpa using hk,Nat.zero_le _,hp⟩
  | succ i ih =>
   intro hi
   obtain ⟨k,hk,hik,hp⟩:=ih (by omega)
   have hl:=hA.red.lead (i:=i+1) (by simpa using hi)
   obtain ⟨k',hk',hp'⟩:=hB.red.lead_piv (h _ (LA.Span.row (m:=A.map LA.vec) (i:=i+1) (by simpa using hi))) hl
   have hk':k' < B.length:=by simpa using hk'
   have hm:=hA.red.inc i (i+1) (by omega) (by simpa using hi)
   have:k < k':=by
    rcases Nat.lt_trichotomy k k' with h1 | h1 | h1
    ·exact h1
    ·subst h1;omega
    ·have:=hB.red.inc k' k h1 (by simpa using hk);omega
   exact ⟨k',hk',by omega,hp'⟩
 rcases Nat.eq_zero_or_pos A.length with h0 | h0
 ·omega
 ·obtain ⟨k,hk,h1,_⟩:=key (A.length - 1) (by omega);omega
theorem comb_code {m:List (List Int)} {w:Nat} {ps:List T38} {ws:List Int} (hm:∀ j,j < m.length→LA.VokB w (m.getD j [])) (h0:(m.getD 0 []).length=w) (hp:∀ i,i < ps.length→LA.VokB m.length ((cofs ps).getD i [])∧(pays ps).getD i []=combS m ((cofs ps).getD i [])) (hl:0 < ps.length) (hw:LA.VokB ps.length ws) :
  LA.VokB m.length (combS (cofs ps) ws)∧combS (pays ps) ws=combS m (combS (cofs ps) ws)∧LA.Span ((cofs ps).map LA.vec) (LA.vec (combS (cofs ps) ws)):=by
 have hcl:=cofs_len ps
 have hpl:=pays_len ps
 have c0:((cofs ps).getD 0 []).length=m.length:=(hp 0 hl).1.1
 have hc:∀ j,j < (cofs ps).length→LA.VokB m.length ((cofs ps).getD j []):=fun j hj=>(hp j (by omega)).1
 have hpv:∀ j,j < (pays ps).length→LA.VokB w ((pays ps).getD j []):=fun j hj=>by
  have:=hp j (by omega)
  rw [this.2]
  exact combTo_ok h0 this.1.rng m.length hm
 have p0:((pays ps).getD 0 []).length=w:=(hpv 0 (by omega)).1
 have v1:=combTo_ok (n:=m.length) (vs:=cofs ps) (cs:=ws) c0 hw.rng (cofs ps).length hc
 have v2:=combTo_ok (n:=w) (vs:=pays ps) (cs:=ws) p0 hw.rng (pays ps).length hpv
 have e1:=vec_comb hc c0 hw.rng (cofs ps).length (Nat.le_refl _)
 have e2:=vec_comb hpv p0 hw.rng (pays ps).length (Nat.le_refl _)
 have v1':LA.VokB m.length (combS (cofs ps) ws):=v1
 have e3:=vec_comb hm h0 v1'.rng m.length (Nat.le_refl _)
 have v3:=combTo_ok (n:=w) (vs:=m) (cs:=combS (cofs ps) ws) h0 v1'.rng m.length hm
 refine ⟨v1,?_,?_⟩
 ·refine LA.vec_inj (n := w) v2 v3 ?_
  show LA.vec (combTo (pays ps) ws (pays ps).length)=LA.vec (combTo m (combS (cofs ps) ws) m.length)
  rw [e2,e3]
  funext j
  have a1:LA.sumN (fun k=>LA.vec ws k*LA.vec ((pays ps).getD k []) j) (pays ps).length=LA.sumN (fun k=>LA.sumN (fun t=>LA.vec ws k*(LA.vec ((cofs ps).getD k []) t*LA.vec (m.getD t []) j)) m.length) ps.length:=by
   rw [hpl]
   refine LA.sumN_congr fun k hk=>?_
   have hk':=hp k hk
   have e4:=congrFun (vec_comb hm h0 hk'.1.rng m.length (Nat.le_refl _)) j
   rw [hk'.2,LA.sumN_mul,← e4];rfl
  have a2:LA.sumN (fun k=>LA.vec (combS (cofs ps) ws) k*LA.vec (m.getD k []) j) m.length=LA.sumN (fun t=>LA.sumN (fun k=>LA.vec ws k*(LA.vec ((cofs ps).getD k []) t*LA.vec (m.getD t []) j)) ps.length) m.length:=by
   refine LA.sumN_congr fun t ht=>?_
   have e5:LA.vec (combS (cofs ps) ws) t=LA.sumN (fun k=>LA.vec ws k*LA.vec ((cofs ps).getD k []) t) ps.length:=by
    have:=congrFun e1 t
    rw [hcl] at this;rw [← this,← hcl];rfl
   have e6:LA.sumN (fun k=>LA.vec ws k*(LA.vec ((cofs ps).getD k []) t*LA.vec (m.getD t []) j)) ps.length=LA.sumN (fun k=>LA.vec (m.getD t []) j*(LA.vec ws k*LA.vec ((cofs ps).getD k []) t)) ps.length:=LA.sumN_congr fun k _=>by grind
   rw [e5,e6,LA.sumN_mul];grind
  rw [a1,a2]
  exact LA.sumN_swap _ _ _
 ·refine ⟨fun i => LA.vec ws i, ?_⟩
  show LA.vec (combTo (cofs ps) ws (cofs ps).length)=_
  rw [e1]
  funext j
  simp only [LA.comb]
  rw [List.length_map]
  exact LA.sumN_congr fun k hk=>by rw [LA.row_vec hk]
structure RecOK (g:T26) (r:T54):Prop where
 id:r.1=g.1
 sz:r.2.1=((List.length g.2:Nat):Int)
 wd:r.2.2.1=((wid g:Nat):Int)
 pk:∀ i,i < r.2.2.2.1.length→LA.VokB g.2.length (r.2.2.2.1.getD i (0,([],[]))).2.1∧r.2.2.2.1.getD i (0,([],[]))=(g.1,(r.2.2.2.1.getD i (0,([],[]))).2.1,combS g.2 (r.2.2.2.1.getD i (0,([],[]))).2.1)
 ind:∀ j,j < r.2.2.2.1.length→LA.insOk (cofs r.2.2.2.1) j=true
 sn:0≤r.2.2.2.2∧r.2.2.2.2≤1000000
theorem RecOK.cof {g:T26} {r:T54} (h:RecOK g r):∀ v∈cofs r.2.2.2.1,LA.VokB g.2.length v:=fun v hv=>by
 obtain ⟨i,hi,rfl⟩:=List.getElem_of_mem hv
 rw [cofs_len] at hi
 have:=(h.pk i hi).1
 rw [← cofs_at hi,getD_of_lt (by rw [cofs_len];exact hi)] at this
 exact this
theorem RecOK.base {g:T26} {r:T54} (h:RecOK g r):LA.RedL g.2.length (LA.insTo (cofs r.2.2.2.1) r.2.2.2.1.length)∧(∀ x,LA.Span ((LA.insTo (cofs r.2.2.2.1) r.2.2.2.1.length).map LA.vec) x↔LA.Span ((cofs r.2.2.2.1).map LA.vec) x)∧(LA.insTo (cofs r.2.2.2.1) r.2.2.2.1.length).length=r.2.2.2.1.length:=by
 have hl:=cofs_len r.2.2.2.1
 have h1:=LA.insTo_ok h.cof r.2.2.2.1.length (by omega)
 have h2:=LA.insTo_len h.cof r.2.2.2.1.length (by omega)
 refine ⟨h1.1,?_,h2.2.2 h.ind⟩
 have:=h1.2
 rw [← hl,List.take_length] at this
 rwa [hl] at this
theorem RecOK.le {g:T26} {r:T54} (h:RecOK g r):r.2.2.2.1.length≤g.2.length:=by
 have:=h.base.1.len
 rwa [h.base.2.2] at this
theorem RecOK.valid {g:T26} {r:T54} (hg:validG g=true) (h:RecOK g r):validR r=true:=by
 have h1:=gen_rows hg
 have hv:=validG_t hg
 have h2:=h.le
 have h3:=h.sz;have h4:=h.wd;have h5:=h.id;have h6:=h.sn
 have hf:isFmt r.1 r.2.1 r.2.2.1=true:=by
  unfold isFmt
  rw [if_pos (show inR r.1 0 1000000000000=true from inR_true (by omega)),if_pos (show inR r.2.1 1 8=true from inR_true (by omega))]
  exact inR_true (by omega)
 unfold validR
 rw [hf,decide_eq_true (show List.length r.2.2.2.1≤8 by omega),show inR r.2.2.2.2 0 1000000000000=true from inR_true (by omega)]
 rw [Bool.and_self,Bool.and_self,Bool.true_and,allN_iff]
 intro j hj
 have hp:=h.pk j hj
 unfold recB
 rw [h.ind j hj,Bool.and_true,hp.2]
 exact okPkt_t (code_valid hg hp.1 h3 h4) h5.symm
theorem RecOK.fit {g:T26} {r:T54} (hg:validG g=true) (h:RecOK g r):Sh.fit s54 r:=by
 have h1:=gen_rows hg
 have h2:=h.le
 refine ⟨trivial,trivial,trivial,⟨by omega,fun q hq=>?_⟩,trivial⟩
 obtain ⟨i,hi,rfl⟩:=List.getElem_of_mem hq
 have:=h.pk i hi
 rw [getD_of_lt hi] at this
 rw [this.2]
 have hr:=(code_row hg this.1).1.1
 rw [List.length_append,this.1.1] at hr
 have hc:=this.1.1
 generalize (r.2.2.2.1[i]).2.1=cs at hr hc ⊢
 exact ⟨trivial,Sh.fit_len rfl (show List.length cs≤_ by omega),Sh.fit_len rfl (show List.length (combS g.2 cs)≤_ by omega)⟩
theorem newRec_ok {g:T26} {a b e:Int} (hg:validG g=true) (ha:a=g.1) (hb:b=((List.length g.2:Nat):Int)) (he:e=((wid g:Nat):Int)):RecOK g (newRec a b e)∧(newRec a b e).2.2.2.1=[]:=by
 have h1:=gen_rows hg
 have hv:=validG_t hg
 subst ha hb he
 have hf:isFmt g.1 ((List.length g.2:Nat):Int) ((wid g:Nat):Int)=true:=by
  unfold isFmt
  rw [if_pos (show inR g.1 0 1000000000000=true from inR_true (by omega)),if_pos (show inR ((List.length g.2:Nat):Int) 1 8=true from inR_true (by omega))]
  exact inR_true (by omega)
 unfold newRec
 rw [if_pos hf]
 exact ⟨⟨rfl,rfl,rfl,fun i hi=>absurd hi (by simp),fun i hi=>absurd hi (by simp),by dsimp only;omega⟩,rfl⟩
theorem acc_con {g:T26} {r:T54} {cs:List Int} (hg:validG g=true) (h:RecOK g r) (hc:LA.VokB g.2.length cs) :
  RecOK g (acceptR r (g.1,cs,combS g.2 cs)).1∧((acceptR r (g.1,cs,combS g.2 cs)).2=false↔LA.Span ((cofs r.2.2.2.1).map LA.vec) (LA.vec cs))∧((acceptR r (g.1,cs,combS g.2 cs)).2=true→(acceptR r (g.1,cs,combS g.2 cs)).1=(r.1,r.2.1,r.2.2.1,r.2.2.2.1++[(g.1,cs,combS g.2 cs)],r.2.2.2.2))∧((acceptR r (g.1,cs,combS g.2 cs)).2=false→(acceptR r (g.1,cs,combS g.2 cs)).1=r):=by
 obtain ⟨b1,b2,b3⟩:=h.base
 have h1:=gen_rows hg
 have hv:=h.valid hg
 obtain ⟨i1,i2,i3,i4,i5⟩:=LA.insS_ok b1 hc
 have hle:=h.le
 by_cases hs:LA.Span ((cofs r.2.2.2.1).map LA.vec) (LA.vec cs)
 ·have hf : insD (r.2.1, LA.insTo (cofs r.2.2.2.1) (List.length r.2.2.2.1)) cs = false := i2.2 ((b2 _).2 hs)
  have hno:accOK r (g.1,cs,combS g.2 cs)=false:=accOK_f (Or.inr (Or.inr (Or.inr hf)))
  have e:acceptR r (g.1,cs,combS g.2 cs)=(r,false):=by
   unfold acceptR;rw [if_neg (fun e=>by rw [hno] at e;cases e.2)]
  rw [e]
  exact ⟨h,⟨fun _=>hs,fun _=>rfl⟩,fun e=>(by cases e),fun _=>rfl⟩
 ·have ht:(LA.insS (LA.insTo (cofs r.2.2.2.1) r.2.2.2.1.length) cs).2=true:=by
   cases hb:(LA.insS (LA.insTo (cofs r.2.2.2.1) r.2.2.2.1.length) cs).2 with
   | true=>rfl
   | false=>exact absurd ((b2 _).1 (i2.1 hb)) hs
  have hl:=i1.len
  rw [i4 ht,b3] at hl
  have hyes:accOK r (g.1,cs,combS g.2 cs)=true:=accOK_t (by omega) (code_valid hg hc h.sz h.wd) h.id.symm ht
  have e:acceptR r (g.1,cs,combS g.2 cs)=((r.1,r.2.1,r.2.2.1,r.2.2.2.1++[(g.1,cs,combS g.2 cs)],r.2.2.2.2),true):=by
   unfold acceptR;rw [if_pos ⟨hv,hyes⟩,accU_yes hyes]
  rw [e]
  refine ⟨⟨h.id,h.sz,h.wd,fun i hi=>?_,fun j hj=>?_,h.sn⟩,⟨fun e=>(by cases e),fun e=>absurd e hs⟩,fun _=>rfl,fun e=>(by cases e)⟩
  ·dsimp only at hi ⊢
   by_cases hil:i < r.2.2.2.1.length
   ·rw [getD_app hil];exact h.pk i hil
   ·have : i = r.2.2.2.1.length := by simp at hi; omega
    subst this
    rw [getD_end];exact ⟨hc,rfl⟩
  ·dsimp only at hj ⊢
   rw [cofs_snoc]
   by_cases hjl:j < r.2.2.2.1.length
   ·rw [insOk_app _ _ (by rw [cofs_len];exact hjl)];exact h.ind j hjl
   ·have : j = r.2.2.2.1.length := by simp at hj; omega
    subst this
    unfold LA.insOk
    rw [insTo_app _ _ _ (by rw [cofs_len];exact Nat.le_refl _)]
    rw [show (cofs r.2.2.2.1++[cs]).getD r.2.2.2.1.length []=cs from by rw [← cofs_len r.2.2.2.1];exact getD_end]
    exact ht
theorem rec_none {r:T54} (h:r.2.2.2.1.length=0) (s:Int):recodeR r s=(r,(0,[],[]),false):=by
 unfold recodeR
 split
 ·rw [← recU_y (recNo_t (Or.inl h)),← recD_y (recNo_t (Or.inl h))]
 ·rfl
theorem rec_con {g:T26} {r:T54} (hg:validG g=true) (h:RecOK g r) (hl:0 < r.2.2.2.1.length) (s:Int):∃ cs,LA.VokB g.2.length cs∧LA.Span ((cofs r.2.2.2.1).map LA.vec) (LA.vec cs)∧recodeR r s=((r.1,r.2.1,r.2.2.1,r.2.2.2.1,r.2.2.2.2+1),(g.1,cs,combS g.2 cs),true):=by
 have h1:=gen_rows hg
 have hle:=h.le
 have hsn:=h.sn
 have hw:=rndV_ok (s:=keyed s ([r.1,r.2.2.2.2])) (w:=((List.length r.2.2.2.1:Nat):Int)) (by omega)
 rw [Int.toNat_natCast] at hw
 have hcl:=cofs_len r.2.2.2.1
 have hpl:=pays_len r.2.2.2.1
 have pays_at:∀ i,i < r.2.2.2.1.length→(pays r.2.2.2.1).getD i []=(r.2.2.2.1.getD i (0,([],[]))).2.2:=fun i hi=>by
  unfold pays;rw [getD_of_lt (by simpa using hi),getD_of_lt hi,List.getElem_map]
 have hp:∀ i,i < r.2.2.2.1.length→LA.VokB g.2.length ((cofs r.2.2.2.1).getD i [])∧(pays r.2.2.2.1).getD i []=combS g.2 ((cofs r.2.2.2.1).getD i []):=fun i hi=>by
  have:=h.pk i hi
  rw [cofs_at hi,pays_at i hi]
  exact ⟨this.1,by rw [this.2]⟩
 generalize hwe:rndV (keyed s ([r.1,r.2.2.2.2])) ((List.length r.2.2.2.1:Nat):Int)=ws at hw
 obtain ⟨c1,c2,c3⟩:=comb_code h1.2.2.1 rfl hp hl hw
 have ho:=combTo_ok (n:=wid g) (vs:=g.2) (cs:=combS (cofs r.2.2.2.1) ws) rfl c1.rng g.2.length h1.2.2.1
 have hvw:validV ws=true:=validV_of hw (by omega)
 have all_cv:∀ (vs:List (List Int)) (n:Nat),n≤40→(∀ i,i < vs.length→LA.VokB n (vs.getD i []))→0 < vs.length→vs.all (cvB vs)=true:=fun vs n hn hvs h0=>List.all_eq_true.2 fun v hv=>by
  obtain ⟨i,hi,rfl⟩:=List.getElem_of_mem hv
  have a:=hvs i hi
  rw [getD_of_lt hi] at a
  unfold cvB
  rw [Bool.and_eq_true]
  exact ⟨validV_of a hn,decide_eq_true (by rw [a.1,(hvs 0 h0).1])⟩
 have e1:combV (cofs r.2.2.2.1) ws=combS (cofs r.2.2.2.1) ws:=(combV_y (by omega) (by rw [hcl,hw.1]) hvw (all_cv _ g.2.length (by omega) (fun i hi=>(hp i (by omega)).1) (by omega))).symm
 have e2:combV (pays r.2.2.2.1) ws=combS (pays r.2.2.2.1) ws:=(combV_y (by omega) (by rw [hpl,hw.1]) hvw (all_cv _ (wid g) (by omega) (fun i hi=>by
  have:=hp i (by omega)
  rw [this.2]
  exact combTo_ok rfl this.1.rng g.2.length h1.2.2.1) (by omega))).symm
 have hgen:r.2.2.2.1.all (fun p=>decide (p.1=(r.2.2.2.1.getD 0 (0,([],[]))).1))=true:=List.all_eq_true.2 fun q hq=>by
  obtain ⟨i,hi,rfl⟩:=List.getElem_of_mem hq
  have a:=h.pk i hi
  have b:=h.pk 0 hl
  rw [getD_of_lt hi] at a
  rw [a.2,b.2];exact decide_eq_true rfl
 have e3:comP r.2.2.2.1 ws=((g.1,combS (cofs r.2.2.2.1) ws,combS g.2 (combS (cofs r.2.2.2.1) ws)),true):=by
  rw [← comP_y hgen (by rw [e1,c1.1];omega) (by rw [e2,c2];have:=ho.1;unfold combS;unfold combS at this;omega),e1,e2,c2,(h.pk 0 hl).2]
 refine ⟨combS (cofs r.2.2.2.1) ws,c1,c3,?_⟩
 have hno:=recNo_f (r:=r) (by omega) (by omega)
 rw [← recodeR_y (h.valid hg),← recU_n hno,← recD_n hno,hwe,e3]
def rankD (r:T54):Int:=if validR r=true then ((List.length r.2.2.2.1:Nat):Int) else 0
def consS (x0:T26) (x1:T38):Bool:=(if (codePk x0 x1.2.1).2=true then ((Sh.eqB s38) x1 (codePk x0 x1.2.1).1) else false)
abbrev Q_spec_IsConsistent:=(fun (x0:T26) (x1:T38)=>Sh.fit s26 x0∧Sh.fit s38 x1)
def S_spec_IsConsistent:Sum:={ fid:=27,dom:=[s26,s38],cod:=[(.bool 4)],dp:=true,fz:=false,pre:=fun x=>Q_spec_IsConsistent x.1 x.2.1,g:=fun x=>((consS x.1 x.2.1),()) }
def S_spec_IsConsistent_tab:List (Nat×Sum):=[(18,S_spec_CodePacket),(56,S_spec_EqualPackets)]
theorem S_spec_IsConsistent_ok:FnOK Try.prog 27 S_spec_IsConsistent:=by
 refine at_enter 20 (fun x=>⟨[(0,aG [cI x.1.1,.ro s33 x.1.2]),(1,aG [cI x.2.1.1,.ro (.int 3) x.2.1.2.1,.ro (.int 3) x.2.1.2.2])],[]⟩) Try.func27 rfl (by kernel_rfl) (fun x=>rfl) ?_
 rintro w0 Z0 ⟨x0,x1,u⟩ a w
 revert x0 x1
 intro (x0:T26) (x1:T38) hpre hlens h
 replace hpre:Q_spec_IsConsistent x0 x1:=hpre
 have hT:TabOK Try.prog S_spec_IsConsistent_tab:=(.cons S_spec_CodePacket_ok (.cons S_spec_EqualPackets_ok .nil))
 obtain ⟨hf0,hf1⟩:=hpre
 have hn0_1:List.length x0.2≤1073741824:=hf0.2.1
 have hn1_2:List.length x1.2.1≤1073741824:=hf1.2.1.1
 have hn1_3:List.length x1.2.2≤1073741824:=hf1.2.2.1
 refine wp_seq ?_
 refine at_regq [{ ids:=[1] },{ ids:=[2] }] { ts:=[2,3,4],os:=[1,2] } [] gamOK hT h (by kernel_rfl) trivial fun a w h=>then_normal (wp_seq ?_)
 refine at_regq [{},{},{},{ ids:=[3,4] },{},{},{},{ ids:=[5] }] { ts:=[3,4,5,6],os:=[2,3,4,5] } [Q_spec_CodePacket x0 x1.2.1] gamOK hT h (by kernel_rfl) ⟨(by exact ⟨hf0,hf1.2.1⟩),trivial⟩ fun a w h=>then_normal (wp_seq ?_)
 rcases Bool.eq_false_or_eq_true ((codePk x0 x1.2.1).2) with h1 | h1
 ·refine at_regq [{ hint := some (aB true) }] { ts := [4], os := [] } [(AV.p (.c (.v (.bool ((codePk x0 x1.2.1).2)))) = AV.p (.c (.v (.bool true)))), True] gamOK hT h (by kernel_rfl) ⟨hint_bool (h1), trivial, trivial⟩ fun a w h => then_normal (wp_ret ?_)
  exact at_return (((Sh.eqB s38) x1 (codePk x0 x1.2.1).1),()) [] h (by kernel_rfl) trivial (congrArg (fun z=>(z,())) (show (((Sh.eqB s38) x1 (codePk x0 x1.2.1).1))=consS x0 x1 from by first | rfl | (unfold consS;rw [if_pos h1])))
 ·refine at_regq [{ hint := some (aB false) }] { ts := [4], os := [] } [(AV.p (.c (.v (.bool ((codePk x0 x1.2.1).2)))) = AV.p (.c (.v (.bool false))))] gamOK hT h (by kernel_rfl) ⟨hint_bool (h1), trivial⟩ fun a w h => then_normal (wp_ret ?_)
  exact at_return (false,()) [] h (by kernel_rfl) trivial (congrArg (fun z=>(z,())) (show (false)=consS x0 x1 from by first | rfl | (unfold consS;rw [if_neg (neT h1)])))

theorem pktD_form2 {x:T91} {g:T26} (h:0≤x.2.1) (hg:validG g=true):(pktD x g).2=(g.1,(pktD x g).2.2.1,combS g.2 (pktD x g).2.2.1)∧LA.VokB g.2.length (pktD x g).2.2.1:=by
 obtain ⟨h1,h2,h3,h4⟩:=pktD_ok h hg
 exact ⟨Prod.ext h2 (Prod.ext rfl h4),h3⟩
def rcdS (g:T26) (q:T91×T54):T91×T54:=if (onceC q.1 4).2=true then ((belowC (onceC q.1 4).1 90).1,(recodeR q.2 (belowC (onceC q.1 4).1 90).2).1) else ((pktD (onceC q.1 4).1 g).1,(acceptR q.2 (pktD (onceC q.1 4).1 g).2).1)
def rcdIt (x:T91) (g:T26):Nat→T91×T54
 | 0=>(x,newRec g.1 ((List.length g.2:Nat):Int) (colsOf g.2))
 | i+1=>rcdS g (rcdIt x g i)
theorem rcd_y {x:T91} {g:T26} {i:Nat} (h:(onceC (rcdIt x g i).1 4).2=true):rcdIt x g (i+1)=((belowC (onceC (rcdIt x g i).1 4).1 90).1,(recodeR (rcdIt x g i).2 (belowC (onceC (rcdIt x g i).1 4).1 90).2).1):=if_pos h
theorem rcd_n {x:T91} {g:T26} {i:Nat} (h:(onceC (rcdIt x g i).1 4).2=false):rcdIt x g (i+1)=((pktD (onceC (rcdIt x g i).1 4).1 g).1,(acceptR (rcdIt x g i).2 (pktD (onceC (rcdIt x g i).1 4).1 g).2).1):=if_neg (by rw [h];decide)
theorem rcdIt_inv {x:T91} {g:T26} (hx:0≤x.2.1) (hg:validG g=true):∀ i,i≤20→0≤(rcdIt x g i).1.2.1∧RecOK g (rcdIt x g i).2∧(rcdIt x g i).2.2.2.2.2≤(i:Int)
 | 0, _ => by
  have h0:=newRec_ok (g:=g) hg rfl rfl (gen_rows hg).2.2.2
  refine ⟨hx,h0.1,?_⟩
  show (newRec _ _ _).2.2.2.2≤_
  unfold newRec;(repeat' split)<;>(dsimp only;omega)
 | i + 1, hi => by
  obtain ⟨h1,h2,h3⟩:=rcdIt_inv hx hg i (by omega)
  have e:rcdIt x g (i+1)=rcdS g (rcdIt x g i):=rfl
  have h4:=once_ok (n:=4) h1
  rw [e];unfold rcdS
  split
  ·refine ⟨below_ok h4, ?_⟩
   rcases Nat.eq_zero_or_pos (rcdIt x g i).2.2.2.2.1.length with hl | hl
   ·rw [rec_none hl];exact ⟨h2,by dsimp only;omega⟩
   ·obtain ⟨cs, c1, c2, c3⟩ := rec_con hg h2 hl (belowC (onceC (rcdIt x g i).1 4).1 90).2
    rw [c3]
    have:=h2.sn
    exact ⟨⟨h2.id,h2.sz,h2.wd,h2.pk,h2.ind,by dsimp only;omega⟩,by dsimp only;omega⟩
  ·have hp := pktD_form2 h4 hg
   refine ⟨(pktD_ok h4 hg).1,?_⟩
   dsimp only
   rw [hp.1]
   have ha:=acc_con hg h2 hp.2
   refine ⟨ha.1,?_⟩
   cases hb:(acceptR (rcdIt x g i).2 (g.1,(pktD (onceC (rcdIt x g i).1 4).1 g).2.2.1,combS g.2 (pktD (onceC (rcdIt x g i).1 4).1 g).2.2.1)).2 with
   | true=>rw [ha.2.2.1 hb];dsimp only;omega
   | false=>rw [ha.2.2.2 hb];omega
def recDr (x0:T91) (x1:T26):T91×T54:=((rcdIt (belowC x0 6).1 x1 (belowC x0 6).2.toNat).1,(rcdIt (belowC x0 6).1 x1 (belowC x0 6).2.toNat).2)
abbrev Q_spec_l15Recoder:=(fun (x0:T91) (x1:T26)=>0≤x0.2.1∧validG x1=true)
def B_spec_l15Recoder:BS:={ t:=91,s:=s91,dom:=[s26],cod:=[s54],pre:=fun y x=>Q_spec_l15Recoder y x.1,upd:=fun y x=>(recDr y x.1).1,g:=fun y x=>((recDr y x.1).2,()) }
def S_spec_l15Recoder:Sum:=bSum 50 B_spec_l15Recoder
def S_spec_l15Recoder_tab:List (Nat×Sum):=[(62,S_spec_ColumnsOf),(75,S_spec_NewRecoder),(60,S_spec_l1Below),(76,S_spec_l1Once),(77,S_spec_Recode),(64,S_spec_l11Packet),(78,S_spec_AcceptPacket)]
theorem S_spec_l15Recoder_ok:FnOK Try.prog 50 S_spec_l15Recoder:=by
 refine at_enterB (B:=B_spec_l15Recoder) 48 (fun v y x=>⟨[(0,aP 1 0),(1,aG [cI x.1.1,.ro s33 x.1.2])],[(1,oX 91 [.ro (.u8 5) y.1,cI y.2.1,cI y.2.2]),(2,oP 1 v)]⟩) Try.func50 rfl (by kernel_rfl) (fun v y x=>rfl) ?_
 rintro w0 Z0 b0 x0 ⟨x1,u⟩ a w
 revert x0 x1
 intro (x0:T91) (x1:T26) hpre hlens0 hlens h
 replace h:At w0 Z0 [b0] 48 ⟨[(0,aP 1 0),(1,aG [cI x1.1,.ro s33 x1.2])],[(1,oX 91 [.ro (.u8 5) x0.1,cI x0.2.1,cI x0.2.2]),(2,oP 1 (Value.pointer (some ⟨b0,0,none⟩)))]⟩ a w:=h
 replace hpre:Q_spec_l15Recoder x0 x1:=hpre
 have hl1:List.length x0.1≤9223372036854775807:=hlens0.1.1
 have hu0:u8L x0.1:=hlens0.1.2
 have hl2:List.length x1.2≤9223372036854775807:=hlens.1.2.1
 have hT:TabOK Try.prog S_spec_l15Recoder_tab:=(.cons S_spec_ColumnsOf_ok (.cons S_spec_NewRecoder_ok (.cons S_spec_l1Below_ok (.cons S_spec_l1Once_ok (.cons S_spec_Recode_ok (.cons S_spec_l11Packet_ok (.cons S_spec_AcceptPacket_ok .nil)))))))
 have hb:=below_bd x0 (n:=6) (by decide)
 have hc:=below_ok (n:=6) hpre.1
 have hgf:=validG_fit hpre.2
 have hvg:=validG_t hpre.2
 refine wp_seq ?_
 refine at_regq [{ ids:=[3] },{ ids:=[4] }] { ts:=[0,3,4],os:=[1,2,3,4] } [] gamOK hT h (by kernel_rfl) trivial fun a w h=>then_normal (wp_seq ?_)
 refine at_anyq [{},{},{},{},{},{},{},{},{ ids:=[5] },{ ids:=[6] },{}] { ts:=[0,3,4,5],os:=[1,2,3,4,5,6] } [Q_spec_ColumnsOf x1.2,True] gamOK hT mixed h (by kernel_rfl) ⟨(by exact hgf.2),trivial,trivial⟩ fun a w h=>then_normal (wp_seq (wp_seq ?_))
 refine at_regq [] { ts:=[0,3,4,5,6],os:=[1,2,3,4,5,6] } [B_spec_l1Below.pre x0 (6,())] gamOK hT h (by kernel_rfl) ⟨(by exact hpre.1),trivial⟩ fun a w h=>then_normal (wp_block ?_)
 replace h:=at_out (σ':=⟨[(0,aP 1 0),(3,aP 3 0),(4,aP 4 0),(5,aP 6 0),(6,aI (belowC x0 6).2)],[(1,oX 91 [.ro (.u8 5) (belowC x0 6).1.1,cI (belowC x0 6).1.2.1,cI (belowC x0 6).1.2.2]),(2,oP 1 (Value.pointer (some ⟨b0,0,none⟩))),(3,oX 26 [cI x1.1,.ro s33 x1.2]),(4,oX 54 [cI 0,cI 0,cI 0,cN,cI 0]),(5,oR s38 (newRec x1.1 ((List.length x1.2:Nat):Int) (colsOf x1.2)).2.2.2.1),(6,oX 54 [cI (newRec x1.1 ((List.length x1.2:Nat):Int) (colsOf x1.2)).1,cI (newRec x1.1 ((List.length x1.2:Nat):Int) (colsOf x1.2)).2.1,cI (newRec x1.1 ((List.length x1.2:Nat):Int) (colsOf x1.2)).2.2.1,.sl 5,cI (newRec x1.1 ((List.length x1.2:Nat):Int) (colsOf x1.2)).2.2.2.2])]⟩) { ts:=[0,3,4,5,6],os:=[1,2,3,4,5,6] } h (by kernel_rfl)
 refine at_loop (fun i:Nat=>(⟨[(0,aP 1 0),(3,aP 3 0),(4,aP 4 0),(5,aP 6 0),(6,aI ((belowC x0 6).2 - ((i:Nat):Int)))],[(1,oX 91 [.ro (.u8 5) (rcdIt (belowC x0 6).1 x1 i).1.1,cI (rcdIt (belowC x0 6).1 x1 i).1.2.1,cI (rcdIt (belowC x0 6).1 x1 i).1.2.2]),(2,oP 1 (Value.pointer (some ⟨b0,0,none⟩))),(3,oX 26 [cI x1.1,.ro s33 x1.2]),(4,oX 54 [cI 0,cI 0,cI 0,cN,cI 0]),(5,oR s38 (rcdIt (belowC x0 6).1 x1 i).2.2.2.2.1),(6,oX 54 [cI (rcdIt (belowC x0 6).1 x1 i).2.1,cI (rcdIt (belowC x0 6).1 x1 i).2.2.1,cI (rcdIt (belowC x0 6).1 x1 i).2.2.2.1,.sl 5,cI (rcdIt (belowC x0 6).1 x1 i).2.2.2.2.2])]⟩:St)) (fun i=>((i:Nat):Int)≤(belowC x0 6).2) (fun i=>(belowC x0 6).2.toNat - i) (0) h (st_congr9 (fun (d0:List Int) (d1:Int) (d2:Int) (d3:Int) (d4:Int) (d5:Int) (d6:List T38) (d7:Int) (d8:Int)=>(⟨[(0,aP 1 0),(3,aP 3 0),(4,aP 4 0),(5,aP 6 0),(6,aI d8)],[(1,oX 91 [.ro (.u8 5) d0,cI d1,cI d2]),(2,oP 1 (Value.pointer (some ⟨b0,0,none⟩))),(3,oX 26 [cI x1.1,.ro s33 x1.2]),(4,oX 54 [cI 0,cI 0,cI 0,cN,cI 0]),(5,oR s38 d6),(6,oX 54 [cI d3,cI d4,cI d5,.sl 5,cI d7])]⟩:St)) (show ((belowC x0 6).1.1:List Int)=(rcdIt (belowC x0 6).1 x1 (0)).1.1 from by first | with_reducible rfl | (first | rfl | omega) | rfl) (show ((belowC x0 6).1.2.1:Int)=(rcdIt (belowC x0 6).1 x1 (0)).1.2.1 from by first | with_reducible rfl | (first | rfl | omega) | rfl) (show ((belowC x0 6).1.2.2:Int)=(rcdIt (belowC x0 6).1 x1 (0)).1.2.2 from by first | with_reducible rfl | (first | rfl | omega) | rfl) (show ((newRec x1.1 ((List.length x1.2:Nat):Int) (colsOf x1.2)).1:Int)=(rcdIt (belowC x0 6).1 x1 (0)).2.1 from by first | with_reducible rfl | (first | rfl | omega) | rfl) (show ((newRec x1.1 ((List.length x1.2:Nat):Int) (colsOf x1.2)).2.1:Int)=(rcdIt (belowC x0 6).1 x1 (0)).2.2.1 from by first | with_reducible rfl | (first | rfl | omega) | rfl) (show ((newRec x1.1 ((List.length x1.2:Nat):Int) (colsOf x1.2)).2.2.1:Int)=(rcdIt (belowC x0 6).1 x1 (0)).2.2.2.1 from by first | with_reducible rfl | (first | rfl | omega) | rfl) (show ((newRec x1.1 ((List.length x1.2:Nat):Int) (colsOf x1.2)).2.2.2.1:List T38)=(rcdIt (belowC x0 6).1 x1 (0)).2.2.2.2.1 from by first | with_reducible rfl | (first | rfl | omega) | rfl) (show ((newRec x1.1 ((List.length x1.2:Nat):Int) (colsOf x1.2)).2.2.2.2:Int)=(rcdIt (belowC x0 6).1 x1 (0)).2.2.2.2.2 from by first | with_reducible rfl | (first | rfl | omega) | rfl) (show ((belowC x0 6).2:Int)=((belowC x0 6).2 - (((0):Nat):Int)) from by first | with_reducible rfl | (first | rfl | omega) | rfl)) (by omega) ?_
 intro i a w hok0 h
 have hdi:=rcdIt_inv hc hpre.2 i (by omega)
 refine wp_seq (wp_seq ?_)
 refine at_regq [] { ts:=[0,3,4,5,6,24],os:=[1,2,3,4,5,6] } [] gamOK hT h (by kernel_rfl) trivial fun a w h=>then_normal ?_
 refine at_test (decide (((belowC x0 6).2 - ((i:Nat):Int)) > 0)) h (by kernel_rfl) (fun h1=>?_) (fun h1=>?_)
 ·replace h1 : ((belowC x0 6).2 - ((i : Nat) : Int)) > 0 := of_decide_eq_true h1
  refine wp_skip (then_normal (wp_seq (wp_block (wp_seq ?_))))
  refine at_regq [] { ts:=[0,3,4,5,6,28],os:=[1,2,3,4,5,6] } [B_spec_l1Once.pre (rcdIt (belowC x0 6).1 x1 i).1 (4,())] gamOK hT h (by kernel_rfl) ⟨(by exact hdi.1),trivial⟩ fun a w h=>then_normal ?_
  refine at_test ((onceC (rcdIt (belowC x0 6).1 x1 i).1 4).2) h (by kernel_rfl) (fun h2=>?_) (fun h2=>?_)
  ·refine wp_seq ?_
   refine at_anyq [{},{},{},{ ids:=[7,8,9] },{},{},{},{},{ ids:=[10] },{ ids:=[11] },{},{},{}] { ts:=[0,3,4,5,6,7],os:=[1,2,3,4,5,6,7,10] } [B_spec_l1Below.pre (onceC (rcdIt (belowC x0 6).1 x1 i).1 4).1 (90,()),Q_spec_Recode (rcdIt (belowC x0 6).1 x1 i).2 (belowC (onceC (rcdIt (belowC x0 6).1 x1 i).1 4).1 90).2] gamOK hT mixed h (by kernel_rfl) ⟨(by exact (once_ok hdi.1)),(by exact hdi.2.1.fit hpre.2),trivial⟩ fun a w h=>then_normal ?_
   refine at_regq [] { ts:=[0,3,4,5,6],os:=[1,2,3,4,6,7] } [] gamOK hT h (by kernel_rfl) trivial fun a w h=>in_normal (then_normal ?_)
   refine at_regq [{},{ nw:=true }] { ts:=[0,3,4,5,6],os:=[1,2,3,4,6,7] } [I64 (((belowC x0 6).2 - ((i:Nat):Int)) - 1)] gamOK hT h (by kernel_rfl) ⟨⟨by first | omega | (simp only [lsA];omega) | (simp<;>omega),by first | omega | (simp only [lsA];omega) | (simp<;>omega)⟩,trivial⟩ fun a w h=>?_
   replace h:=at_out (σ':=⟨[(0,aP 1 0),(3,aP 3 0),(4,aP 4 0),(5,aP 6 0),(6,aI (((belowC x0 6).2 - ((i:Nat):Int)) - 1))],[(1,oX 91 [.ro (.u8 5) (belowC (onceC (rcdIt (belowC x0 6).1 x1 i).1 4).1 90).1.1,cI (belowC (onceC (rcdIt (belowC x0 6).1 x1 i).1 4).1 90).1.2.1,cI (belowC (onceC (rcdIt (belowC x0 6).1 x1 i).1 4).1 90).1.2.2]),(2,oP 1 (Value.pointer (some ⟨b0,0,none⟩))),(3,oX 26 [cI x1.1,.ro s33 x1.2]),(4,oX 54 [cI 0,cI 0,cI 0,cN,cI 0]),(5,oR s38 (recodeR (rcdIt (belowC x0 6).1 x1 i).2 (belowC (onceC (rcdIt (belowC x0 6).1 x1 i).1 4).1 90).2).1.2.2.2.1),(6,oX 54 [cI (recodeR (rcdIt (belowC x0 6).1 x1 i).2 (belowC (onceC (rcdIt (belowC x0 6).1 x1 i).1 4).1 90).2).1.1,cI (recodeR (rcdIt (belowC x0 6).1 x1 i).2 (belowC (onceC (rcdIt (belowC x0 6).1 x1 i).1 4).1 90).2).1.2.1,cI (recodeR (rcdIt (belowC x0 6).1 x1 i).2 (belowC (onceC (rcdIt (belowC x0 6).1 x1 i).1 4).1 90).2).1.2.2.1,.sl 5,cI (recodeR (rcdIt (belowC x0 6).1 x1 i).2 (belowC (onceC (rcdIt (belowC x0 6).1 x1 i).1 4).1 90).2).1.2.2.2.2])]⟩) { ts:=[0,3,4,5,6],os:=[1,2,3,4,7,6],rn:=[(7,5)] } h (by kernel_rfl)
   exact ⟨i+1,at_eq h (st_congr9 (fun (d0:List Int) (d1:Int) (d2:Int) (d3:Int) (d4:Int) (d5:Int) (d6:List T38) (d7:Int) (d8:Int)=>(⟨[(0,aP 1 0),(3,aP 3 0),(4,aP 4 0),(5,aP 6 0),(6,aI d8)],[(1,oX 91 [.ro (.u8 5) d0,cI d1,cI d2]),(2,oP 1 (Value.pointer (some ⟨b0,0,none⟩))),(3,oX 26 [cI x1.1,.ro s33 x1.2]),(4,oX 54 [cI 0,cI 0,cI 0,cN,cI 0]),(5,oR s38 d6),(6,oX 54 [cI d3,cI d4,cI d5,.sl 5,cI d7])]⟩:St)) (show ((belowC (onceC (rcdIt (belowC x0 6).1 x1 i).1 4).1 90).1.1:List Int)=(rcdIt (belowC x0 6).1 x1 (i+1)).1.1 from by first | with_reducible rfl | (first | (rw [rcd_y (x:=(belowC x0 6).1) (g:=x1) (i:=i) (by assumption)];done) | (rw [rcd_n (x:=(belowC x0 6).1) (g:=x1) (i:=i) (by assumption)];done)) | rfl) (show ((belowC (onceC (rcdIt (belowC x0 6).1 x1 i).1 4).1 90).1.2.1:Int)=(rcdIt (belowC x0 6).1 x1 (i+1)).1.2.1 from by first | with_reducible rfl | (first | (rw [rcd_y (x:=(belowC x0 6).1) (g:=x1) (i:=i) (by assumption)];done) | (rw [rcd_n (x:=(belowC x0 6).1) (g:=x1) (i:=i) (by assumption)];done)) | rfl) (show ((belowC (onceC (rcdIt (belowC x0 6).1 x1 i).1 4).1 90).1.2.2:Int)=(rcdIt (belowC x0 6).1 x1 (i+1)).1.2.2 from by first | with_reducible rfl | (first | (rw [rcd_y (x:=(belowC x0 6).1) (g:=x1) (i:=i) (by assumption)];done) | (rw [rcd_n (x:=(belowC x0 6).1) (g:=x1) (i:=i) (by assumption)];done)) | rfl) (show ((recodeR (rcdIt (belowC x0 6).1 x1 i).2 (belowC (onceC (rcdIt (belowC x0 6).1 x1 i).1 4).1 90).2).1.1:Int)=(rcdIt (belowC x0 6).1 x1 (i+1)).2.1 from by first | with_reducible rfl | (first | (rw [rcd_y (x:=(belowC x0 6).1) (g:=x1) (i:=i) (by assumption)];done) | (rw [rcd_n (x:=(belowC x0 6).1) (g:=x1) (i:=i) (by assumption)];done)) | rfl) (show ((recodeR (rcdIt (belowC x0 6).1 x1 i).2 (belowC (onceC (rcdIt (belowC x0 6).1 x1 i).1 4).1 90).2).1.2.1:Int)=(rcdIt (belowC x0 6).1 x1 (i+1)).2.2.1 from by first | with_reducible rfl | (first | (rw [rcd_y (x:=(belowC x0 6).1) (g:=x1) (i:=i) (by assumption)];done) | (rw [rcd_n (x:=(belowC x0 6).1) (g:=x1) (i:=i) (by assumption)];done)) | rfl) (show ((recodeR (rcdIt (belowC x0 6).1 x1 i).2 (belowC (onceC (rcdIt (belowC x0 6).1 x1 i).1 4).1 90).2).1.2.2.1:Int)=(rcdIt (belowC x0 6).1 x1 (i+1)).2.2.2.1 from by first | with_reducible rfl | (first | (rw [rcd_y (x:=(belowC x0 6).1) (g:=x1) (i:=i) (by assumption)];done) | (rw [rcd_n (x:=(belowC x0 6).1) (g:=x1) (i:=i) (by assumption)];done)) | rfl) (show ((recodeR (rcdIt (belowC x0 6).1 x1 i).2 (belowC (onceC (rcdIt (belowC x0 6).1 x1 i).1 4).1 90).2).1.2.2.2.1:List T38)=(rcdIt (belowC x0 6).1 x1 (i+1)).2.2.2.2.1 from by first | with_reducible rfl | (first | (rw [rcd_y (x:=(belowC x0 6).1) (g:=x1) (i:=i) (by assumption)];done) | (rw [rcd_n (x:=(belowC x0 6).1) (g:=x1) (i:=i) (by assumption)];done)) | rfl) (show ((recodeR (rcdIt (belowC x0 6).1 x1 i).2 (belowC (onceC (rcdIt (belowC x0 6).1 x1 i).1 4).1 90).2).1.2.2.2.2:Int)=(rcdIt (belowC x0 6).1 x1 (i+1)).2.2.2.2.2 from by first | with_reducible rfl | (first | (rw [rcd_y (x:=(belowC x0 6).1) (g:=x1) (i:=i) (by assumption)];done) | (rw [rcd_n (x:=(belowC x0 6).1) (g:=x1) (i:=i) (by assumption)];done)) | rfl) (show (((belowC x0 6).2 - ((i:Nat):Int)) - 1:Int)=((belowC x0 6).2 - (((i+1):Nat):Int)) from by first | with_reducible rfl | (omega) | rfl)),(by omega),(by omega)⟩
  ·refine wp_seq ?_
   refine at_anyq [{},{},{},{ ids:=[12,13] },{ ids:=[14] },{},{},{},{ ids:=[15] },{},{}] { ts:=[0,3,4,5,6,10],os:=[1,2,3,4,5,6,14,15] } [B_spec_l11Packet.pre (onceC (rcdIt (belowC x0 6).1 x1 i).1 4).1 (x1,()),Q_spec_AcceptPacket (rcdIt (belowC x0 6).1 x1 i).2 (pktD (onceC (rcdIt (belowC x0 6).1 x1 i).1 4).1 x1).2] gamOK hT mixed h (by kernel_rfl) ⟨(by exact ⟨(once_ok hdi.1),hpre.2⟩),(by exact ⟨hdi.2.1.fit hpre.2,pktD_fit (once_ok (n:=4) hdi.1) hpre.2,by have:=hdi.2.1.le;omega⟩),trivial⟩ fun a w h=>then_normal ?_
   refine at_regq [] { ts:=[0,3,4,5,6],os:=[1,2,3,4,6,14] } [] gamOK hT h (by kernel_rfl) trivial fun a w h=>in_normal (then_normal ?_)
   refine at_regq [{},{ nw:=true }] { ts:=[0,3,4,5,6],os:=[1,2,3,4,6,14] } [I64 (((belowC x0 6).2 - ((i:Nat):Int)) - 1)] gamOK hT h (by kernel_rfl) ⟨⟨by first | omega | (simp only [lsA];omega) | (simp<;>omega),by first | omega | (simp only [lsA];omega) | (simp<;>omega)⟩,trivial⟩ fun a w h=>?_
   replace h:=at_out (σ':=⟨[(0,aP 1 0),(3,aP 3 0),(4,aP 4 0),(5,aP 6 0),(6,aI (((belowC x0 6).2 - ((i:Nat):Int)) - 1))],[(1,oX 91 [.ro (.u8 5) (pktD (onceC (rcdIt (belowC x0 6).1 x1 i).1 4).1 x1).1.1,cI (pktD (onceC (rcdIt (belowC x0 6).1 x1 i).1 4).1 x1).1.2.1,cI (pktD (onceC (rcdIt (belowC x0 6).1 x1 i).1 4).1 x1).1.2.2]),(2,oP 1 (Value.pointer (some ⟨b0,0,none⟩))),(3,oX 26 [cI x1.1,.ro s33 x1.2]),(4,oX 54 [cI 0,cI 0,cI 0,cN,cI 0]),(5,oR s38 (acceptR (rcdIt (belowC x0 6).1 x1 i).2 (pktD (onceC (rcdIt (belowC x0 6).1 x1 i).1 4).1 x1).2).1.2.2.2.1),(6,oX 54 [cI (acceptR (rcdIt (belowC x0 6).1 x1 i).2 (pktD (onceC (rcdIt (belowC x0 6).1 x1 i).1 4).1 x1).2).1.1,cI (acceptR (rcdIt (belowC x0 6).1 x1 i).2 (pktD (onceC (rcdIt (belowC x0 6).1 x1 i).1 4).1 x1).2).1.2.1,cI (acceptR (rcdIt (belowC x0 6).1 x1 i).2 (pktD (onceC (rcdIt (belowC x0 6).1 x1 i).1 4).1 x1).2).1.2.2.1,.sl 5,cI (acceptR (rcdIt (belowC x0 6).1 x1 i).2 (pktD (onceC (rcdIt (belowC x0 6).1 x1 i).1 4).1 x1).2).1.2.2.2.2])]⟩) { ts:=[0,3,4,5,6],os:=[1,2,3,4,14,6],rn:=[(14,5)] } h (by kernel_rfl)
   exact ⟨i+1,at_eq h (st_congr9 (fun (d0:List Int) (d1:Int) (d2:Int) (d3:Int) (d4:Int) (d5:Int) (d6:List T38) (d7:Int) (d8:Int)=>(⟨[(0,aP 1 0),(3,aP 3 0),(4,aP 4 0),(5,aP 6 0),(6,aI d8)],[(1,oX 91 [.ro (.u8 5) d0,cI d1,cI d2]),(2,oP 1 (Value.pointer (some ⟨b0,0,none⟩))),(3,oX 26 [cI x1.1,.ro s33 x1.2]),(4,oX 54 [cI 0,cI 0,cI 0,cN,cI 0]),(5,oR s38 d6),(6,oX 54 [cI d3,cI d4,cI d5,.sl 5,cI d7])]⟩:St)) (show ((pktD (onceC (rcdIt (belowC x0 6).1 x1 i).1 4).1 x1).1.1:List Int)=(rcdIt (belowC x0 6).1 x1 (i+1)).1.1 from by first | with_reducible rfl | (first | (rw [rcd_y (x:=(belowC x0 6).1) (g:=x1) (i:=i) (by assumption)];done) | (rw [rcd_n (x:=(belowC x0 6).1) (g:=x1) (i:=i) (by assumption)];done)) | rfl) (show ((pktD (onceC (rcdIt (belowC x0 6).1 x1 i).1 4).1 x1).1.2.1:Int)=(rcdIt (belowC x0 6).1 x1 (i+1)).1.2.1 from by first | with_reducible rfl | (first | (rw [rcd_y (x:=(belowC x0 6).1) (g:=x1) (i:=i) (by assumption)];done) | (rw [rcd_n (x:=(belowC x0 6).1) (g:=x1) (i:=i) (by assumption)];done)) | rfl) (show ((pktD (onceC (rcdIt (belowC x0 6).1 x1 i).1 4).1 x1).1.2.2:Int)=(rcdIt (belowC x0 6).1 x1 (i+1)).1.2.2 from by first | with_reducible rfl | (first | (rw [rcd_y (x:=(belowC x0 6).1) (g:=x1) (i:=i) (by assumption)];done) | (rw [rcd_n (x:=(belowC x0 6).1) (g:=x1) (i:=i) (by assumption)];done)) | rfl) (show ((acceptR (rcdIt (belowC x0 6).1 x1 i).2 (pktD (onceC (rcdIt (belowC x0 6).1 x1 i).1 4).1 x1).2).1.1:Int)=(rcdIt (belowC x0 6).1 x1 (i+1)).2.1 from by first | with_reducible rfl | (first | (rw [rcd_y (x:=(belowC x0 6).1) (g:=x1) (i:=i) (by assumption)];done) | (rw [rcd_n (x:=(belowC x0 6).1) (g:=x1) (i:=i) (by assumption)];done)) | rfl) (show ((acceptR (rcdIt (belowC x0 6).1 x1 i).2 (pktD (onceC (rcdIt (belowC x0 6).1 x1 i).1 4).1 x1).2).1.2.1:Int)=(rcdIt (belowC x0 6).1 x1 (i+1)).2.2.1 from by first | with_reducible rfl | (first | (rw [rcd_y (x:=(belowC x0 6).1) (g:=x1) (i:=i) (by assumption)];done) | (rw [rcd_n (x:=(belowC x0 6).1) (g:=x1) (i:=i) (by assumption)];done)) | rfl) (show ((acceptR (rcdIt (belowC x0 6).1 x1 i).2 (pktD (onceC (rcdIt (belowC x0 6).1 x1 i).1 4).1 x1).2).1.2.2.1:Int)=(rcdIt (belowC x0 6).1 x1 (i+1)).2.2.2.1 from by first | with_reducible rfl | (first | (rw [rcd_y (x:=(belowC x0 6).1) (g:=x1) (i:=i) (by assumption)];done) | (rw [rcd_n (x:=(belowC x0 6).1) (g:=x1) (i:=i) (by assumption)];done)) | rfl) (show ((acceptR (rcdIt (belowC x0 6).1 x1 i).2 (pktD (onceC (rcdIt (belowC x0 6).1 x1 i).1 4).1 x1).2).1.2.2.2.1:List T38)=(rcdIt (belowC x0 6).1 x1 (i+1)).2.2.2.2.1 from by first | with_reducible rfl | (first | (rw [rcd_y (x:=(belowC x0 6).1) (g:=x1) (i:=i) (by assumption)];done) | (rw [rcd_n (x:=(belowC x0 6).1) (g:=x1) (i:=i) (by assumption)];done)) | rfl) (show ((acceptR (rcdIt (belowC x0 6).1 x1 i).2 (pktD (onceC (rcdIt (belowC x0 6).1 x1 i).1 4).1 x1).2).1.2.2.2.2:Int)=(rcdIt (belowC x0 6).1 x1 (i+1)).2.2.2.2.2 from by first | with_reducible rfl | (first | (rw [rcd_y (x:=(belowC x0 6).1) (g:=x1) (i:=i) (by assumption)];done) | (rw [rcd_n (x:=(belowC x0 6).1) (g:=x1) (i:=i) (by assumption)];done)) | rfl) (show (((belowC x0 6).2 - ((i:Nat):Int)) - 1:Int)=((belowC x0 6).2 - (((i+1):Nat):Int)) from by first | with_reducible rfl | (omega) | rfl)),(by omega),(by omega)⟩
 ·replace h1 : ¬ (((belowC x0 6).2 - ((i : Nat) : Int)) > 0) := of_decide_eq_false h1
  refine wp_exit (then_exit ?_)
  replace h:=at_out (σ':=⟨[(4,aP 4 0),(5,aP 6 0)],[(1,oX 91 [.ro (.u8 5) (rcdIt (belowC x0 6).1 x1 i).1.1,cI (rcdIt (belowC x0 6).1 x1 i).1.2.1,cI (rcdIt (belowC x0 6).1 x1 i).1.2.2]),(2,oP 1 (Value.pointer (some ⟨b0,0,none⟩))),(4,oX 54 [cI 0,cI 0,cI 0,cN,cI 0]),(5,oR s38 (rcdIt (belowC x0 6).1 x1 i).2.2.2.2.1),(6,oX 54 [cI (rcdIt (belowC x0 6).1 x1 i).2.1,cI (rcdIt (belowC x0 6).1 x1 i).2.2.1,cI (rcdIt (belowC x0 6).1 x1 i).2.2.2.1,.sl 5,cI (rcdIt (belowC x0 6).1 x1 i).2.2.2.2.2])]⟩) { ts:=[4,5],os:=[1,2,4,5,6] } h (by kernel_rfl)
  replace h:=at_eq (σ':=⟨[(4,aP 4 0),(5,aP 6 0)],[(1,oX 91 [.ro (.u8 5) (rcdIt (belowC x0 6).1 x1 (belowC x0 6).2.toNat).1.1,cI (rcdIt (belowC x0 6).1 x1 (belowC x0 6).2.toNat).1.2.1,cI (rcdIt (belowC x0 6).1 x1 (belowC x0 6).2.toNat).1.2.2]),(2,oP 1 (Value.pointer (some ⟨b0,0,none⟩))),(4,oX 54 [cI 0,cI 0,cI 0,cN,cI 0]),(5,oR s38 (rcdIt (belowC x0 6).1 x1 (belowC x0 6).2.toNat).2.2.2.2.1),(6,oX 54 [cI (rcdIt (belowC x0 6).1 x1 (belowC x0 6).2.toNat).2.1,cI (rcdIt (belowC x0 6).1 x1 (belowC x0 6).2.toNat).2.2.1,cI (rcdIt (belowC x0 6).1 x1 (belowC x0 6).2.toNat).2.2.2.1,.sl 5,cI (rcdIt (belowC x0 6).1 x1 (belowC x0 6).2.toNat).2.2.2.2.2])]⟩) h (st_congr8 (fun (d0:List Int) (d1:Int) (d2:Int) (d3:Int) (d4:Int) (d5:Int) (d6:List T38) (d7:Int)=>(⟨[(4,aP 4 0),(5,aP 6 0)],[(1,oX 91 [.ro (.u8 5) d0,cI d1,cI d2]),(2,oP 1 (Value.pointer (some ⟨b0,0,none⟩))),(4,oX 54 [cI 0,cI 0,cI 0,cN,cI 0]),(5,oR s38 d6),(6,oX 54 [cI d3,cI d4,cI d5,.sl 5,cI d7])]⟩:St)) (show ((rcdIt (belowC x0 6).1 x1 i).1.1:List Int)=(rcdIt (belowC x0 6).1 x1 (belowC x0 6).2.toNat).1.1 from by first | with_reducible rfl | (rw [show (belowC x0 6).2.toNat=i by omega]) | rfl) (show ((rcdIt (belowC x0 6).1 x1 i).1.2.1:Int)=(rcdIt (belowC x0 6).1 x1 (belowC x0 6).2.toNat).1.2.1 from by first | with_reducible rfl | (rw [show (belowC x0 6).2.toNat=i by omega]) | rfl) (show ((rcdIt (belowC x0 6).1 x1 i).1.2.2:Int)=(rcdIt (belowC x0 6).1 x1 (belowC x0 6).2.toNat).1.2.2 from by first | with_reducible rfl | (rw [show (belowC x0 6).2.toNat=i by omega]) | rfl) (show ((rcdIt (belowC x0 6).1 x1 i).2.1:Int)=(rcdIt (belowC x0 6).1 x1 (belowC x0 6).2.toNat).2.1 from by first | with_reducible rfl | (rw [show (belowC x0 6).2.toNat=i by omega]) | rfl) (show ((rcdIt (belowC x0 6).1 x1 i).2.2.1:Int)=(rcdIt (belowC x0 6).1 x1 (belowC x0 6).2.toNat).2.2.1 from by first | with_reducible rfl | (rw [show (belowC x0 6).2.toNat=i by omega]) | rfl) (show ((rcdIt (belowC x0 6).1 x1 i).2.2.2.1:Int)=(rcdIt (belowC x0 6).1 x1 (belowC x0 6).2.toNat).2.2.2.1 from by first | with_reducible rfl | (rw [show (belowC x0 6).2.toNat=i by omega]) | rfl) (show ((rcdIt (belowC x0 6).1 x1 i).2.2.2.2.1:List T38)=(rcdIt (belowC x0 6).1 x1 (belowC x0 6).2.toNat).2.2.2.2.1 from by first | with_reducible rfl | (rw [show (belowC x0 6).2.toNat=i by omega]) | rfl) (show ((rcdIt (belowC x0 6).1 x1 i).2.2.2.2.2:Int)=(rcdIt (belowC x0 6).1 x1 (belowC x0 6).2.toNat).2.2.2.2.2 from by first | with_reducible rfl | (rw [show (belowC x0 6).2.toNat=i by omega]) | rfl))
  refine then_exit (in_hit (then_normal (wp_seq ?_)))
  refine at_regq [] { ts:=[4],os:=[1,2,4,5] } [] gamOK hT h (by kernel_rfl) trivial fun a w h=>then_normal (wp_ret ?_)
  have hr3:(((rcdIt (belowC x0 6).1 x1 (belowC x0 6).2.toNat).1,(rcdIt (belowC x0 6).1 x1 (belowC x0 6).2.toNat).2):T91×T54)=recDr x0 x1:=by rfl
  exact at_returnB (B:=B_spec_l15Recoder) (c0:=x0) (x:=(x1,())) ((rcdIt (belowC x0 6).1 x1 (belowC x0 6).2.toNat).1) ((rcdIt (belowC x0 6).1 x1 (belowC x0 6).2.toNat).2,()) [(Value.pointer (some ⟨b0,0,none⟩))=(Value.pointer (some ⟨b0,0,none⟩))] h (by kernel_rfl) ⟨rfl,trivial⟩ (congrArg (a₁:=((rcdIt (belowC x0 6).1 x1 (belowC x0 6).2.toNat).1,(rcdIt (belowC x0 6).1 x1 (belowC x0 6).2.toNat).2)) (a₂:=recDr x0 x1) (fun (z:T91×T54)=>z.1) hr3) (congrArg (a₁:=((rcdIt (belowC x0 6).1 x1 (belowC x0 6).2.toNat).1,(rcdIt (belowC x0 6).1 x1 (belowC x0 6).2.toNat).2)) (a₂:=recDr x0 x1) (fun (z:T91×T54)=>(z.2,())) hr3)
theorem recDr_ok {x:T91} {g:T26} (h:0≤x.2.1) (hg:validG g=true):0≤(recDr x g).1.2.1∧RecOK g (recDr x g).2∧(recDr x g).2.2.2.2.2≤20:=by
 have hb:=below_bd x (n:=6) (by decide)
 have:=rcdIt_inv (below_ok (n:=6) h) hg (belowC x 6).2.toNat (by omega)
 exact ⟨this.1,this.2.1,by have:=this.2.2;have e:(recDr x g).2.2.2.2.2≤(((belowC x 6).2.toNat:Nat):Int):=this;omega⟩

def drawRl (x0:(List Int)):T26×T54:=((genD (newC x0)).2,(recDr (genD (newC x0)).1 (genD (newC x0)).2).2)
abbrev Q_spec_DrawRelay:=(fun (x0:(List Int))=>Sh.fit s22 x0)
def S_spec_DrawRelay:Sum:={ fid:=22,dom:=[s22],cod:=[s26,s54],dp:=false,fz:=true,pre:=fun x=>Q_spec_DrawRelay x.1,g:=fun x=>((drawRl x.1).1,((drawRl x.1).2,())) }
def S_spec_DrawRelay_tab:List (Nat×Sum):=[(30,S_spec_l1New),(31,S_spec_l10Gen),(50,S_spec_l15Recoder)]
theorem S_spec_DrawRelay_ok:FnOK Try.prog 22 S_spec_DrawRelay:=by
 refine at_enter 14 (fun x=>⟨[(0,aF (.u8 5) x.1)],[]⟩) Try.func22 rfl (by kernel_rfl) (fun x=>rfl) ?_
 rintro w0 Z0 ⟨x0,u⟩ a w
 revert x0
 intro (x0:(List Int)) hpre hlens h
 replace hpre:Q_spec_DrawRelay x0:=hpre
 have hu0:u8L x0:=hlens.1.2
 have hT:TabOK Try.prog S_spec_DrawRelay_tab:=(.cons S_spec_l1New_ok (.cons S_spec_l10Gen_ok (.cons S_spec_l15Recoder_ok .nil)))
 have hf0:Sh.fit s22 x0:=hpre
 have hn0_1:List.length x0≤1073741824:=hf0.1
 have hgo:=genD_ok (x:=newC x0) (Int.le_refl 0)
 refine wp_seq ?_
 refine at_regq [{ ids:=[1] },{ ids:=[2] }] { ts:=[0,2,3],os:=[1,2] } [] gamOK hT h (by kernel_rfl) trivial fun a w h=>then_normal (wp_seq ?_)
 refine at_regq [{},{ ids:=[3] }] { ts:=[2,3,4],os:=[1,2,3] } [B_spec_l1New.pre (x0,())] gamOK hT h (by kernel_rfl) ⟨(by exact hf0),trivial⟩ fun a w h=>then_normal (wp_seq ?_)
 refine at_regq [{},{ ids:=[4] },{ ids:=[5] }] { ts:=[2,3,4,5],os:=[1,2,3,4,5] } [B_spec_l10Gen.pre (newC x0) (())] gamOK hT h (by kernel_rfl) ⟨(by exact Int.le_refl 0),trivial⟩ fun a w h=>then_normal (wp_seq ?_)
 replace h:=at_out (σ':=⟨[(2,aP 1 0),(3,aP 2 0),(4,aP 3 0),(5,aP 5 0)],[(1,oX 26 [cI 0,cN]),(2,oX 54 [cI 0,cI 0,cI 0,cN,cI 0]),(3,oX 91 [.ro (.u8 5) (genD (newC x0)).1.1,cI (genD (newC x0)).1.2.1,cI (genD (newC x0)).1.2.2]),(5,oX 26 [cI (genD (newC x0)).2.1,.ro s33 (genD (newC x0)).2.2])]⟩) { fz:=[4],ts:=[2,3,4,5],os:=[1,2,3,5] } h (by kernel_rfl)
 refine at_anyq [{},{},{},{ ids:=[6] },{},{}] { ts:=[2,3],os:=[1,2,6] } [B_spec_l15Recoder.pre (genD (newC x0)).1 ((genD (newC x0)).2,())] gamOK hT mixed h (by kernel_rfl) ⟨(by exact ⟨hgo.1,hgo.2.1⟩),trivial⟩ fun a w h=>then_normal (wp_ret ?_)
 exact at_return ((genD (newC x0)).2,((recDr (genD (newC x0)).1 (genD (newC x0)).2).2,())) [] h (by kernel_rfl) trivial (congrArg (fun z=>(z.1,z.2,())) (show (((genD (newC x0)).2,(recDr (genD (newC x0)).1 (genD (newC x0)).2).2))=drawRl x0 from by rfl))
theorem drawRl_ok (x:List Int):validG (drawRl x).1=true∧((0≤(drawRl x).1.1∧(drawRl x).1.1≤4)∧(1≤List.length (drawRl x).1.2∧List.length (drawRl x).1.2≤4))∧Sh.fit s26 (drawRl x).1∧RecOK (drawRl x).1 (drawRl x).2∧(drawRl x).2.2.2.2.2≤20:=by
 have hgo:=genD_ok (x:=newC x) (Int.le_refl 0)
 have hv:=validG_t hgo.2.1
 exact ⟨hgo.2.1,⟨⟨hv.1.1,hgo.2.2.1⟩,hv.2.1.1,hgo.2.2.2.1⟩,validG_fit hgo.2.1,(recDr_ok hgo.1 hgo.2.1).2⟩

abbrev Q_impl_RecoderRank:=(fun (x0:T54)=>Sh.fit s54 x0)
def S_impl_RecoderRank:Sum:={ fid:=24,dom:=[s54],cod:=[(.int 3)],dp:=true,fz:=false,pre:=fun x=>Q_impl_RecoderRank x.1,g:=fun x=>((rankD x.1),()) }
def S_impl_RecoderRank_tab:List (Nat×Sum):=[(23,S_impl_IsValidRecoder)]
theorem S_impl_RecoderRank_ok:FnOK Try.prog 24 S_impl_RecoderRank:=by
 refine at_enter 9 (fun x=>⟨[(0,aG [cI x.1.1,cI x.1.2.1,cI x.1.2.2.1,.ro s38 x.1.2.2.2.1,cI x.1.2.2.2.2])],[]⟩) Try.func24 rfl (by kernel_rfl) (fun x=>rfl) ?_
 rintro w0 Z0 ⟨x0,u⟩ a w
 revert x0
 intro (x0:T54) hpre hlens h
 replace hpre:Q_impl_RecoderRank x0:=hpre
 have hT:TabOK Try.prog S_impl_RecoderRank_tab:=(.cons S_impl_IsValidRecoder_ok .nil)
 have hf0:Sh.fit s54 x0:=hpre
 have hn0_1:List.length x0.2.2.2.1≤1073741824:=hf0.2.2.2.1.1
 refine wp_seq ?_
 refine at_regq [{ ids:=[1] }] { ts:=[1,2],os:=[1] } [] gamOK hT h (by kernel_rfl) trivial fun a w h=>then_normal (wp_seq (wp_seq ?_))
 refine at_regq [] { ts:=[1,2,5],os:=[1] } [Q_impl_IsValidRecoder x0] gamOK hT h (by kernel_rfl) ⟨(by exact hf0),trivial⟩ fun a w h=>then_normal ?_
 refine at_test (!(validR x0)) h (by kernel_rfl) (fun h1=>?_) (fun h1=>?_)
 ·replace h1 : (validR x0) = false := notT h1
  refine wp_seq ?_
  refine at_regq [] { ts:=[1,2],os:=[1] } [] gamOK hT h (by kernel_rfl) trivial fun a w h=>then_normal (wp_ret (then_ret ?_))
  exact at_return (0,()) [] h (by kernel_rfl) trivial (congrArg (fun z=>(z,())) (show (0)=rankD x0 from by (unfold rankD;first | (rw [if_pos (by assumption)];done) | (rw [if_neg (by simp_all)];done))))
 ·replace h1 : (validR x0) = true := notF h1
  have hvh1:=validR_t h1
  refine wp_skip (then_normal (wp_seq ?_))
  refine at_regq [] { ts:=[2],os:=[] } [] gamOK hT h (by kernel_rfl) trivial fun a w h=>then_normal (wp_ret ?_)
  exact at_return (((List.length x0.2.2.2.1:Nat):Int),()) [] h (by kernel_rfl) trivial (congrArg (fun z=>(z,())) (show (((List.length x0.2.2.2.1:Nat):Int))=rankD x0 from by (unfold rankD;first | (rw [if_pos (by assumption)];done) | (rw [if_neg (by simp_all)];done))))

theorem st_congr11 {α0 α1 α2 α3 α4 α5 α6 α7 α8 α9 α10:Type} (F:α0→α1→α2→α3→α4→α5→α6→α7→α8→α9→α10→St) {a0 b0:α0} (h0:a0=b0) {a1 b1:α1} (h1:a1=b1) {a2 b2:α2} (h2:a2=b2) {a3 b3:α3} (h3:a3=b3) {a4 b4:α4} (h4:a4=b4) {a5 b5:α5} (h5:a5=b5) {a6 b6:α6} (h6:a6=b6) {a7 b7:α7} (h7:a7=b7) {a8 b8:α8} (h8:a8=b8) {a9 b9:α9} (h9:a9=b9) {a10 b10:α10} (h10:a10=b10):F a0 a1 a2 a3 a4 a5 a6 a7 a8 a9 a10=F b0 b1 b2 b3 b4 b5 b6 b7 b8 b9 b10:=by subst h0;subst h1;subst h2;subst h3;subst h4;subst h5;subst h6;subst h7;subst h8;subst h9;subst h10;rfl
theorem code_fit3 {g:T26} {cs:List Int} (hg:validG g=true) (hc:LA.VokB g.2.length cs):Sh.fit s38 (g.1,cs,combS g.2 cs):=by
 have h1:=gen_rows hg
 have hr:=(code_row hg hc).1.1
 rw [List.length_append,hc.1] at hr
 exact ⟨trivial,Sh.fit_len rfl (show cs.length≤_ by have:=hc.1;omega),Sh.fit_len rfl (show (combS g.2 cs).length≤_ by omega)⟩
def rS (r0:T54) (i:Nat):T54:=(r0.1,r0.2.1,r0.2.2.1,r0.2.2.2.1,r0.2.2.2.2+(i:Int))
theorem rS_ok {g:T26} {r0:T54} (h:RecOK g r0) (hs:r0.2.2.2.2≤20) {i:Nat} (hi:i≤100):RecOK g (rS r0 i):=by
 have:=h.sn
 exact ⟨h.id,h.sz,h.wd,h.pk,h.ind,by show 0≤r0.2.2.2.2+(i:Int)∧r0.2.2.2.2+(i:Int)≤1000000;omega⟩
def ntS (x:List Int) (r0:T54):Nat→T54
 | 0=>newRec r0.1 r0.2.1 r0.2.2.1
 | i+1=>(acceptR (ntS x r0 i) (recodeR (rS r0 i) (atF x (i:Int))).2.1).1
theorem ntS_inv (x:List Int) {g:T26} {r0:T54} (hg:validG g=true) (h:RecOK g r0) (hs:r0.2.2.2.2≤20):∀ i,i≤100→(i=0∨0 < r0.2.2.2.1.length)→RecOK g (ntS x r0 i)∧∀ v∈cofs (ntS x r0 i).2.2.2.1,LA.Span ((cofs r0.2.2.2.1).map LA.vec) (LA.vec v)
 | 0, _, _ => by
  have h0:=newRec_ok hg h.id h.sz h.wd
  refine ⟨h0.1,fun v hv=>?_⟩
  rw [show (ntS x r0 0).2.2.2.1=[] from h0.2] at hv
  exact absurd hv (by simp [cofs])
 | i + 1, hi, hl => by
  have hl:0 < r0.2.2.2.1.length:=by omega
  obtain ⟨h1,h2⟩:=ntS_inv x hg h hs i (by omega) (Or.inr hl)
  obtain ⟨cs,c1,c2,c3⟩:=rec_con hg (rS_ok h hs (i:=i) (by omega)) hl (atF x (i:Int))
  obtain ⟨a1,a2,a3,a4⟩:=acc_con hg h1 c1
  show RecOK g (acceptR (ntS x r0 i) (recodeR (rS r0 i) (atF x (i:Int))).2.1).1∧∀ v∈cofs (acceptR (ntS x r0 i) (recodeR (rS r0 i) (atF x (i:Int))).2.1).1.2.2.2.1,_
  rw [c3]
  refine ⟨a1,fun v hv=>?_⟩
  dsimp only at hv
  cases hb:(acceptR (ntS x r0 i) (g.1,cs,combS g.2 cs)).2 with
  | true =>
   rw [a3 hb] at hv
   dsimp only at hv
   rw [cofs_snoc] at hv
   rcases List.mem_append.1 hv with hv | hv
   ·exact h2 v hv
   ·rw [List.mem_singleton.1 hv];exact c2
  | false=>rw [a4 hb] at hv;exact h2 v hv
theorem rank_at {g:T26} {r:T54} (hg:validG g=true) (h:RecOK g r):rankD r=((List.length r.2.2.2.1:Nat):Int):=if_pos (h.valid hg)
theorem law_rec0 {x:List Int} {g:T26} {r0:T54} {i:Nat} {X:T54×T38×Bool} (hg:validG g=true) (h:RecOK g r0) (hs:r0.2.2.2.2≤20) (hi:i≤99) (hin:i=0∨0 < r0.2.2.2.1.length) (hX:X=recodeR (rS r0 i) (atF x (i:Int))) :
  X.2.2=decide (((List.length (rS r0 i).2.2.2.1:Nat):Int) > 0)∧(X.2.2=true→consS g X.2.1=true∧X.1=rS r0 (i+1)∧X.1.2.2.2.2=(rS r0 i).2.2.2.2+1)∧(X.2.2=false→X.1=rS r0 i)∧Sh.fit s38 X.2.1∧Sh.fit s54 (rS r0 i)∧Sh.fit s54 (ntS x r0 i)∧(0≤rankD (ntS x r0 i)∧rankD (ntS x r0 i)≤8)∧(0≤(rS r0 i).2.2.2.2∧(rS r0 i).2.2.2.2≤1000000):=by
 have h1:=gen_rows hg
 have hr:=rS_ok h hs (i:=i) (by omega)
 have hn:=(ntS_inv x hg h hs i (by omega) hin).1
 have hk:=rank_at hg hn
 have hle:=hn.le
 rcases Nat.eq_zero_or_pos r0.2.2.2.1.length with hl | hl
 ·rw [rec_none (r := rS r0 i) hl] at hX
  subst hX
  exact ⟨(decide_eq_false (show ¬ (((List.length r0.2.2.2.1:Nat):Int) > 0) by omega)).symm,fun e=>(by cases e),fun _=>rfl,⟨trivial,Sh.fit_nil,Sh.fit_nil⟩,hr.fit hg,hn.fit hg,by omega,hr.sn⟩
 ·obtain ⟨cs, c1, c2, c3⟩ := rec_con hg hr hl (atF x (i : Int))
  rw [c3] at hX
  subst hX
  refine ⟨(decide_eq_true (show ((List.length r0.2.2.2.1:Nat):Int) > 0 by omega)).symm,fun _=>⟨?_,?_,rfl⟩,fun e=>(by cases e),code_fit3 hg c1,hr.fit hg,hn.fit hg,by omega,hr.sn⟩
  ·unfold consS
   have e:codePk g cs=_:=codePk_ok hg c1
   simp only [e]
   first | rfl | (simp [Sh.eqB_self])
  ·show (r0.1, r0.2.1, r0.2.2.1, r0.2.2.2.1, r0.2.2.2.2 + (i : Int) + 1) = _
   unfold rS
   rw [show (((i+1:Nat)):Int)=(i:Int)+1 by omega,Int.add_assoc]
theorem law_rec1 {x:List Int} {g:T26} {r0:T54} {i:Nat} {X:T54×T38×Bool} (hg:validG g=true) (h:RecOK g r0) (hs:r0.2.2.2.2≤20) (hi:i≤99) (hin:i=0∨0 < r0.2.2.2.1.length) (hX:X=recodeR (rS r0 i) (atF x (i:Int))) (ht:X.2.2=true) :
  0 < r0.2.2.2.1.length∧(acceptR (ntS x r0 i) X.2.1).2=decide (rankD (acceptR (ntS x r0 i) X.2.1).1=rankD (ntS x r0 i)+1)∧(acceptR (acceptR (ntS x r0 i) X.2.1).1 X.2.1).2=false∧Sh.fit s54 (acceptR (ntS x r0 i) X.2.1).1∧List.length (acceptR (ntS x r0 i) X.2.1).1.2.2.2.1≤8:=by
 have h1:=gen_rows hg
 have hr:=rS_ok h hs (i:=i) (by omega)
 have hn:=(ntS_inv x hg h hs i (by omega) hin).1
 have hk:=rank_at hg hn
 rcases Nat.eq_zero_or_pos r0.2.2.2.1.length with hl | hl
 ·rw [rec_none (r := rS r0 i) hl] at hX
  rw [hX] at ht;cases ht
 ·obtain ⟨cs, c1, c2, c3⟩ := rec_con hg hr hl (atF x (i : Int))
  rw [c3] at hX
  subst hX
  obtain ⟨a1,a2,a3,a4⟩:=acc_con hg hn c1
  have hk2:=rank_at hg a1
  have hle:=a1.le
  have hsp:LA.Span ((cofs (acceptR (ntS x r0 i) (g.1,cs,combS g.2 cs)).1.2.2.2.1).map LA.vec) (LA.vec cs):=by
   cases hb:(acceptR (ntS x r0 i) (g.1,cs,combS g.2 cs)).2 with
   | true=>rw [a3 hb];dsimp only;rw [cofs_snoc,List.map_append];exact LA.Span.mem (by simp)
   | false=>rw [a4 hb];exact a2.1 hb
  refine ⟨hl,?_,(acc_con hg a1 c1).2.1.2 hsp,a1.fit hg,(show (acceptR (ntS x r0 i) (g.1,cs,combS g.2 cs)).1.2.2.2.1.length≤8 by omega)⟩
  dsimp only
  rw [hk,hk2]
  cases hb:(acceptR (ntS x r0 i) (g.1,cs,combS g.2 cs)).2 with
  | true=>rw [a3 hb];exact (decide_eq_true (by dsimp only;rw [List.length_append];simp)).symm
  | false=>rw [a4 hb];exact (decide_eq_false (by omega)).symm
theorem law_rec_end {x:List Int} {g:T26} {r0:T54} {i:Nat} (hg:validG g=true) (h:RecOK g r0) (hs:r0.2.2.2.2≤20) (hi:i≤99) (hin:i=0∨0 < r0.2.2.2.1.length):rankD (ntS x r0 i)≤rankD (rS r0 i)∧Sh.fit s54 (rS r0 i)∧Sh.fit s54 (ntS x r0 i):=by
 have hr:=rS_ok h hs (i:=i) (by omega)
 obtain ⟨hn,hsp⟩:=ntS_inv x hg h hs i (by omega) hin
 rw [rank_at hg hn,rank_at hg hr]
 refine ⟨?_,hr.fit hg,hn.fit hg⟩
 have e:(rS r0 i).2.2.2.1=r0.2.2.2.1:=rfl
 rw [e]
 have:=red_le hn.base.1 h.base.1 (fun y hy=>by
  rw [hn.base.2.1] at hy
  rw [h.base.2.1]
  refine LA.Span.of_mem (fun z hz=>?_) hy
  obtain ⟨v,hv,rfl⟩:=List.mem_map.1 hz
  exact hsp v hv)
 rw [hn.base.2.2,h.base.2.2] at this
 omega
def D_laws_FnRecoding:=(fun (_:List Int)=>true)
abbrev Q_laws_FnRecoding:=(fun (x0:List Int)=>Sh.i64 s22 x0)
def S_laws_FnRecoding:Sum:={ fid:=5,dom:=[s22],cod:=[(.bool 4)],dp:=true,fz:=false,pre:=fun x=>Q_laws_FnRecoding x.1,g:=fun x=>((D_laws_FnRecoding x.1),()) }
def S_laws_FnRecoding_tab:List (Nat×Sum):=[(6,S_laws_big),(22,S_spec_DrawRelay),(23,S_impl_IsValidRecoder),(24,S_impl_RecoderRank),(25,S_impl_NewRecoder),(16,S_laws_at),(26,S_impl_Recode),(27,S_spec_IsConsistent),(29,S_impl_AcceptPacket),(28,S_impl_EqualRecoders)]
theorem S_laws_FnRecoding_ok:FnOK Try.prog 5 S_laws_FnRecoding:=by
 refine at_enter 122 (fun x=>⟨[(0,aF (.u8 5) x.1)],[]⟩) Try.func5 rfl (by kernel_rfl) (fun x=>rfl) ?_
 rintro w0 Z0 ⟨x0,u⟩ a w
 revert x0
 intro (x0:(List Int)) hpre hlens h
 replace hpre:Q_laws_FnRecoding x0:=hpre
 have hl1:List.length x0≤9223372036854775807:=hlens.1.1
 have hu0:u8L x0:=hlens.1.2
 have hT:TabOK Try.prog S_laws_FnRecoding_tab:=(.cons S_laws_big_ok (.cons S_spec_DrawRelay_ok (.cons S_impl_IsValidRecoder_ok (.cons S_impl_RecoderRank_ok (.cons S_impl_NewRecoder_ok (.cons S_laws_at_ok (.cons S_impl_Recode_ok (.cons S_spec_IsConsistent_ok (.cons S_impl_AcceptPacket_ok (.cons S_impl_EqualRecoders_ok .nil))))))))))
 refine wp_seq ?_
 refine at_regq [] { ts:=[0,2],os:=[] } [] gamOK hT h (by kernel_rfl) trivial fun a w h=>then_normal (wp_seq (wp_seq ?_))
 refine at_regq [] { ts:=[0,2,15],os:=[] } [True] gamOK hT h (by kernel_rfl) ⟨trivial,trivial⟩ fun a w h=>then_normal ?_
 refine at_test ((bigF x0)) h (by kernel_rfl) (fun h1=>?_) (fun h1=>?_)
 ·refine wp_seq ?_
  refine at_regq [] { ts:=[0,2],os:=[] } [] gamOK hT h (by kernel_rfl) trivial fun a w h=>then_normal (wp_ret (then_ret ?_))
  exact at_return (true,()) [] h (by kernel_rfl) trivial (congrArg (fun z=>(z,())) (show (true)=D_laws_FnRecoding x0 from by unfold D_laws_FnRecoding;rfl))
 ·have hbz : List.length x0 ≤ 1048576 := big_f h1
  obtain ⟨hd1,hd2,hd3,hd4,hd5⟩:=drawRl_ok x0
  have hd6:=hd4.fit hd1
  have hd7:=hd4.valid hd1
  have hd8:=rank_at hd1 hd4
  have hd9:=hd4.le
  have hsn:=hd4.sn
  refine wp_skip (then_normal (wp_seq ?_))
  refine at_regq [{},{},{},{},{},{ ids:=[1] },{ ids:=[2] }] { ts:=[0,2,3,4],os:=[1,2] } [Q_spec_DrawRelay x0] gamOK hT h (by kernel_rfl) ⟨(by exact (Sh.fit_len (t:=22) (s:=(.u8 5)) rfl (by omega))),trivial⟩ fun a w h=>then_normal (wp_seq (wp_seq ?_))
  rcases Bool.eq_false_or_eq_true (!(validR (drawRl x0).2)) with h2 | h2
  ·have hzh2 : (validR (drawRl x0).2) = false := notT h2
   refine at_anyq [{},{},{ hint:=some (aB true) },{},{},{},{},{},{},{},{},{},{},{},{},{},{},{},{},{}] { ts:=[0,2,3,4,40],os:=[1,2] } [Q_impl_IsValidRecoder (drawRl x0).2,(AV.p (.c (.v (.bool (!(validR (drawRl x0).2)))))=AV.p (.c (.v (.bool true))))] gamOK hT mixed h (by kernel_rfl) ⟨(by exact hd6),hint_bool (h2),trivial⟩ fun a w h=>then_normal ?_
   refine at_test true h (by kernel_rfl) (fun hh=>?_) (fun hh=>nomatch hh)
   refine wp_seq ?_
   refine at_regq [] { ts:=[0,2,3,4],os:=[1,2] } [] gamOK hT h (by kernel_rfl) trivial fun a w h=>then_normal (wp_ret (then_ret ?_))
   exact at_return (false,()) [] h (by kernel_rfl) trivial (congrArg (fun z=>(z,())) (show (false)=D_laws_FnRecoding x0 from by unfold D_laws_FnRecoding;(exfalso;first | contradiction | omega | (rw [beqT l1] at h2;cases h2) | (rw [beqT p2] at h2;cases h2) | (simp_all [Sh.eqB_self];done) | (simp_all [Sh.eqB_self];omega))))
  ·have hzh2 : (validR (drawRl x0).2) = true := notF h2
   have hvh2:=validR_t (notF h2)
   by_cases h3:(rankD (drawRl x0).2)=((List.length (drawRl x0).2.2.2.2.1:Nat):Int)
   ·refine at_anyq [{}, {}, { hint := some (aB false) }, {}, {}, {}, {}, {}, {}, { hint := some (aB false) }, {}, {}, {}, {}, {}, {}, {}, {}, {}, {}] { ts := [0, 2, 3, 4, 40], os := [1, 2] } [Q_impl_IsValidRecoder (drawRl x0).2, (AV.p (.c (.v (.bool (!(validR (drawRl x0).2))))) = AV.p (.c (.v (.bool false)))), Q_impl_RecoderRank (drawRl x0).2, (AV.p (.c (.v (.bool (!decide ((rankD (drawRl x0).2) = ((List.length (drawRl x0).2.2.2.2.1 : Nat) : Int)))))) = AV.p (.c (.v (.bool false))))] gamOK hT mixed h (by kernel_rfl) ⟨(by exact hd6), hint_bool (h2), (by exact hd6), hint_bool (ndT h3), trivial⟩ fun a w h => then_normal ?_
    refine at_test (decide (((List.length (drawRl x0).2.2.2.2.1:Nat):Int) > ((List.length (drawRl x0).1.2:Nat):Int))) h (by kernel_rfl) (fun h4=>?_) (fun h4=>?_)
    ·replace h4 : ((List.length (drawRl x0).2.2.2.2.1 : Nat) : Int) > ((List.length (drawRl x0).1.2 : Nat) : Int) := of_decide_eq_true h4
     refine wp_seq ?_
     refine at_regq [] { ts:=[0,2,3,4],os:=[1,2] } [] gamOK hT h (by kernel_rfl) trivial fun a w h=>then_normal (wp_ret (then_ret ?_))
     exact at_return (false,()) [] h (by kernel_rfl) trivial (congrArg (fun z=>(z,())) (show (false)=D_laws_FnRecoding x0 from by unfold D_laws_FnRecoding;(exfalso;first | contradiction | omega | (rw [beqT l1] at h4;cases h4) | (rw [beqT p2] at h4;cases h4) | (simp_all [Sh.eqB_self];done) | (simp_all [Sh.eqB_self];omega))))
    ·replace h4 : ¬ (((List.length (drawRl x0).2.2.2.2.1 : Nat) : Int) > ((List.length (drawRl x0).1.2 : Nat) : Int)) := of_decide_eq_false h4
     refine wp_skip (then_normal (wp_seq ?_))
     refine at_regq [{},{},{},{},{},{},{ frz:=true },{ ids:=[3] }] { ts:=[0,2,3,4,5],os:=[1,2,3] } [True] gamOK hT h (by kernel_rfl) ⟨trivial,trivial⟩ fun a w h=>then_normal (wp_seq (wp_seq ?_))
     refine at_regq [] { ts:=[0,2,3,4,5,6],os:=[1,2,3] } [] gamOK hT h (by kernel_rfl) trivial fun a w h=>then_normal (wp_block ?_)
     replace h:=at_out (σ':=⟨[(0,aF (.u8 5) x0),(2,aB false),(3,aP 1 0),(4,aP 2 0),(5,aP 3 0),(6,aI 0)],[(1,oX 26 [cI (drawRl x0).1.1,.ro s33 (drawRl x0).1.2]),(2,oX 54 [cI (drawRl x0).2.1,cI (drawRl x0).2.2.1,cI (drawRl x0).2.2.2.1,.ro s38 (drawRl x0).2.2.2.2.1,cI (drawRl x0).2.2.2.2.2]),(3,oX 54 [cI (newRec (drawRl x0).2.1 (drawRl x0).2.2.1 (drawRl x0).2.2.2.1).1,cI (newRec (drawRl x0).2.1 (drawRl x0).2.2.1 (drawRl x0).2.2.2.1).2.1,cI (newRec (drawRl x0).2.1 (drawRl x0).2.2.1 (drawRl x0).2.2.2.1).2.2.1,.ro s38 (newRec (drawRl x0).2.1 (drawRl x0).2.2.1 (drawRl x0).2.2.2.1).2.2.2.1,cI (newRec (drawRl x0).2.1 (drawRl x0).2.2.1 (drawRl x0).2.2.2.1).2.2.2.2])]⟩) { ts:=[0,2,3,4,5,6],os:=[1,2,3] } h (by kernel_rfl)
     refine at_loop (fun i:Nat=>(⟨[(0,aF (.u8 5) x0),(2,aB false),(3,aP 1 0),(4,aP 2 0),(5,aP 3 0),(6,aI ((i:Nat):Int))],[(1,oX 26 [cI (drawRl x0).1.1,.ro s33 (drawRl x0).1.2]),(2,oX 54 [cI (rS (drawRl x0).2 i).1,cI (rS (drawRl x0).2 i).2.1,cI (rS (drawRl x0).2 i).2.2.1,.ro s38 (rS (drawRl x0).2 i).2.2.2.1,cI (rS (drawRl x0).2 i).2.2.2.2]),(3,oX 54 [cI (ntS x0 (drawRl x0).2 i).1,cI (ntS x0 (drawRl x0).2 i).2.1,cI (ntS x0 (drawRl x0).2 i).2.2.1,.ro s38 (ntS x0 (drawRl x0).2 i).2.2.2.1,cI (ntS x0 (drawRl x0).2 i).2.2.2.2])]⟩:St)) (fun i=>(i≤2*(List.length (drawRl x0).1.2)+2∧(i=0∨0 < List.length (drawRl x0).2.2.2.2.1))) (fun i=>2*(List.length (drawRl x0).1.2)+2 - i) (0) h (st_congr11 (fun (d0:Int) (d1:Int) (d2:Int) (d3:List T38) (d4:Int) (d5:Int) (d6:Int) (d7:Int) (d8:List T38) (d9:Int) (d10:Int)=>(⟨[(0,aF (.u8 5) x0),(2,aB false),(3,aP 1 0),(4,aP 2 0),(5,aP 3 0),(6,aI d10)],[(1,oX 26 [cI (drawRl x0).1.1,.ro s33 (drawRl x0).1.2]),(2,oX 54 [cI d0,cI d1,cI d2,.ro s38 d3,cI d4]),(3,oX 54 [cI d5,cI d6,cI d7,.ro s38 d8,cI d9])]⟩:St)) (show ((drawRl x0).2.1:Int)=(rS (drawRl x0).2 (0)).1 from by first | with_reducible rfl | (first | rfl | exact (Int.add_zero _).symm) | rfl) (show ((drawRl x0).2.2.1:Int)=(rS (drawRl x0).2 (0)).2.1 from by first | with_reducible rfl | (first | rfl | exact (Int.add_zero _).symm) | rfl) (show ((drawRl x0).2.2.2.1:Int)=(rS (drawRl x0).2 (0)).2.2.1 from by first | with_reducible rfl | (first | rfl | exact (Int.add_zero _).symm) | rfl) (show ((drawRl x0).2.2.2.2.1:List T38)=(rS (drawRl x0).2 (0)).2.2.2.1 from by first | with_reducible rfl | (first | rfl | exact (Int.add_zero _).symm) | rfl) (show ((drawRl x0).2.2.2.2.2:Int)=(rS (drawRl x0).2 (0)).2.2.2.2 from by first | with_reducible rfl | (first | rfl | exact (Int.add_zero _).symm) | rfl) (show ((newRec (drawRl x0).2.1 (drawRl x0).2.2.1 (drawRl x0).2.2.2.1).1:Int)=(ntS x0 (drawRl x0).2 (0)).1 from by first | with_reducible rfl | (first | rfl | exact (Int.add_zero _).symm) | rfl) (show ((newRec (drawRl x0).2.1 (drawRl x0).2.2.1 (drawRl x0).2.2.2.1).2.1:Int)=(ntS x0 (drawRl x0).2 (0)).2.1 from by first | with_reducible rfl | (first | rfl | exact (Int.add_zero _).symm) | rfl) (show ((newRec (drawRl x0).2.1 (drawRl x0).2.2.1 (drawRl x0).2.2.2.1).2.2.1:Int)=(ntS x0 (drawRl x0).2 (0)).2.2.1 from by first | with_reducible rfl | (first | rfl | exact (Int.add_zero _).symm) | rfl) (show ((newRec (drawRl x0).2.1 (drawRl x0).2.2.1 (drawRl x0).2.2.2.1).2.2.2.1:List T38)=(ntS x0 (drawRl x0).2 (0)).2.2.2.1 from by first | with_reducible rfl | (first | rfl | exact (Int.add_zero _).symm) | rfl) (show ((newRec (drawRl x0).2.1 (drawRl x0).2.2.1 (drawRl x0).2.2.2.1).2.2.2.2:Int)=(ntS x0 (drawRl x0).2 (0)).2.2.2.2 from by first | with_reducible rfl | (first | rfl | exact (Int.add_zero _).symm) | rfl) (show (0:Int)=(((0):Nat):Int) from by first | with_reducible rfl | (first | rfl | exact (Int.add_zero _).symm) | rfl)) (by exact ⟨by omega,Or.inl rfl⟩) ?_
     intro i a w hok0 h
     refine wp_seq (wp_seq ?_)
     refine at_regq [{},{},{},{},{ nw:=true },{ nw:=true }] { ts:=[0,2,3,4,5,6,54],os:=[1,2,3] } [I64 (2*((List.length (drawRl x0).1.2:Nat):Int)),I64 ((2*((List.length (drawRl x0).1.2:Nat):Int))+2)] gamOK hT h (by kernel_rfl) ⟨⟨by (have hL0:=(show List.length (drawRl x0).1.2≤1073741824 from (hd3.2).1);first | omega | (simp only [lsA];omega) | (simp<;>omega)),by (have hL0:=(show List.length (drawRl x0).1.2≤1073741824 from (hd3.2).1);first | omega | (simp only [lsA];omega) | (simp<;>omega))⟩,⟨by (have hL0:=(show List.length (drawRl x0).1.2≤1073741824 from (hd3.2).1);first | omega | (simp only [lsA];omega) | (simp<;>omega)),by (have hL0:=(show List.length (drawRl x0).1.2≤1073741824 from (hd3.2).1);first | omega | (simp only [lsA];omega) | (simp<;>omega))⟩,trivial⟩ fun a w h=>then_normal ?_
     refine at_test (decide (((i:Nat):Int) < (2*((List.length (drawRl x0).1.2:Nat):Int))+2)) h (by kernel_rfl) (fun h5=>?_) (fun h5=>?_)
     ·replace h5 : ((i : Nat) : Int) < (2 * ((List.length (drawRl x0).1.2 : Nat) : Int)) + 2 := of_decide_eq_true h5
      obtain ⟨l1,l2,l3,l4,l5,l6,l7,l8⟩:=law_rec0 (x:=x0) (i:=i) hd1 hd4 hd5 (by omega) hok0.2 rfl
      refine wp_skip (then_normal (wp_seq (wp_block (wp_seq ?_))))
      refine at_anyq [{},{},{},{},{ frz:=true },{},{},{},{},{ ids:=[4] },{ ids:=[5] },{},{},{}] { ts:=[0,2,3,4,5,6,7,8,9],os:=[1,2,3,4,5] } [Q_laws_at x0 ((i:Nat):Int),Q_impl_Recode (rS (drawRl x0).2 i) (atF x0 ((i:Nat):Int))] gamOK hT mixed h (by kernel_rfl) ⟨(by exact ⟨hbz,by omega,by omega⟩),(by first | assumption | trivial | (first | omega | (simp only [lsA];omega) | (simp<;>omega))),trivial⟩ fun a w h=>then_normal (wp_seq (wp_seq ?_))
      rcases Bool.eq_false_or_eq_true (!((recodeR (rS (drawRl x0).2 i) (atF x0 ((i:Nat):Int))).2.2==(decide (((List.length (rS (drawRl x0).2 i).2.2.2.1:Nat):Int) > 0)))) with h6 | h6
      ·have hzh6 : ((recodeR (rS (drawRl x0).2 i) (atF x0 ((i : Nat) : Int))).2.2 == (decide (((List.length (rS (drawRl x0).2 i).2.2.2.1 : Nat) : Int) > 0))) = false := notT h6
       refine at_regq [{},{},{},{},{},{ hint:=some (aB true) }] { ts:=[0,2,3,4,5,6,7,8,9,73,74,75,76,77,78,79,80,81,82,83,84,85,86,87,88],os:=[1,2,3,4,5] } [(AV.p (.c (.v (.bool (!((recodeR (rS (drawRl x0).2 i) (atF x0 ((i:Nat):Int))).2.2==(decide (((List.length (rS (drawRl x0).2 i).2.2.2.1:Nat):Int) > 0)))))))=AV.p (.c (.v (.bool true))))] gamOK hT h (by kernel_rfl) ⟨hint_bool (h6),trivial⟩ fun a w h=>then_normal ?_
       refine at_test true h (by kernel_rfl) (fun hh=>?_) (fun hh=>nomatch hh)
       refine wp_seq ?_
       refine at_regq [] { ts:=[0,2,3,4,5,6,7,8,9,73,74,75,76,77,78,79,80,81,82,83,84,85,86,87],os:=[1,2,3,4,5] } [] gamOK hT h (by kernel_rfl) trivial fun a w h=>then_normal (wp_ret (then_ret (in_ret (then_ret (then_ret (in_ret (then_ret ?_)))))))
       exact at_return (false,()) [] h (by kernel_rfl) trivial (congrArg (fun z=>(z,())) (show (false)=D_laws_FnRecoding x0 from by unfold D_laws_FnRecoding;(exfalso;first | contradiction | omega | (rw [beqT l1] at h4;cases h4) | (rw [beqT p2] at h4;cases h4) | (simp_all [Sh.eqB_self];done) | (simp_all [Sh.eqB_self];omega))))
      ·have hzh6 : ((recodeR (rS (drawRl x0).2 i) (atF x0 ((i : Nat) : Int))).2.2 == (decide (((List.length (rS (drawRl x0).2 i).2.2.2.1 : Nat) : Int) > 0))) = true := notF h6
       rcases Bool.eq_false_or_eq_true ((recodeR (rS (drawRl x0).2 i) (atF x0 ((i:Nat):Int))).2.2) with h7 | h7
       ·obtain ⟨p1, p2, p3, p4, p5⟩ := law_rec1 (x := x0) (i := i) hd1 hd4 hd5 (by omega) hok0.2 rfl (by first | assumption | (simp_all; done))
        have p6:=(l2 (by first | assumption | (simp_all;done))).2.1
        rcases Bool.eq_false_or_eq_true (!(true==(decide (((List.length (rS (drawRl x0).2 i).2.2.2.1:Nat):Int) > 0)))) with h8 | h8
        ·have hzh8 : (true == (decide (((List.length (rS (drawRl x0).2 i).2.2.2.1 : Nat) : Int) > 0))) = false := notT h8
         refine at_regq [{ hint:=some (aB true) },{},{},{},{},{ hint:=some (aB true) }] { ts:=[0,2,3,4,5,6,7,8,9,73,74,75,76,77,78,79,80,81,82,83,84,85,86,87,88],os:=[1,2,3,4,5] } [(AV.p (.c (.v (.bool ((recodeR (rS (drawRl x0).2 i) (atF x0 ((i:Nat):Int))).2.2))))=AV.p (.c (.v (.bool true)))),(AV.p (.c (.v (.bool (!(true==(decide (((List.length (rS (drawRl x0).2 i).2.2.2.1:Nat):Int) > 0)))))))=AV.p (.c (.v (.bool true))))] gamOK hT h (by kernel_rfl) ⟨hint_bool (h7),hint_bool (h8),trivial⟩ fun a w h=>then_normal ?_
         refine at_test true h (by kernel_rfl) (fun hh=>?_) (fun hh=>nomatch hh)
         refine wp_seq ?_
         refine at_regq [] { ts:=[0,2,3,4,5,6,7,8,9,73,74,75,76,77,78,79,80,81,82,83,84,85,86,87],os:=[1,2,3,4,5] } [] gamOK hT h (by kernel_rfl) trivial fun a w h=>then_normal (wp_ret (then_ret (in_ret (then_ret (then_ret (in_ret (then_ret ?_)))))))
         exact at_return (false,()) [] h (by kernel_rfl) trivial (congrArg (fun z=>(z,())) (show (false)=D_laws_FnRecoding x0 from by unfold D_laws_FnRecoding;(exfalso;first | contradiction | omega | (rw [beqT l1] at h4;cases h4) | (rw [beqT p2] at h4;cases h4) | (simp_all [Sh.eqB_self];done) | (simp_all [Sh.eqB_self];omega))))
        ·have hzh8 : (true == (decide (((List.length (rS (drawRl x0).2 i).2.2.2.1 : Nat) : Int) > 0))) = true := notF h8
         rcases Bool.eq_false_or_eq_true (!(consS (drawRl x0).1 (recodeR (rS (drawRl x0).2 i) (atF x0 ((i:Nat):Int))).2.1)) with h9 | h9
         ·have hzh9 : (consS (drawRl x0).1 (recodeR (rS (drawRl x0).2 i) (atF x0 ((i : Nat) : Int))).2.1) = false := notT h9
          refine at_regq [{ hint:=some (aB true) },{},{},{},{},{ hint:=some (aB false) },{},{ hint:=some (aB true) },{},{},{},{},{ hint:=some (aB true) }] { ts:=[0,2,3,4,5,6,7,8,9,73,74,75,76,77,78,79,80,81,82,83,84,85,86,87,88],os:=[1,2,3,4,5] } [(AV.p (.c (.v (.bool ((recodeR (rS (drawRl x0).2 i) (atF x0 ((i:Nat):Int))).2.2))))=AV.p (.c (.v (.bool true)))),(AV.p (.c (.v (.bool (!(true==(decide (((List.length (rS (drawRl x0).2 i).2.2.2.1:Nat):Int) > 0)))))))=AV.p (.c (.v (.bool false)))),(AV.p (.c (.v (.bool ((recodeR (rS (drawRl x0).2 i) (atF x0 ((i:Nat):Int))).2.2))))=AV.p (.c (.v (.bool true)))),Q_spec_IsConsistent (drawRl x0).1 (recodeR (rS (drawRl x0).2 i) (atF x0 ((i:Nat):Int))).2.1,(AV.p (.c (.v (.bool (!(consS (drawRl x0).1 (recodeR (rS (drawRl x0).2 i) (atF x0 ((i:Nat):Int))).2.1)))))=AV.p (.c (.v (.bool true))))] gamOK hT h (by kernel_rfl) ⟨hint_bool (h7),hint_bool (h8),hint_bool (h7),(by exact ⟨hd3,l4⟩),hint_bool (h9),trivial⟩ fun a w h=>then_normal ?_
          refine at_test true h (by kernel_rfl) (fun hh=>?_) (fun hh=>nomatch hh)
          refine wp_seq ?_
          refine at_regq [] { ts:=[0,2,3,4,5,6,7,8,9,73,74,75,76,77,78,79,80,81,82,83,84,85,86,87],os:=[1,2,3,4,5] } [] gamOK hT h (by kernel_rfl) trivial fun a w h=>then_normal (wp_ret (then_ret (in_ret (then_ret (then_ret (in_ret (then_ret ?_)))))))
          exact at_return (false,()) [] h (by kernel_rfl) trivial (congrArg (fun z=>(z,())) (show (false)=D_laws_FnRecoding x0 from by unfold D_laws_FnRecoding;(exfalso;first | contradiction | omega | (rw [beqT l1] at h4;cases h4) | (rw [beqT p2] at h4;cases h4) | (simp_all [Sh.eqB_self];done) | (simp_all [Sh.eqB_self];omega))))
         ·have hzh9 : (consS (drawRl x0).1 (recodeR (rS (drawRl x0).2 i) (atF x0 ((i : Nat) : Int))).2.1) = true := notF h9
          refine at_regq [{ hint:=some (aB true) },{},{},{},{},{ hint:=some (aB false) },{},{ hint:=some (aB true) },{},{},{},{},{ hint:=some (aB false) },{},{},{},{},{},{ nw:=true }] { ts:=[0,2,3,4,5,6,7,8,9,73,74,75,76,77,78,79,80,81,82,83,84,85,86,87,88],os:=[1,2,3,4,5] } [(AV.p (.c (.v (.bool ((recodeR (rS (drawRl x0).2 i) (atF x0 ((i:Nat):Int))).2.2))))=AV.p (.c (.v (.bool true)))),(AV.p (.c (.v (.bool (!(true==(decide (((List.length (rS (drawRl x0).2 i).2.2.2.1:Nat):Int) > 0)))))))=AV.p (.c (.v (.bool false)))),(AV.p (.c (.v (.bool ((recodeR (rS (drawRl x0).2 i) (atF x0 ((i:Nat):Int))).2.2))))=AV.p (.c (.v (.bool true)))),Q_spec_IsConsistent (drawRl x0).1 (recodeR (rS (drawRl x0).2 i) (atF x0 ((i:Nat):Int))).2.1,(AV.p (.c (.v (.bool (!(consS (drawRl x0).1 (recodeR (rS (drawRl x0).2 i) (atF x0 ((i:Nat):Int))).2.1)))))=AV.p (.c (.v (.bool false)))),I64 ((rS (drawRl x0).2 i).2.2.2.2+1)] gamOK hT h (by kernel_rfl) ⟨hint_bool (h7),hint_bool (h8),hint_bool (h7),(by exact ⟨hd3,l4⟩),hint_bool (h9),⟨by first | omega | (simp only [lsA];omega) | (simp<;>omega),by first | omega | (simp only [lsA];omega) | (simp<;>omega)⟩,trivial⟩ fun a w h=>then_normal ?_
          refine at_test (!decide ((recodeR (rS (drawRl x0).2 i) (atF x0 ((i:Nat):Int))).1.2.2.2.2=(rS (drawRl x0).2 i).2.2.2.2+1)) h (by kernel_rfl) (fun h10=>?_) (fun h10=>?_)
          ·replace h10 : ¬ ((recodeR (rS (drawRl x0).2 i) (atF x0 ((i : Nat) : Int))).1.2.2.2.2 = (rS (drawRl x0).2 i).2.2.2.2 + 1) := of_decide_eq_false (notT h10)
           refine wp_seq ?_
           refine at_regq [] { ts:=[0,2,3,4,5,6,7,8,9,73,74,75,76,77,78,79,80,81,82,83,84,85,86,87],os:=[1,2,3,4,5] } [] gamOK hT h (by kernel_rfl) trivial fun a w h=>then_normal (wp_ret (then_ret (in_ret (then_ret (then_ret (in_ret (then_ret ?_)))))))
           exact at_return (false,()) [] h (by kernel_rfl) trivial (congrArg (fun z=>(z,())) (show (false)=D_laws_FnRecoding x0 from by unfold D_laws_FnRecoding;(exfalso;first | contradiction | omega | (rw [beqT l1] at h4;cases h4) | (rw [beqT p2] at h4;cases h4) | (simp_all [Sh.eqB_self];done) | (simp_all [Sh.eqB_self];omega))))
          ·replace h10 : (recodeR (rS (drawRl x0).2 i) (atF x0 ((i : Nat) : Int))).1.2.2.2.2 = (rS (drawRl x0).2 i).2.2.2.2 + 1 := of_decide_eq_true (notF h10)
           refine wp_skip (then_normal (wp_seq (wp_seq ?_)))
           refine at_regq [{ hint:=some (aB true) }] { ts:=[0,2,3,4,5,6,7,8,73,74,75,76,77,78,79,80,81,82,83,84,85,86,87,90],os:=[1,2,3,4,5] } [(AV.p (.c (.v (.bool ((recodeR (rS (drawRl x0).2 i) (atF x0 ((i:Nat):Int))).2.2))))=AV.p (.c (.v (.bool true))))] gamOK hT h (by kernel_rfl) ⟨hint_bool (h7),trivial⟩ fun a w h=>then_normal ?_
           refine at_test false h (by kernel_rfl) (fun hh=>nomatch hh) (fun hh=>?_)
           refine wp_skip (then_normal (wp_seq ?_))
           refine at_regq [{},{},{ frz:=true },{},{},{},{ ids:=[6] }] { ts:=[0,2,3,4,5,6,7,8,10,11,73,74,75,76,77,78,79,80,81,82,83,84,85,86,87],os:=[1,2,3,4,5,6] } [Q_impl_AcceptPacket (ntS x0 (drawRl x0).2 i) (recodeR (rS (drawRl x0).2 i) (atF x0 ((i:Nat):Int))).2.1] gamOK hT h (by kernel_rfl) ⟨(by first | assumption | trivial | (first | omega | (simp only [lsA];omega) | (simp<;>omega))),trivial⟩ fun a w h=>then_normal (wp_seq (wp_seq ?_))
           refine at_anyq [{},{},{},{},{},{ nw:=true },{},{}] { ts:=[0,2,3,4,5,6,7,8,10,73,74,75,76,77,78,79,80,81,82,83,84,85,86,87,107],os:=[1,2,3,4,5,6] } [Q_impl_RecoderRank (acceptR (ntS x0 (drawRl x0).2 i) (recodeR (rS (drawRl x0).2 i) (atF x0 ((i:Nat):Int))).2.1).1,Q_impl_RecoderRank (ntS x0 (drawRl x0).2 i),I64 ((rankD (ntS x0 (drawRl x0).2 i))+1)] gamOK hT mixed h (by kernel_rfl) ⟨(by exact p4),(by first | assumption | trivial | (first | omega | (simp only [lsA];omega) | (simp<;>omega))),⟨by first | omega | (simp only [lsA];omega) | (simp<;>omega),by first | omega | (simp only [lsA];omega) | (simp<;>omega)⟩,trivial⟩ fun a w h=>then_normal ?_
           refine at_test (!((acceptR (ntS x0 (drawRl x0).2 i) (recodeR (rS (drawRl x0).2 i) (atF x0 ((i:Nat):Int))).2.1).2==(decide ((rankD (acceptR (ntS x0 (drawRl x0).2 i) (recodeR (rS (drawRl x0).2 i) (atF x0 ((i:Nat):Int))).2.1).1)=(rankD (ntS x0 (drawRl x0).2 i))+1)))) h (by kernel_rfl) (fun h11=>?_) (fun h11=>?_)
           ·replace h11 : ((acceptR (ntS x0 (drawRl x0).2 i) (recodeR (rS (drawRl x0).2 i) (atF x0 ((i : Nat) : Int))).2.1).2 == (decide ((rankD (acceptR (ntS x0 (drawRl x0).2 i) (recodeR (rS (drawRl x0).2 i) (atF x0 ((i : Nat) : Int))).2.1).1) = (rankD (ntS x0 (drawRl x0).2 i)) + 1))) = false := notT h11
            refine wp_seq ?_
            refine at_regq [] { ts:=[0,2,3,4,5,6,7,8,10,73,74,75,76,77,78,79,80,81,82,83,84,85,86,87],os:=[1,2,3,4,5,6] } [] gamOK hT h (by kernel_rfl) trivial fun a w h=>then_normal (wp_ret (then_ret (in_ret (then_ret (then_ret (in_ret (then_ret ?_)))))))
            exact at_return (false,()) [] h (by kernel_rfl) trivial (congrArg (fun z=>(z,())) (show (false)=D_laws_FnRecoding x0 from by unfold D_laws_FnRecoding;(exfalso;first | contradiction | omega | (rw [beqT l1] at h4;cases h4) | (rw [beqT p2] at h4;cases h4) | (simp_all [Sh.eqB_self];done) | (simp_all [Sh.eqB_self];omega))))
           ·replace h11 : ((acceptR (ntS x0 (drawRl x0).2 i) (recodeR (rS (drawRl x0).2 i) (atF x0 ((i : Nat) : Int))).2.1).2 == (decide ((rankD (acceptR (ntS x0 (drawRl x0).2 i) (recodeR (rS (drawRl x0).2 i) (atF x0 ((i : Nat) : Int))).2.1).1) = (rankD (ntS x0 (drawRl x0).2 i)) + 1))) = true := notF h11
            refine wp_skip (then_normal (wp_seq ?_))
            refine at_regq [{},{},{ frz:=true },{},{},{},{ ids:=[7] }] { ts:=[0,2,3,4,5,6,7,10,13,73,74,75,76,77,78,79,80,81,82,83,84,85,86,87],os:=[1,2,3,4,6] } [Q_impl_AcceptPacket (acceptR (ntS x0 (drawRl x0).2 i) (recodeR (rS (drawRl x0).2 i) (atF x0 ((i:Nat):Int))).2.1).1 (recodeR (rS (drawRl x0).2 i) (atF x0 ((i:Nat):Int))).2.1] gamOK hT h (by kernel_rfl) ⟨(by exact ⟨p4,l4⟩),trivial⟩ fun a w h=>then_normal (wp_seq (wp_seq ?_))
            refine at_regq [] { ts:=[0,2,3,4,5,6,7,10,73,74,75,76,77,78,79,80,81,82,83,84,85,86,87,114],os:=[1,2,3,4,6] } [] gamOK hT h (by kernel_rfl) trivial fun a w h=>then_normal ?_
            refine at_test ((acceptR (acceptR (ntS x0 (drawRl x0).2 i) (recodeR (rS (drawRl x0).2 i) (atF x0 ((i:Nat):Int))).2.1).1 (recodeR (rS (drawRl x0).2 i) (atF x0 ((i:Nat):Int))).2.1).2) h (by kernel_rfl) (fun h12=>?_) (fun h12=>?_)
            ·refine wp_seq ?_
             refine at_regq [] { ts:=[0,2,3,4,5,6,7,10,73,74,75,76,77,78,79,80,81,82,83,84,85,86,87],os:=[1,2,3,4,6] } [] gamOK hT h (by kernel_rfl) trivial fun a w h=>then_normal (wp_ret (then_ret (in_ret (then_ret (then_ret (in_ret (then_ret ?_)))))))
             exact at_return (false,()) [] h (by kernel_rfl) trivial (congrArg (fun z=>(z,())) (show (false)=D_laws_FnRecoding x0 from by unfold D_laws_FnRecoding;(exfalso;first | contradiction | omega | (rw [beqT l1] at h4;cases h4) | (rw [beqT p2] at h4;cases h4) | (simp_all [Sh.eqB_self];done) | (simp_all [Sh.eqB_self];omega))))
            ·refine wp_skip (then_normal (wp_seq ?_))
             refine at_regq [] { ts:=[0,2,3,4,5,6,7,73,74,75,76,77,78,79,80,81,82,83,84,85,86,87],os:=[1,2,3,4] } [] gamOK hT h (by kernel_rfl) trivial fun a w h=>then_normal ?_
             refine at_regq [] { ts:=[0,2,3,4,5,6,73,74,75,76,77,78,79,80,81,82,83,84,85,86,87],os:=[1,2,3,4] } [] gamOK hT h (by kernel_rfl) trivial fun a w h=>in_normal (then_normal ?_)
             refine at_regq [{},{ nw:=true }] { ts:=[0,2,3,4,5,6,73,74,75,76,77,78,79,80,81,82,83,84,85,86,87],os:=[1,2,3,4] } [I64 (((i:Nat):Int)+1)] gamOK hT h (by kernel_rfl) ⟨⟨by first | omega | (simp only [lsA];omega) | (simp<;>omega),by first | omega | (simp only [lsA];omega) | (simp<;>omega)⟩,trivial⟩ fun a w h=>?_
             replace h:=at_out (σ':=⟨[(0,aF (.u8 5) x0),(2,aB false),(3,aP 1 0),(4,aP 2 0),(5,aP 3 0),(6,aI (((i:Nat):Int)+1))],[(1,oX 26 [cI (drawRl x0).1.1,.ro s33 (drawRl x0).1.2]),(2,oX 54 [cI (recodeR (rS (drawRl x0).2 i) (atF x0 ((i:Nat):Int))).1.1,cI (recodeR (rS (drawRl x0).2 i) (atF x0 ((i:Nat):Int))).1.2.1,cI (recodeR (rS (drawRl x0).2 i) (atF x0 ((i:Nat):Int))).1.2.2.1,.ro s38 (recodeR (rS (drawRl x0).2 i) (atF x0 ((i:Nat):Int))).1.2.2.2.1,cI (recodeR (rS (drawRl x0).2 i) (atF x0 ((i:Nat):Int))).1.2.2.2.2]),(3,oX 54 [cI (acceptR (ntS x0 (drawRl x0).2 i) (recodeR (rS (drawRl x0).2 i) (atF x0 ((i:Nat):Int))).2.1).1.1,cI (acceptR (ntS x0 (drawRl x0).2 i) (recodeR (rS (drawRl x0).2 i) (atF x0 ((i:Nat):Int))).2.1).1.2.1,cI (acceptR (ntS x0 (drawRl x0).2 i) (recodeR (rS (drawRl x0).2 i) (atF x0 ((i:Nat):Int))).2.1).1.2.2.1,.ro s38 (acceptR (ntS x0 (drawRl x0).2 i) (recodeR (rS (drawRl x0).2 i) (atF x0 ((i:Nat):Int))).2.1).1.2.2.2.1,cI (acceptR (ntS x0 (drawRl x0).2 i) (recodeR (rS (drawRl x0).2 i) (atF x0 ((i:Nat):Int))).2.1).1.2.2.2.2])]⟩) { ts:=[0,2,3,4,5,6],os:=[1,2,3] } h (by kernel_rfl)
             exact ⟨i+1,at_eq h (st_congr11 (fun (d0:Int) (d1:Int) (d2:Int) (d3:List T38) (d4:Int) (d5:Int) (d6:Int) (d7:Int) (d8:List T38) (d9:Int) (d10:Int)=>(⟨[(0,aF (.u8 5) x0),(2,aB false),(3,aP 1 0),(4,aP 2 0),(5,aP 3 0),(6,aI d10)],[(1,oX 26 [cI (drawRl x0).1.1,.ro s33 (drawRl x0).1.2]),(2,oX 54 [cI d0,cI d1,cI d2,.ro s38 d3,cI d4]),(3,oX 54 [cI d5,cI d6,cI d7,.ro s38 d8,cI d9])]⟩:St)) (show ((recodeR (rS (drawRl x0).2 i) (atF x0 ((i:Nat):Int))).1.1:Int)=(rS (drawRl x0).2 (i+1)).1 from by first | with_reducible rfl | ((rw [p6])) | rfl) (show ((recodeR (rS (drawRl x0).2 i) (atF x0 ((i:Nat):Int))).1.2.1:Int)=(rS (drawRl x0).2 (i+1)).2.1 from by first | with_reducible rfl | ((rw [p6])) | rfl) (show ((recodeR (rS (drawRl x0).2 i) (atF x0 ((i:Nat):Int))).1.2.2.1:Int)=(rS (drawRl x0).2 (i+1)).2.2.1 from by first | with_reducible rfl | ((rw [p6])) | rfl) (show ((recodeR (rS (drawRl x0).2 i) (atF x0 ((i:Nat):Int))).1.2.2.2.1:List T38)=(rS (drawRl x0).2 (i+1)).2.2.2.1 from by first | with_reducible rfl | ((rw [p6])) | rfl) (show ((recodeR (rS (drawRl x0).2 i) (atF x0 ((i:Nat):Int))).1.2.2.2.2:Int)=(rS (drawRl x0).2 (i+1)).2.2.2.2 from by first | with_reducible rfl | ((rw [p6])) | rfl) (show ((acceptR (ntS x0 (drawRl x0).2 i) (recodeR (rS (drawRl x0).2 i) (atF x0 ((i:Nat):Int))).2.1).1.1:Int)=(ntS x0 (drawRl x0).2 (i+1)).1 from by first | with_reducible rfl | (rfl) | rfl) (show ((acceptR (ntS x0 (drawRl x0).2 i) (recodeR (rS (drawRl x0).2 i) (atF x0 ((i:Nat):Int))).2.1).1.2.1:Int)=(ntS x0 (drawRl x0).2 (i+1)).2.1 from by first | with_reducible rfl | (rfl) | rfl) (show ((acceptR (ntS x0 (drawRl x0).2 i) (recodeR (rS (drawRl x0).2 i) (atF x0 ((i:Nat):Int))).2.1).1.2.2.1:Int)=(ntS x0 (drawRl x0).2 (i+1)).2.2.1 from by first | with_reducible rfl | (rfl) | rfl) (show ((acceptR (ntS x0 (drawRl x0).2 i) (recodeR (rS (drawRl x0).2 i) (atF x0 ((i:Nat):Int))).2.1).1.2.2.2.1:List T38)=(ntS x0 (drawRl x0).2 (i+1)).2.2.2.1 from by first | with_reducible rfl | (rfl) | rfl) (show ((acceptR (ntS x0 (drawRl x0).2 i) (recodeR (rS (drawRl x0).2 i) (atF x0 ((i:Nat):Int))).2.1).1.2.2.2.2:Int)=(ntS x0 (drawRl x0).2 (i+1)).2.2.2.2 from by first | with_reducible rfl | (rfl) | rfl) (show (((i:Nat):Int)+1:Int)=(((i+1):Nat):Int) from by first | with_reducible rfl | (omega) | rfl)),(by exact ⟨by omega,Or.inr p1⟩),(by omega)⟩
       ·rcases Bool.eq_false_or_eq_true (!(false == (decide (((List.length (rS (drawRl x0).2 i).2.2.2.1 : Nat) : Int) > 0)))) with h13 | h13
        ·have hzh13 : (false == (decide (((List.length (rS (drawRl x0).2 i).2.2.2.1 : Nat) : Int) > 0))) = false := notT h13
         refine at_regq [{ hint:=some (aB false) },{},{},{},{},{ hint:=some (aB true) }] { ts:=[0,2,3,4,5,6,7,8,9,73,74,75,76,77,78,79,80,81,82,83,84,85,86,87,88],os:=[1,2,3,4,5] } [(AV.p (.c (.v (.bool ((recodeR (rS (drawRl x0).2 i) (atF x0 ((i:Nat):Int))).2.2))))=AV.p (.c (.v (.bool false)))),(AV.p (.c (.v (.bool (!(false==(decide (((List.length (rS (drawRl x0).2 i).2.2.2.1:Nat):Int) > 0)))))))=AV.p (.c (.v (.bool true))))] gamOK hT h (by kernel_rfl) ⟨hint_bool (h7),hint_bool (h13),trivial⟩ fun a w h=>then_normal ?_
         refine at_test true h (by kernel_rfl) (fun hh=>?_) (fun hh=>nomatch hh)
         refine wp_seq ?_
         refine at_regq [] { ts:=[0,2,3,4,5,6,7,8,9,73,74,75,76,77,78,79,80,81,82,83,84,85,86,87],os:=[1,2,3,4,5] } [] gamOK hT h (by kernel_rfl) trivial fun a w h=>then_normal (wp_ret (then_ret (in_ret (then_ret (then_ret (in_ret (then_ret ?_)))))))
         exact at_return (false,()) [] h (by kernel_rfl) trivial (congrArg (fun z=>(z,())) (show (false)=D_laws_FnRecoding x0 from by unfold D_laws_FnRecoding;(exfalso;first | contradiction | omega | (rw [beqT l1] at h4;cases h4) | (rw [beqT p2] at h4;cases h4) | (simp_all [Sh.eqB_self];done) | (simp_all [Sh.eqB_self];omega))))
        ·have hzh13 : (false == (decide (((List.length (rS (drawRl x0).2 i).2.2.2.1 : Nat) : Int) > 0))) = true := notF h13
         refine at_regq [{ hint:=some (aB false) },{},{},{},{},{ hint:=some (aB false) },{},{ hint:=some (aB false) }] { ts:=[0,2,3,4,5,6,7,8,9,73,74,75,76,77,78,79,80,81,82,83,84,85,86,87,88],os:=[1,2,3,4,5] } [(AV.p (.c (.v (.bool ((recodeR (rS (drawRl x0).2 i) (atF x0 ((i:Nat):Int))).2.2))))=AV.p (.c (.v (.bool false)))),(AV.p (.c (.v (.bool (!(false==(decide (((List.length (rS (drawRl x0).2 i).2.2.2.1:Nat):Int) > 0)))))))=AV.p (.c (.v (.bool false)))),(AV.p (.c (.v (.bool ((recodeR (rS (drawRl x0).2 i) (atF x0 ((i:Nat):Int))).2.2))))=AV.p (.c (.v (.bool false))))] gamOK hT h (by kernel_rfl) ⟨hint_bool (h7),hint_bool (h13),hint_bool (h7),trivial⟩ fun a w h=>then_normal ?_
         refine at_test false h (by kernel_rfl) (fun hh=>nomatch hh) (fun hh=>?_)
         refine wp_skip (then_normal (wp_seq (wp_seq ?_)))
         refine at_regq [{ hint:=some (aB false) }] { ts:=[0,2,3,4,5,6,7,8,73,74,75,76,77,78,79,80,81,82,83,84,85,86,87,90],os:=[1,2,3,4,5] } [(AV.p (.c (.v (.bool ((recodeR (rS (drawRl x0).2 i) (atF x0 ((i:Nat):Int))).2.2))))=AV.p (.c (.v (.bool false))))] gamOK hT h (by kernel_rfl) ⟨hint_bool (h7),trivial⟩ fun a w h=>then_normal ?_
         refine at_test true h (by kernel_rfl) (fun hh=>?_) (fun hh=>nomatch hh)
         refine wp_seq ?_
         refine at_regq [] { ts:=[0,2,3,4,5,6,7,8,73,74,75,76,77,78,79,80,81,82,83,84,85,86,87],os:=[1,2,3,4,5] } [True] gamOK hT h (by kernel_rfl) ⟨trivial,trivial⟩ fun a w h=>then_normal (wp_ret (then_ret (in_ret (then_ret (then_ret (in_ret (then_ret ?_)))))))
         exact at_return (((Sh.eqB s54) (recodeR (rS (drawRl x0).2 i) (atF x0 ((i:Nat):Int))).1 (rS (drawRl x0).2 i)),()) [] h (by kernel_rfl) trivial (congrArg (fun z=>(z,())) (show (((Sh.eqB s54) (recodeR (rS (drawRl x0).2 i) (atF x0 ((i:Nat):Int))).1 (rS (drawRl x0).2 i)))=D_laws_FnRecoding x0 from by unfold D_laws_FnRecoding;first | exact decide_eq_true e1 | (rw [l3 (by first | assumption | (simp_all;done))];exact Sh.eqB_self _ _) | (simp_all [Sh.eqB_self];done)))
     ·replace h5 : ¬ (((i : Nat) : Int) < (2 * ((List.length (drawRl x0).1.2 : Nat) : Int)) + 2) := of_decide_eq_false h5
      obtain ⟨e1,e2,e3⟩:=law_rec_end (x:=x0) (i:=i) hd1 hd4 hd5 (by omega) hok0.2
      refine wp_exit (then_exit (then_exit (in_hit (then_normal (wp_seq ?_)))))
      refine at_anyq [{},{},{},{},{},{}] { ts:=[2],os:=[] } [Q_impl_RecoderRank (ntS x0 (drawRl x0).2 i),Q_impl_RecoderRank (rS (drawRl x0).2 i)] gamOK hT mixed h (by kernel_rfl) ⟨(by first | assumption | trivial | (first | omega | (simp only [lsA];omega) | (simp<;>omega))),(by first | assumption | trivial | (first | omega | (simp only [lsA];omega) | (simp<;>omega))),trivial⟩ fun a w h=>then_normal (wp_ret ?_)
      exact at_return (decide ((rankD (ntS x0 (drawRl x0).2 i))≤(rankD (rS (drawRl x0).2 i))),()) [] h (by kernel_rfl) trivial (congrArg (fun z=>(z,())) (show (decide ((rankD (ntS x0 (drawRl x0).2 i))≤(rankD (rS (drawRl x0).2 i))))=D_laws_FnRecoding x0 from by unfold D_laws_FnRecoding;first | exact decide_eq_true e1 | (rw [l3 (by first | assumption | (simp_all;done))];exact Sh.eqB_self _ _) | (simp_all [Sh.eqB_self];done)))
   ·refine at_anyq [{}, {}, { hint := some (aB false) }, {}, {}, {}, {}, {}, {}, { hint := some (aB true) }, {}, {}, {}, {}, {}, {}, {}, {}, {}, {}] { ts := [0, 2, 3, 4, 40], os := [1, 2] } [Q_impl_IsValidRecoder (drawRl x0).2, (AV.p (.c (.v (.bool (!(validR (drawRl x0).2))))) = AV.p (.c (.v (.bool false)))), Q_impl_RecoderRank (drawRl x0).2, (AV.p (.c (.v (.bool (!decide ((rankD (drawRl x0).2) = ((List.length (drawRl x0).2.2.2.2.1 : Nat) : Int)))))) = AV.p (.c (.v (.bool true))))] gamOK hT mixed h (by kernel_rfl) ⟨(by exact hd6), hint_bool (h2), (by exact hd6), hint_bool (ndF h3), trivial⟩ fun a w h => then_normal ?_
    refine at_test true h (by kernel_rfl) (fun hh=>?_) (fun hh=>nomatch hh)
    refine wp_seq ?_
    refine at_regq [] { ts:=[0,2,3,4],os:=[1,2] } [] gamOK hT h (by kernel_rfl) trivial fun a w h=>then_normal (wp_ret (then_ret ?_))
    exact at_return (false,()) [] h (by kernel_rfl) trivial (congrArg (fun z=>(z,())) (show (false)=D_laws_FnRecoding x0 from by unfold D_laws_FnRecoding;(exfalso;first | contradiction | omega | (rw [beqT l1] at h3;cases h3) | (rw [beqT p2] at h3;cases h3) | (simp_all [Sh.eqB_self];done) | (simp_all [Sh.eqB_self];omega))))

theorem opn5:OpensS Try.prog 5 (.u8 5):=opensS_u8 Try.underlying5
theorem co5:Try.prog.cellsOf 5=1:=by kernel_rfl
theorem opn22:OpensS Try.prog 22 s22:=opensS_slice (a:=(.u8 5)) Try.underlying22 co5 opn5
namespace fnRecoding
open Go.ChangeShapes Go.WideShapes Go.ChangeAt Go.RowKit
theorem own:ownKnob Try.prog.godebug=none:=by kernel_rfl
theorem laidOut:laidOutB Try.prog=true:=fxLaid
set_option maxRecDepth 100000 in
theorem lifted (os:Os) (started:os.Started) (H:Type) (enc:TypeId×Value→H) :
    ReturnsInHanded {} Try.checked os 5 .any (Rows.fnRecodingSpec.pre6 enc Try.prog Try.f5 Rows.fnRecodingRow.domain false) (Rows.fnRecodingSpec.post enc Try.prog Try.f5 false true false false):=by
  refine returnsInHanded_of_change (C:=Try.checked) own started (by kernel_rfl) Try.func5
    (ChangeSpec.witness6 (enc:=enc) (C:=Try.checked) false ⟨#[],#[.slice none 0 0],[]⟩ 8 (by kernel_rfl) (by kernel_rfl) (by kernel_rfl) (by kernel_rfl)) ?_
  intro W base args ds gs before hval0 hW hcnd _
  have hval:∀ (j:Nat) t v,Try.f5.params[j]?=some t→args[j]?=some v→Value.okWide Try.prog W .any base t v:=hval0
  have hW':=hW
  obtain ⟨p,q,hA0,hV,rfl,hfz,hnd⟩:=hW
  have hA:DataW.TrodAll enc Try.prog W 0 (fun _=>true) true Try.f5.params.toList args.toList ds p:=hA0
  rw [Try.params5] at hA hval
  obtain ⟨v0,vs0,d0,ds0,p0,q0,hargs,rfl,rfl,h0,r0⟩:=trodAll_cons hA
  obtain ⟨rfl,rfl,rfl⟩:=trodAll_nil r0
  obtain rfl:args=#[v0]:=by cases args;simp_all
  obtain ⟨rfl,rfl⟩:=trodVars_none hV
  have k0:=h0
  have lt0:∀ x∈p0,x.block < W.heap.size:=by obtain ⟨m,hm⟩:=k0;exact DataW.trod_lt m _ _ _ hm
  obtain ⟨ad0,len0,cap0,rfl⟩:=okWide_slice Try.underlying22 (hval 0 22 v0 rfl rfl)
  obtain ⟨x0,hx0,i0⟩:∃ x:(s22).D,(s22).rd W (fun b=>b < W.heap.size) [.slice ad0 len0 cap0] x∧(s22).i64 x:=by obtain ⟨fuel,hf⟩:=h0;exact opn22 hf
  clear hA0 hval0
  refine (calls_law S_laws_FnRecoding_ok (by kernel_rfl) W (fun b=>b < W.heap.size) [.slice ad0 len0 cap0] (x0,()) (fun _ h=>h) ⟨argRd_sl hx0,trivial⟩ i0).mono fun e W' hr=>?_
  obtain ⟨he,bel⟩:=ret_bool hr
  subst he
  exact ⟨_,rfl,_,_,_,[],_,[],hW',trodAll_mk1 (shut_bool Try.underlying4 _),(trodAll_cons_mk (Below.trod laidOut (by kernel_rfl) (of_decide_eq_true (by kernel_rfl)) k0 bel lt0) trodAll_mk0),rfl,bel.frame _,fun h=>by cases h⟩
theorem closed:joinedFacts Try.prog 5 Try.f5 (Rows.fnRecodingSpec) Rows.fnRecodingRow=true:=by
  unfold joinedFacts
  exact (and2 (and2 (and2 (and2 (and2 (and2 (and2 (and2 (and2 (and2 (and2 (and2 (and2 (and2 (and2 (and2 (and2 (and2 (and2 (and2 (and2 (and2 (and2 (and2 (and2 (and2 (and2 (and2 (and2 (and2 (and2 (by kernel_rfl) fxLaid) fxMaps) (by kernel_rfl)) (by kernel_rfl)) (by kernel_rfl)) (by kernel_rfl)) (by kernel_rfl)) (by kernel_rfl)) (by kernel_rfl)) (by kernel_rfl)) (by kernel_rfl)) (by kernel_rfl)) (by kernel_rfl)) (by kernel_rfl)) (by kernel_rfl)) (by kernel_rfl)) (by kernel_rfl)) (by kernel_rfl)) (by kernel_rfl)) (by kernel_rfl)) (by kernel_rfl)) (by kernel_rfl)) (by kernel_rfl)) (by kernel_rfl)) fxEnter) (by rw [fxLifts];kernel_rfl)) (by rw [fxMake];kernel_rfl)) (by kernel_rfl)) (by kernel_rfl)) (by kernel_rfl)) (by kernel_rfl))
theorem over:Rows.fnRecodingRow.holds Try.pinned (OpenSpec.ofChange Rows.fnRecodingSpec) :=
  OpenClaim.holds_of_wide 5 Try.f5 rfl rfl rfl rfl rfl rfl rfl ⟨rfl,rfl,rfl,rfl,rfl⟩ rfl rfl rfl rfl rfl (by kernel_rfl) Try.func5 closed
    (of_decide_eq_true (by kernel_rfl)) (by unfold Func.isWrapper;first | (rw [if_pos (by decide +kernel)];kernel_rfl) | (rw [if_neg (by decide +kernel)];exact ⟨rfl,rfl⟩))
    (fun os started H enc _=>lifted os started H enc)
/-- the statement -/
theorem proved:Rows.FnRecodingSaid:=over
end fnRecoding

end Go.Proofs.Ytgeonngfipikeaa
