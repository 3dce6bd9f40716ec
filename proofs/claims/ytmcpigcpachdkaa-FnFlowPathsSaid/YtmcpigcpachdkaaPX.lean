/- How an argument that came in reads as plain data; what a law ends in. No program is named; no condition. -/
import Derived.Test.YtmcpigcpachdkaaPW
import Derived.ProofKit
import Derived.OpenShut
import Derived.ShutString
import Derived.ChangeOld
import Derived.ChangeSame
import Derived.Deep.Slices
import Derived.Carry
namespace Go.Proofs.Ytmcpigcpachdkaa
open Go.RowKit Go.ChangeShapes Go.WideShapes Go.Deep
set_option linter.unusedVariables false
set_option linter.unusedSimpArgs false
def Sh.i64:(s:Sh)→s.D→Prop
 | .int _,n=>I64 n
 | .pair a b,x=>a.i64 x.1∧b.i64 x.2
 | .st _ a,x=>a.i64 x
 | .sl _ a,xs=>∀ x:a.D,List.Mem x xs→a.i64 x
 | _,_=>True
def OpensS (P:Program) (t:TypeId) (s:Sh):Prop :=
 ∀ {H:Type} {enc:TypeId×Value→H} {w:World} {base:Nat} {spare:Nat→Bool} {held:Bool} {fuel:Nat} {cs:List Value} {x:DataW H×List MemPlace},
  DataW.trod enc P w base spare held fuel t cs=some x→∃ a:s.D,s.rd w (fun b=>b < w.heap.size) cs a∧s.i64 a
section
variable {P:Program} {t e t':TypeId}
theorem opensS_u8 (ht:P.underlying t=some (.int .u8)):OpensS P t (.u8 t'):=by
 intro H enc w base spare held fuel cs x h
 obtain ⟨n,rfl,_,hw⟩:=DataW.trod_int ht h
 have:(0:Int)≤n∧n < 256:=by
  have hw':(0:Int)≤n∧n≤255:=by simpa [Lit.wf,IntKind.min,IntKind.max,IntKind.signed,IntKind.bits] using hw
  omega
 exact ⟨n,⟨rfl,this⟩,trivial⟩
theorem opensS_slice {a:Sh} (ht:P.underlying t=some (.slice e)) (hC:P.cellsOf e=a.size) (h:OpensS P e a):OpensS P t (.sl t' a):=by
 intro H enc w base spare held fuel cs x hx
 have hp:=a.size_pos
 rcases open_slice ht hx with ⟨rfl,_⟩ | ⟨ad,len,cap,m,n,D,Pl,rfl,hb,hl,hm,hmm,_,hi⟩
 ·exact ⟨([]:List a.D),⟨none,0,[],rfl,Nat.le_refl _,by simp [maxLen],trivial,fun h=>absurd h (by simp)⟩,fun x hx=>by cases hx⟩
 ·have hml : len ≤ m := by rw [hmm]; split <;> omega
  have key:∀ k,k≤len→∃ (vs:List (List Value)) (xs:List a.D),xs.length=k∧Rd2 (a.rd w (fun b=>b < w.heap.size)) vs xs∧(∀ x∈xs,a.i64 x)∧∀ j u,vs.flatten[j]?=some u→w.cell? (ad.add j)=some u:=by
   intro k
   induction k with
   | zero=>intro _;exact ⟨[],[],rfl,trivial,by simp,by simp⟩
   | succ k ih =>
    intro hk
    obtain ⟨vs,xs,hxl,hr,h64,hc⟩:=ih (by omega)
    obtain ⟨c,hcc,htr⟩:=hi k (by omega)
    obtain ⟨y,hy,hy64⟩:=h htr
    obtain ⟨_,hcl,hat⟩:=World.cells?_some hcc
    rw [hC] at hcl hat
    refine ⟨vs++[c],xs++[y],by simp [hxl],hr.append ⟨hy,trivial⟩,fun x hx=>?_,fun j u hu=>?_⟩
    ·rcases List.mem_append.1 hx with hx | hx
     ·exact h64 x hx
     ·rw [List.mem_singleton] at hx;rw [hx];exact hy64
    ·have hfl : vs.flatten.length = k * a.size := by rw [flat_len_of (hr.lens fun c x h => a.rd_len h), hr.len, hxl]
     rw [List.flatten_append] at hu
     rcases Nat.lt_or_ge j (k*a.size) with hj | hj
     ·rw [List.getElem?_append_left (by omega)] at hu
      exact hc j u hu
     ·rw [List.getElem?_append_right (by omega), hfl] at hu
      simp only [List.flatten_cons,List.flatten_nil,List.append_nil] at hu
      have hjl:j - k*a.size < a.size:=by
       rcases Nat.lt_or_ge (j - k*a.size) c.length with h' | h'
       ·omega
       ·rw [List.getElem?_eq_none h'] at hu;cases hu
      have:=hat _ hjl
      rw [Go.Deep.add_add,hu] at this
      rwa [show k*a.size+(j - k*a.size)=j by omega] at this
  obtain ⟨vs,xs,hxl,hr,h64,hc⟩:=key len (Nat.le_refl _)
  refine ⟨xs,⟨some ad,cap,vs,by rw [hxl],by show xs.length≤cap;omega,hm,hr,fun h0=>?_⟩,fun x hx=>h64 x hx⟩
  have h0:0 < xs.length:=h0
  have hfl:vs.flatten.length=xs.length*a.size:=by rw [flat_len_of (hr.lens fun c x h=>a.rd_len h),hr.len]
  have hpos:0 < vs.flatten.length:=by rw [hfl];exact Nat.mul_pos h0 hp
  have hc0:=hc 0 _ (List.getElem?_eq_getElem hpos)
  obtain ⟨b,off,spot⟩:=ad
  have hspot:spot=none:=by simpa [Addr.add] using World.cell?_spot hc0
  subst hspot
  refine ⟨b,off,rfl,?_,fun j u hu=>by rw [← addr_add];exact hc j u hu⟩
  unfold World.cell? at hc0
  split at hc0
  ·rename_i hh
   exact heap_lt (by simpa [Addr.add] using hh)
  ·cases hc0
theorem ret_bool {dp:Bool} {w:World} {Z:Nat→Prop} {b:Bool} {e:Ending} {w':World} (h:RetR dp [.bool t] w Z (b,()) e w'):e=.returned (.bool b)∧Below w.heap.size w w':=by
 obtain ⟨us,F,rfl,hres,_,_,hbel⟩:=h
 match us,hres with
 | [u], hres =>
  obtain ⟨G,H,_,h1,h2,_⟩:=hres
  have hc:u.cells.toList=[.bool b]:=h1.1
  have h1c:=h2.2 rfl
  rw [cells_one h1c] at hc
  simp only [List.cons.injEq,and_true] at hc
  subst hc
  exact ⟨rfl,hbel⟩
theorem argRd_sl {a:Sh} {w:World} {Z:Nat→Prop} {A:Option Addr} {l c:Nat} {xs:List a.D} (h:(Sh.sl t a).rd w Z [.slice A l c] xs):argRd w Z (.sl t a) (.slice A l c) xs:=⟨h,fun h=>(by cases h),fun _=>rfl⟩
theorem calls_law {f:FuncId} {S:Sum} (h:FnOK P f S) (hk:(S.kinds.isEmpty && S.prim.isNone)=true):FnOK0 P f S:=by
 simp only [Bool.and_eq_true] at hk
 unfold FnOK at h
 rw [Option.isNone_iff_eq_none.1 hk.2] at h
 simp only at h
 rw [hk.1,cond_true] at h
 exact h
end
end Go.Proofs.Ytmcpigcpachdkaa
