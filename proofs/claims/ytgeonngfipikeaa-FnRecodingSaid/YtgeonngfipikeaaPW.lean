/- Plain data: equality, sizes, marks. No program is named; no condition. -/
import Derived.Test.YtgeonngfipikeaaPS
namespace Go.Proofs.Ytgeonngfipikeaa
open Go.RowKit
set_option linter.unusedVariables false
set_option linter.unusedSimpArgs false
theorem notF {b:Bool} (h:(!b)=false):b=true:=by cases b<;>simp_all
theorem notT {b:Bool} (h:(!b)=true):b=false:=by cases b<;>simp_all
theorem neT {b:Bool} (h:b=false):¬ b=true:=by rw [h];decide
theorem ndT {p:Prop} [Decidable p] (h:p):(!decide p)=false:=by rw [decide_eq_true h];rfl
theorem ndF {p:Prop} [Decidable p] (h:¬ p):(!decide p)=true:=by rw [decide_eq_false h];rfl
section
variable {α:Type}
def copyTo (z:α) (xs:List α) (i:Nat):List α:=xs.take i++List.replicate (xs.length - i) z
theorem copyTo_len {z:α} {xs:List α} {i:Nat} (h:i≤xs.length):(copyTo z xs i).length=xs.length:=by simp [copyTo];omega
theorem copyTo_set {z:α} {xs:List α} {i:Nat} (h:i < xs.length):(copyTo z xs i).set i (xs.getD i z)=copyTo z xs (i+1):=by
 unfold copyTo
 rw [List.set_append_right _ _ (by simp;omega)]
 simp only [List.length_take,Nat.min_eq_left (Nat.le_of_lt h),Nat.sub_self]
 rw [show xs.length - i=xs.length - (i+1)+1 by omega,List.replicate_succ,List.set_cons_zero,List.take_succ_eq_append_getElem h,List.append_assoc,List.getD_eq_getElem?_getD,List.getElem?_eq_getElem h]
 rfl
theorem copyTo_zero {z:α} {xs:List α}:List.replicate xs.length z=copyTo z xs 0:=by simp [copyTo]
theorem copyTo_all {z:α} {xs:List α} {i:Nat} (h:xs.length≤i):copyTo z xs i=xs:=by simp [copyTo,List.take_of_length_le h,Nat.sub_eq_zero_of_le h]
theorem getD_of_lt {xs:List α} {i:Nat} {z:α} (h:i < xs.length):xs.getD i z=xs[i]:=by simp [List.getD,h]
theorem take_snoc {xs:List α} {i:Nat} {z:α} (h:i < xs.length):xs.take (i+1)=xs.take i++[xs.getD i z]:=by rw [List.take_succ_eq_append_getElem h,getD_of_lt h]
theorem getD_mem {xs:List α} {i:Nat} {z:α} (h:i < xs.length):xs.getD i z∈xs:=by rw [getD_of_lt h];exact List.getElem_mem h
theorem eqTo_step {z:α} {xs ys:List α} {i:Nat} (hl:xs.length=ys.length) (h:i < xs.length) (ht:xs.take i=ys.take i) (he:xs.getD i z=ys.getD i z):xs.take (i+1)=ys.take (i+1):=by
 rw [take_snoc (z:=z) h,take_snoc (z:=z) (hl ▸ h),ht,he]
theorem take_all {xs:List α} {i:Nat} (h:xs.length≤i):xs.take i=xs:=List.take_of_length_le h
def ctL (c:α→Nat):List α→Nat
 | []=>0
 | x::l=>c x+ctL c l
def mkL (f:α→Int→α) (c:α→Nat):Int→List α→List α
 | _,[]=>[]
 | k,x::l=>f x k::mkL f c (k+c x) l
def eqL (e:α→α→Bool):List α→List α→Bool
 | [],[]=>true
 | x::l,y::l'=>e x y && eqL e l l'
 | _,_=>false
theorem eqL_iff {e:α→α→Bool} (h:∀ x y,e x y=true↔x=y):∀ {xs ys:List α},eqL e xs ys=true↔xs=ys
 | [],[]=>by simp [eqL]
 | [],_::_=>by simp [eqL]
 | _::_,[]=>by simp [eqL]
 | x::l,y::l'=>by simp [eqL,h,eqL_iff h (xs:=l)]
end
def Sh.ct:(s:Sh)→s.D→Nat
 | .pair a b,x=>a.ct x.1+b.ct x.2
 | .st _ a,x=>a.ct x
 | .sl _ a,xs=>ctL a.ct xs
 | .fn0 _,_ | .fn _ _,_ | .pt _,_=>0
 | _,_=>1
def Sh.mk:(s:Sh)→s.D→Int→s.D
 | .int _,_,k=>k
 | .bool _,b,_=>b
 | .u8 _,_,k=>IntKind.u8.wrap k
 | .str _,b,_=>b
 | .pair a b,x,k=>(a.mk x.1 k,b.mk x.2 (k+a.ct x.1))
 | .st _ a,x,k=>a.mk x k
 | .sl _ a,xs,k=>mkL a.mk a.ct k xs
 | .fn0 _,x,_ | .fn _ _,x,_ | .pt _,x,_=>x
def Sh.sz:(s:Sh)→s.D→Nat
 | .pair a b,x=>a.sz x.1+b.sz x.2
 | .st _ a,x=>a.sz x
 | .sl _ a,xs=>List.length (α:=a.D) xs+ctL a.sz xs
 | _,_=>0
def Sh.mx:Sh→Nat
 | .pair a b=>a.mx+b.mx
 | .st _ a=>a.mx
 | .sl _ a=>a.mx
 | _=>1
def Sh.eqB:(s:Sh)→s.D→s.D→Bool
 | .int _,(x:Int),(y:Int)=>decide (x=y)
 | .bool _,(x:Bool),(y:Bool)=>decide (x=y)
 | .u8 _,(x:Int),(y:Int)=>decide (x=y)
 | .str _,(x:ByteArray),(y:ByteArray)=>decide (x=y)
 | .pair a b,x,y=>a.eqB x.1 y.1 && b.eqB x.2 y.2
 | .st _ a,x,y=>a.eqB x y
 | .sl _ a,xs,ys=>eqL a.eqB xs ys
 | .fn0 _,_,_=>true
 | .fn _ a,x,y=>a.eqB x y
 | .pt a,x,y=>a.eqB x y
theorem Sh.eqB_iff:∀ (s:Sh) {x y:s.D},s.eqB x y=true↔x=y
 | .int _,x,y=>by show decide ((x:Int)=y)=true↔_;exact decide_eq_true_iff
 | .bool _,x,y=>by show decide ((x:Bool)=y)=true↔_;exact decide_eq_true_iff
 | .u8 _,x,y=>by show decide ((x:Int)=y)=true↔_;exact decide_eq_true_iff
 | .str _,x,y=>by show decide ((x:ByteArray)=y)=true↔_;exact decide_eq_true_iff
 | .pair a b, (x1, x2), (y1, y2) => by
  show (a.eqB x1 y1 && b.eqB x2 y2)=true↔_
  rw [Bool.and_eq_true,a.eqB_iff,b.eqB_iff]
  exact ⟨fun h=>by rw [h.1,h.2],fun h=>by cases h;exact ⟨rfl,rfl⟩⟩
 | .st _ a,x,y=>a.eqB_iff
 | .sl _ a,xs,ys=>eqL_iff (fun _ _=>a.eqB_iff)
 | .fn0 _,x,y=>by simp [Sh.eqB]
 | .fn _ a,x,y=>a.eqB_iff
 | .pt a,x,y=>a.eqB_iff
theorem Sh.eqB_self (s:Sh) (x:s.D):s.eqB x x=true:=s.eqB_iff.2 rfl
theorem Sh.eqB_ne {s:Sh} {x y:s.D} (h:x≠y):s.eqB x y=false:=by
 cases he:s.eqB x y with
 | false=>rfl
 | true=>exact absurd (s.eqB_iff.1 he) h
theorem Sh.of_eqB {s:Sh} {x y:s.D} (h:s.eqB x y=true):x=y:=s.eqB_iff.1 h
def idD (s:Sh) (x:s.D):s.D:=x
def Sh.flatB:Sh→Bool
 | .pair a b=>a.flatB && b.flatB
 | .st _ a=>a.flatB
 | .sl _ _=>false
 | _=>true
theorem Sh.flat_sz:∀ (s:Sh),s.flatB=true→∀ x:s.D,s.sz x=0
 | .int _,_,_ | .bool _,_,_ | .u8 _,_,_ | .str _,_,_ | .fn0 _,_,_ | .fn _ _,_,_ | .pt _,_,_=>rfl
 | .pair a b, h, x => by
  simp only [Sh.flatB,Bool.and_eq_true] at h
  show a.sz x.1+b.sz x.2=0
  rw [a.flat_sz h.1,b.flat_sz h.2]
 | .st _ a,h,x=>a.flat_sz h x
 | .sl _ _,h,_=>by cases h
theorem sz_flat {t:TypeId} {a:Sh} (h:a.flatB=true) (xs:List a.D):(Sh.sl t a).sz xs=xs.length:=by
 show xs.length+ctL a.sz xs=xs.length
 have:∀ l:List a.D,ctL a.sz l=0:=fun l=>by
  induction l with
  | nil=>rfl
  | cons x l ih=>simp only [ctL,a.flat_sz h,ih]
 rw [this];rfl
end Go.Proofs.Ytgeonngfipikeaa
