/- Data of a fit size: no list in it is longer than 2^30. No program is named; no condition. -/
import Derived.Test.YtmcpigcpachdkaaPX
namespace Go.Proofs.Ytmcpigcpachdkaa
open Go.RowKit
set_option linter.unusedVariables false
set_option linter.unusedSimpArgs false
def Sh.fit:(s:Sh)→s.D→Prop
 | .int _,_=>True
 | .bool _,_=>True
 | .u8 _,_=>True
 | .str _,_=>True
 | .pair a b,x=>a.fit x.1∧b.fit x.2
 | .st _ a,x=>a.fit x
 | .sl _ a,xs=>List.length (α:=a.D) xs≤1073741824∧∀ x:a.D,List.Mem x xs→a.fit x
 | .fn0 _,_=>True
 | .fn _ a,x=>a.fit x
 | .pt a,x=>a.fit x
theorem Sh.fit_flat:∀ (s:Sh),s.plain=true→∀ x:s.D,s.fit x
 | .int _,_,_ | .bool _,_,_ | .u8 _,_,_ | .str _,_,_=>trivial
 | .pair a b, h, x => by
  simp only [Sh.plain,Bool.and_eq_true] at h
  exact ⟨a.fit_flat h.1 x.1,b.fit_flat h.2 x.2⟩
 | .st _ a,h,x=>a.fit_flat h x
 | .fn _ _,h,_ | .fn0 _,h,_ | .pt _,h,_ | .sl _ _,h,_=>by cases h
theorem Sh.fit_len {t:Nat} {s:Sh} (hs:s.plain=true) {xs:List s.D} (h:xs.length≤1073741824):(Sh.sl t s).fit xs:=⟨h,fun x _=>s.fit_flat hs x⟩
theorem mul_f (a b:Int):(0≤a∧a≤2147483647∧0≤b∧b≤2147483647)→(0≤a*b∧a*b≤4611686014132420609∧(a≤2039∧b≤2039→a*b≤4157521)):=fun ⟨h1,h2,h3,h4⟩ =>
 ⟨Int.mul_nonneg h1 h3,by have:=Int.mul_le_mul h2 h4 h3 (by omega);omega,fun ⟨h5,h6⟩=>by have:=Int.mul_le_mul h5 h6 h3 (by omega);omega⟩
end Go.Proofs.Ytmcpigcpachdkaa
