/- An element of a deep row, opened and shut again; tests on nil. No program is named; no condition. -/
import Derived.Test.YtmcpigcpachdkaaPR
namespace Go.Proofs.Ytmcpigcpachdkaa
open Go.RowKit
set_option linter.unusedVariables false
set_option linter.unusedSimpArgs false
section
variable {P:Program} {w0:World} {Z0:Nat→Prop} {L:List Nat} {N:Nat} {K:List Nat} {σ σ':St} {a:Act} {w:World} {Z:Nat→Prop} {E:Env} {Q:Exit→Act→World→Prop}
theorem at_nil {c:Nat} {x y:Code} (n:Nat) (h:At w0 Z0 L N σ a w) (hc:σ.tmp c=.p (.c (.nb n))) (ht:n=0→x.wp P Q a w) (hf:y.wp P Q a w):(Code.cond (.tmp c) x y).wp P Q a w:=by
 obtain ⟨E,Z,h⟩:=h
 have h1:=h.tmp c
 rw [hc] at h1
 obtain ⟨b,hb,hn⟩:=h1
 exact wp_cond_split (t:=b) hb (fun e=>ht (hn e)) (fun _=>hf)
end
end Go.Proofs.Ytmcpigcpachdkaa
