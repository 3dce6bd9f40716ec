/- Functions that move a cursor: their first argument is the address of a block whose slices are frozen; and functions that yield the address of a new such block. No program is named; no condition. -/
import Derived.Test.YtamibfjeldfphaaPZ
namespace Go.Proofs.Ytamibfjeldfphaa
open Go.RowKit
set_option linter.unusedVariables false
set_option linter.unusedSimpArgs false
structure BS where
 t:TypeId
 s:Sh
 dom:List Sh
 cod:List Sh
 pre:s.D→Dom dom→Prop
 upd:s.D→Dom dom→s.D
 g:s.D→Dom dom→Dom cod
 dp:Bool:=true
def BS.Ret (B:BS) (w:World) (Z:Nat→Prop) (b:Nat) (c:B.s.D) (x:Dom B.dom) (e:Ending) (w':World):Prop :=
 ∃ us vs F,e=.returned (tupV us)∧Bx w' b B.t vs∧B.s.rd w' (fun k=>Z k∨(w.heap.size≤k∧k < w'.heap.size∧k ∉ F)) vs (B.upd c x)∧resAll (fun k=>Z k∨(w.heap.size≤k∧k < w'.heap.size∧k ∉ F)) w' B.dp B.cod us (B.g c x) F∧F.Nodup∧(∀ k∈F,w.heap.size≤k∧k < w'.heap.size)∧SameBut [b] w w'
def BS.call (B:BS) (md:Md) (ps:List PV):RM Eff:=match ps with
 | .c (.ptr o k) :: ps => bif k.beq 0 then .obj o fun
  | .bx t cs => bif t.beq B.t then (rdC false B.s cs).bind fun c => (rdArgs false B.dom ps).bind fun x => .need (B.pre c x)
    (bif md.frz then .ret ⟨tupA (frzP B.cod (B.g c x)),[(o,some (.bx B.t (B.s.cvs false (B.upd c x))))]⟩ else (bif Nat.ble (cntP B.cod) md.ids.length then .ret ⟨tupA (resP B.dp B.cod (B.g c x) md.ids).1,(resP B.dp B.cod (B.g c x) md.ids).2++[(o,some (.bx B.t (B.s.cvs false (B.upd c x))))]⟩ else .fail)) else .fail
  | _=>.fail
  else .fail
 | _=>.fail
structure NS where
 t:TypeId
 s:Sh
 dom:List Sh
 pre:Dom dom→Prop
 g:Dom dom→s.D
def NS.Ret (B:NS) (w:World) (Z:Nat→Prop) (x:Dom B.dom) (e:Ending) (w':World):Prop :=
 ∃ b vs,e=.returned (.pointer (some ⟨b,0,none⟩))∧Bx w' b B.t vs∧B.s.rd w' (fun k=>Z k∨(w.heap.size≤k∧k < w'.heap.size∧k≠b)) vs (B.g x)∧w.heap.size≤b∧b < w'.heap.size∧Below w.heap.size w w'
def NS.call (B:NS) (md:Md) (ps:List PV):RM Eff :=
 newId md fun id=>(rdArgs false B.dom ps).bind fun x=>.need (B.pre x) (.ret ⟨.p (.c (.ptr id 0)),[(id,some (.bx B.t (B.s.cvs false (B.g x))))]⟩)
section
variable {P:Program} {w0:World} {Z0:Nat→Prop} {L:List Nat} {N:Nat} {K:List Nat} {σ:St} {a:Act} {w:World} {E:Env} {Z:Nat→Prop}
theorem RelE.cursor (h:RelE w0 Z0 L N K σ a w E Z) {o b:Nat} {t:TypeId} {cs cs':List CV} (hb:σ.obj o=some (.bx t cs)) (hfp:E.fp o=[b]) {w':World} (hs:SameBut [b] w w') {Z':Nat→Prop} (hZ:∀ k,Z k→Z' k) (hZn:∀ k,Z' k→Z k∨(w.heap.size≤k∧k < w'.heap.size))
  {t':TypeId} (hden:(Ob.bx t' cs').den E Z' w' (E.hdr o) (E.fp o)) (hi:cs'.flatMap CV.ids=[]):RelE w0 Z0 L N K (σ.add [(o,some (.bx t' cs'))]) a w' E Z' :=
 h.step (M:=fun m=>m=o) hs.1 hs.2.1 hs.2.2.1 hs.2.2.2.1 (fun k hk hnot=>hs.2.2.2.2 k hk fun hm=>hnot o _ hb rfl (by rw [hfp];exact hm)) (fun i hi=>hi) (fun i hi=>.inl hi) (fun i hi=>rfl) (fun _ _ _ _=>rfl) hZ
  (fun k hk=>by rcases hZn k hk with h' | h';exact .inl h';exact .inr ⟨h'.2,.inl h'.1⟩)
  (fun o' x' ho' => by
   rcases add_one ho' with ⟨rfl,rfl⟩ | ⟨h1,h2⟩
   ·right
    refine ⟨hden,h.nodup o' _ hb,⟨(h.oids o' _ hb).1,fun i hi'=>?_⟩,fun k hk=>?_⟩
    ·have : i ∈ cs'.flatMap CV.ids := hi'
     rw [hi] at this;simp at this
    ·have hf := h.free o' _ hb k hk
     refine ⟨Nat.lt_of_lt_of_le hf.1 hs.2.2.2.1,fun hz=>?_,.inr ⟨o',_,hb,rfl,hk⟩⟩
     rcases hZn k hz with h' | h'
     ·exact hf.2.1 h'
     ·have:=hf.1;omega
   ·left;exact ⟨h1,h2⟩)
  (fun o1 x1 o2 x2 h1 h2 hne hn1 hn2 => by
   have e1:o1=o:=by
    rcases add_one h1 with ⟨e,_⟩ | ⟨g1,g2⟩
    ·exact e
    ·exact absurd ⟨g1,g2⟩ hn1
   have e2:o2=o:=by
    rcases add_one h2 with ⟨e,_⟩ | ⟨g1,g2⟩
    ·exact e
    ·exact absurd ⟨g1,g2⟩ hn2
   exact absurd (e1.trans e2.symm) hne)
  h.defers h.size (fun t=>.inl ⟨rfl,rfl⟩)
def BS.inSt (B:BS) (v:Value) (c:B.s.D) (x:Dom B.dom):St:=⟨numA 0 (.c (.ptr 1 0)::frzP B.dom x),[(1,some (.bx B.t (B.s.cvs false c))),(2,some (.pin 1 v))]⟩
end
end Go.Proofs.Ytamibfjeldfphaa
