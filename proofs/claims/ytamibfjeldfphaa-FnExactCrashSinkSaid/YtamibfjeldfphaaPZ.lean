/- slices.Insert and slices.Delete, over any type of elements: what they leave in memory, out of the roads through their code. No program is named; no condition. -/
import Derived.Test.YtamibfjeldfphaaPY
import Derived.Lib.AppendZerosOnto
import Derived.Lib.Overlaps
import Derived.Laws.Externs
import Derived.Laws.CopyRow
import Derived.Laws.IdiomCopy
import Derived.Shelf.RegionOpenPlain
import Derived.Lib.Walk
import Derived.Lib.SliceRun
namespace Go.Proofs.Ytamibfjeldfphaa
open Go.RowKit
set_option linter.unusedVariables false
set_option linter.unusedSimpArgs false
variable {P:Program}
structure InsRoads (P:Program) (f t tI k:Nat):Prop where
 r1:∀ (w:World) (A:Option Addr) (n c gu m cu:Nat),0 < m→n≤c→c≤9223372036854775807→(A=none→c=0)→∀ (v':Value) (w':World),(∀ ty,(Builtin.append_ #[t,t] ty #[.slice A n c,.slice (some ⟨gu,0,none⟩) m cu]).run P w=.ok v' w') →
  Calls P f #[.slice A n c,.int .i64 n,.slice (some ⟨gu,0,none⟩) m cu] w fun e w''=>e=.returned v'∧w''=w'
 r2:∀ (w:World) (g n c i gu m cu W C:Nat),0 < m→i < n→n≤c→c < n+m→n+m≤9223372036854775807→n+m≤C→∀ (w1 w2 w3:World) (x1 x2:Value),
  (∀ ty,(Builtin.append_ #[t,tI] ty #[.slice (some ⟨g,0,none⟩) i c,.int .i64 ((n:Int)+(m:Int) - (i:Int))]).run P w=.ok (.slice (some ⟨W,0,none⟩) (n+m) C) w1) →
  (∀ ty,(Builtin.copy_ #[t,t] ty #[.slice (some ⟨W,i*k,none⟩) (n+m - i) (C - i),.slice (some ⟨gu,0,none⟩) m cu]).run P w1=.ok x1 w2) →
  (∀ ty,(Builtin.copy_ #[t,t] ty #[.slice (some ⟨W,(i+m)*k,none⟩) (n+m - (i+m)) (C - (i+m)),.slice (some ⟨g,i*k,none⟩) (n - i) (c - i)]).run P w2.drew=.ok x2 w3) →
  Calls P f #[.slice (some ⟨g,0,none⟩) n c,.int .i64 i,.slice (some ⟨gu,0,none⟩) m cu] w fun e w''=>e=.returned (.slice (some ⟨W,0,none⟩) (n+m) C)∧w''=w3
 r3:∀ (w:World) (g n c i gu m cu:Nat),0 < m→i < n→n+m≤c→c≤9223372036854775807→gu≠g→∀ (tA tB:TypeId) (kA kB:Nat),w.shape? gu=some (tA,kA)→w.shape? g=some (tB,kB)→kB≠0→w.frozen? ⟨gu,0,none⟩=false→w.frozen? ⟨gu,kA,none⟩=false →
  ∀ (w1 w2:World) (x1 x2:Value),
  (∀ ty,(Builtin.copy_ #[t,t] ty #[.slice (some ⟨g,(i+m)*k,none⟩) (n+m - (i+m)) (c - (i+m)),.slice (some ⟨g,i*k,none⟩) (n+m - i) (c - i)]).run P w.drew=.ok x1 w1) →
  (∀ ty,(Builtin.copy_ #[t,t] ty #[.slice (some ⟨g,i*k,none⟩) (n+m - i) (c - i),.slice (some ⟨gu,0,none⟩) m cu]).run P w1=.ok x2 w2) →
  Calls P f #[.slice (some ⟨g,0,none⟩) n c,.int .i64 i,.slice (some ⟨gu,0,none⟩) m cu] w fun e w''=>e=.returned (.slice (some ⟨g,0,none⟩) (n+m) c)∧w''=w2
structure DelRoads (P:Program) (f t k:Nat):Prop where
 r1:∀ (w:World) (A:Option Addr) (n c i:Nat),i≤n→n≤c→c≤9223372036854775807→Calls P f #[.slice A n c,.int .i64 i,.int .i64 i] w fun e w''=>e=.returned (.slice A n c)∧w''=w
 r2:∀ (w:World) (g n c i j:Nat),i < j→j≤n→n≤c→c≤9223372036854775807→∀ (w1 w2:World) (x2:Value),
  (∀ ty,(Builtin.append_ #[t,t] ty #[.slice (some ⟨g,0,none⟩) i c,.slice (if c=j then some ⟨g,0,none⟩ else some ⟨g,j*k,none⟩) (n - j) (c - j)]).run P w.drew=.ok (.slice (some ⟨g,0,none⟩) (i+(n - j)) c) w1) →
  (∀ ty,(Builtin.clear_ #[t] ty #[.slice (some ⟨g,(i+(n - j))*k,none⟩) (n - (i+(n - j))) (c - (i+(n - j)))]).run P w1=.ok x2 w2) →
  Calls P f #[.slice (some ⟨g,0,none⟩) n c,.int .i64 i,.int .i64 j] w fun e w''=>e=.returned (.slice (some ⟨g,0,none⟩) (i+(n - j)) c)∧w''=w2
theorem Ow2.one {w:World} {s:Sh}:∀ {vs:List (List Value)} {xs:List s.D} {Fs:List (List Nat)},Ow2 (s.ow w) vs xs Fs→∀ u∈vs.flatten,u.oneCell'=true
 | [],[],[],_,u,hu=>by simp at hu
 | _ :: _, _ :: _, _ :: _, h, u, hu => by
  rcases List.mem_append.1 hu with hu | hu
  ·exact s.ow_one h.1 u hu
  ·exact Ow2.one h.2 u hu
end Go.Proofs.Ytamibfjeldfphaa
