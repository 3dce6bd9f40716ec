/- How an argument that came in reads as a Lean datum. No program is named. -/
import Derived.Test.YtpjflcllpmjjiaaBase
import Derived.ProofKit
import Derived.OpenShut
import Derived.ShutString
import Derived.ChangeOld
import Derived.ChangeSame
import Derived.Deep.Slices
import Derived.Carry
namespace Go.Proofs.Ytpjflcllpmjjiaa
open Go.RowKit Go.ChangeShapes Go.WideShapes Go.Deep

/-- whatever can be read at type t reads as a datum of R -/
def Opens {α : Type} (P : Program) (t : TypeId) (R : Rp α) : Prop :=
  ∀ {H : Type} {enc : TypeId × Value → H} {w : World} {base : Nat} {spare : Nat → Bool} {held : Bool} {fuel : Nat} {cs : List Value} {x : DataW H × List MemPlace},
    DataW.trod enc P w base spare held fuel t cs = some x → ∃ a, R.rd w w.heap.size cs a

section
variable {P : Program} {α β : Type} {t e t' : TypeId} {R : Rp α} {S : Rp β}

theorem opens_int (ht : P.underlying t = some (.int .i64)) : Opens P t (Rp.int t') := by
  intro H enc w base spare held fuel cs x h
  obtain ⟨n, rfl, _, hw⟩ := DataW.trod_int ht h
  exact ⟨n, rfl, by unfold I64; simpa [Lit.wf, IntKind.min, IntKind.max, IntKind.signed, IntKind.bits] using hw⟩

theorem addr_add (b off j : Nat) : (⟨b, off, none⟩ : Addr).add j = ⟨b, off + j, none⟩ := by
  unfold Addr.add
  split
  · rename_i h; rw [h]; rfl
  · rfl

theorem opens_slice (ht : P.underlying t = some (.slice e)) (hC : P.cellsOf e = R.size) (hp : 0 < R.size) (h : Opens P e R) : Opens P t (Rp.slice t' R) := by
  intro H enc w base spare held fuel cs x hx
  rcases open_slice ht hx with ⟨rfl, _⟩ | ⟨a, len, cap, m, n, D, Pl, rfl, hb, hl, hm, hmm, _, hi⟩
  · exact ⟨[], none, 0, [], rfl, Nat.le_refl _, by simp [maxLen], trivial, fun h => absurd h (by simp)⟩
  · have hml : len ≤ m := by rw [hmm]; split <;> omega
    have key : ∀ k, k ≤ len → ∃ vs xs, xs.length = k ∧ Rds R w w.heap.size vs xs ∧ ∀ j u, vs.flatten[j]? = some u → w.cell? (a.add j) = some u := by
      intro k
      induction k with
      | zero => intro _; exact ⟨[], [], rfl, trivial, by simp⟩
      | succ k ih =>
        intro hk
        obtain ⟨vs, xs, hxl, hr, hc⟩ := ih (by omega)
        obtain ⟨c, hcc, htr⟩ := hi k (by omega)
        obtain ⟨y, hy⟩ := h htr
        obtain ⟨_, hcl, hat⟩ := World.cells?_some hcc
        rw [hC] at hcl hat
        refine ⟨vs ++ [c], xs ++ [y], by simp [hxl], hr.snoc hy, fun j u hu => ?_⟩
        have hfl := hr.flat_len
        rw [hxl] at hfl
        rw [List.flatten_append] at hu
        rcases Nat.lt_or_ge j (k * R.size) with hj | hj
        · rw [List.getElem?_append_left (by omega)] at hu
          exact hc j u hu
        · rw [List.getElem?_append_right (by omega), hfl] at hu
          simp only [List.flatten_cons, List.flatten_nil, List.append_nil] at hu
          have hjl : j - k * R.size < R.size := by
            rcases Nat.lt_or_ge (j - k * R.size) c.length with h' | h'
            · omega
            · rw [List.getElem?_eq_none h'] at hu; cases hu
          have := hat _ hjl
          rw [Go.Deep.add_add, hu] at this
          rwa [show k * R.size + (j - k * R.size) = j by omega] at this
    obtain ⟨vs, xs, hxl, hr, hc⟩ := key len (Nat.le_refl _)
    refine ⟨xs, some a, cap, vs, by rw [hxl], by omega, hm, hr, fun h0 => ?_⟩
    have hfl := hr.flat_len
    have hpos : 0 < vs.flatten.length := by rw [hfl]; exact Nat.mul_pos h0 hp
    have hc0 := hc 0 _ (List.getElem?_eq_getElem hpos)
    obtain ⟨b, off, spot⟩ := a
    have hspot : spot = none := by simpa [Addr.add] using World.cell?_spot hc0
    subst hspot
    refine ⟨b, off, rfl, ?_, fun j u hu => by rw [← addr_add]; exact hc j u hu⟩
    unfold World.cell? at hc0
    split at hc0
    · rename_i hh
      exact heap_lt (by simpa [Addr.add] using hh)
    · cases hc0

/-- the fields of a struct, one behind the other -/
theorem rd_pair {w : World} {B off n : Nat} {cs : List Value} {a : α} {b : β} (h : R.rd w B ((cs.drop off).take n) a) (k : S.rd w B (cs.drop (off + n)) b) : (Rp.pair t R S).rd w B (cs.drop off) (a, b) :=
  ⟨_, _, by rw [← List.drop_drop, List.take_append_drop], h, k⟩
theorem rd_last {w : World} {B off n : Nat} {cs : List Value} {a : α} (h : R.rd w B ((cs.drop off).take n) a) (hl : cs.length ≤ off + n) : R.rd w B (cs.drop off) a := by
  rwa [List.take_of_length_le (by rw [List.length_drop]; omega)] at h

/-- one field -/
theorem opens_field {H : Type} {enc : TypeId × Value → H} {w : World} {base : Nat} {spare : Nat → Bool} {held : Bool} {cs : List Value} {fs : Array Field} {xs : List (DataW H × List MemPlace)} {n i : Nat} {f : Field} {t0 : TypeId} (off m : Nat)
    (hf : ∀ (i : Nat) (f : Field), fs[i]? = some f → DataW.trod enc P w base spare held n f.type ((cs.drop f.offset).take (P.cellsOf f.type)) = xs[i]?) (hl : xs.length = fs.size) (hi : fs[i]? = some f)
    (ht : f.type = t0) (ho : f.offset = off) (hC : P.cellsOf t0 = m) (h : Opens P t0 R) :
    ∃ a, R.rd w w.heap.size ((cs.drop off).take m) a := by
  subst ht; subst ho; subst hC
  have h1 := hf i f hi
  have hlt : i < xs.length := by rw [hl]; exact (Array.getElem?_eq_some_iff.1 hi).1
  rw [List.getElem?_eq_getElem hlt] at h1
  exact h h1
end
end Go.Proofs.Ytpjflcllpmjjiaa
