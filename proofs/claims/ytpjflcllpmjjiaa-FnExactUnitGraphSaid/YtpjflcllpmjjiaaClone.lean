/- Contracts of slices.Clone at plain elements. -/
import Derived.Test.YtpjflcllpmjjiaaFlat
import Derived.Test.YtpjflcllpmjjiaaTEdge
import Derived.Test.YtpjflcllpmjjiaaTProof
namespace Go.Proofs.Ytpjflcllpmjjiaa
open Go.RowKit
set_option linter.unusedVariables false
set_option linter.unusedSimpArgs false
theorem flatProof : Flat rProof := fun _ _ _ _ _ h => by
  obtain ⟨rfl, a, b, c⟩ := rProof_rd.1 h
  exact rProof_ow.2 ⟨rfl, rfl, a, b, c⟩
theorem flatEdge : Flat rEdge := fun _ _ _ _ _ h => by
  obtain ⟨rfl, a, b, c⟩ := rEdge_rd.1 h
  exact rEdge_ow.2 ⟨rfl, rfl, a, b, c⟩
set_option maxHeartbeats 400000 in
theorem cloneProof_c (w : World) (v : Value) (xs : List DProof) (hv : rProofS.rd w w.heap.size [v] xs) (hz : xs.length ≤ 1099511627776) :
    Calls Try.prog 62 #[v] w (Ret rProofS w xs) := by
  obtain ⟨A, c, rfl, hc1, hc2⟩ := rd_slice hv
  have hnil := fun (w : World) (a : Option Addr) (n c : Nat) => Lib.run_eql_slice_nil (P := Try.prog) w 33 58 a n c 0 0 Try.underlying33
  rcases A with _ | ad
  · have hx : xs = [] := by
      obtain ⟨A', c', vs, e, _, _, _, h4⟩ := hv
      simp only [List.cons.injEq, Value.slice.injEq, and_true] at e
      cases xs with
      | nil => rfl
      | cons x xs => obtain ⟨b, off, h, _⟩ := h4 (by simp); rw [h] at e; cases e.1
    subst hx
    clear hv hc1 hc2
    go_enter Try.func62, Try.ntmps62
    go_wp2_with fail
    go_ret
    exact Ret.slice Own.none_ (Below.refl _ _)
  · have HV := Lib.hid hv
    clear hv hc1 hc2
    go_enter Try.func62, Try.ntmps62
    go_wp2_with (at_builtin; refine wpList_appendAll (R := rProof) (tt := 33) w _ elProofS rfl _ _ rfl w.heap.size _ 0 [] rfl (by exact World.ownsRow_made w #[] 0 (Nat.le_refl _) (by simp [maxLen]) rfl) w.heap.size _ xs rfl (by exact Rp.rd_below HV.out ((Below.refl _ _).alloc (Nat.le_refl _) _) (Nat.le_refl _)) rfl (by omega) ((Below.refl _ _).alloc (Nat.le_refl _) _) (Nat.le_refl _) ?_; intro v1 w1 vs hr ho hb _ _)
    go_ret
    exact Ret.slice (Own.of_flat flatProof ho (by omega) hr) hb
set_option maxHeartbeats 400000 in
theorem cloneEdge_c (w : World) (v : Value) (xs : List DEdge) (hv : rEdgeS.rd w w.heap.size [v] xs) (hz : xs.length ≤ 1099511627776) :
    Calls Try.prog 58 #[v] w (Ret rEdgeS w xs) := by
  obtain ⟨A, c, rfl, hc1, hc2⟩ := rd_slice hv
  have hnil := fun (w : World) (a : Option Addr) (n c : Nat) => Lib.run_eql_slice_nil (P := Try.prog) w 43 64 a n c 0 0 Try.underlying43
  rcases A with _ | ad
  · have hx : xs = [] := by
      obtain ⟨A', c', vs, e, _, _, _, h4⟩ := hv
      simp only [List.cons.injEq, Value.slice.injEq, and_true] at e
      cases xs with
      | nil => rfl
      | cons x xs => obtain ⟨b, off, h, _⟩ := h4 (by simp); rw [h] at e; cases e.1
    subst hx
    clear hv hc1 hc2
    go_enter Try.func58, Try.ntmps58
    go_wp2_with fail
    go_ret
    exact Ret.slice Own.none_ (Below.refl _ _)
  · have HV := Lib.hid hv
    clear hv hc1 hc2
    go_enter Try.func58, Try.ntmps58
    go_wp2_with (at_builtin; refine wpList_appendAll (R := rEdge) (tt := 43) w _ elEdgeS rfl _ _ rfl w.heap.size _ 0 [] rfl (by exact World.ownsRow_made w #[] 0 (Nat.le_refl _) (by simp [maxLen]) rfl) w.heap.size _ xs rfl (by exact Rp.rd_below HV.out ((Below.refl _ _).alloc (Nat.le_refl _) _) (Nat.le_refl _)) rfl (by omega) ((Below.refl _ _).alloc (Nat.le_refl _) _) (Nat.le_refl _) ?_; intro v1 w1 vs hr ho hb _ _)
    go_ret
    exact Ret.slice (Own.of_flat flatEdge ho (by omega) hr) hb
end Go.Proofs.Ytpjflcllpmjjiaa
