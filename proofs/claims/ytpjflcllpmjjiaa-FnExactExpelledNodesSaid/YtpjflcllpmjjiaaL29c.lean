/- Contracts of CountProofs, IsExpelled, ExpelledNodes. -/
import Derived.Test.YtpjflcllpmjjiaaL29b
import Derived.Test.YtpjflcllpmjjiaaBox
namespace Go.Proofs.Ytpjflcllpmjjiaa
open Go.RowKit
set_option linter.unusedVariables false
set_option linter.unusedSimpArgs false
def isNode (n : Int) (p : DProof) : Bool := p.Node == n
def countP (xs : List DProof) (n : Int) : Nat := (xs.filter (isNode n)).length
theorem countP_succ (xs : List DProof) (n : Int) {k : Nat} (h : k < xs.length) : countP (xs.take (k + 1)) n = countP (xs.take k) n + if isNode n xs[k] then 1 else 0 := by
  unfold countP
  rw [List.take_succ_eq_append_getElem h, List.filter_append, List.length_append]
  by_cases e : isNode n xs[k] = true <;> simp [List.filter_cons, e]
theorem countP_le (xs : List DProof) (n : Int) : countP xs n ≤ xs.length := List.length_filter_le _ _
def dIsExpelled (l : DLedger) (n : Int) : Bool := decide (2 ≤ countP l.Proofs n)
set_option maxHeartbeats 800000 in
theorem implCountProofs_c (w : World) (cs : List Value) (l : DLedger) (n : Int) (hv : rLedger.rd w w.heap.size cs l) (hz : szLedger l ≤ 1048576) :
    Calls Try.prog 61 #[.agg cs.toArray, .int .i64 n] w fun e w' => e = .returned (.int .i64 (countP l.Proofs n)) ∧ Below w.heap.size w w' := by
  obtain ⟨c0, rfl, k0⟩ := rLedger_rd.1 hv
  obtain ⟨A, c, rfl, hc1, hc2⟩ := rd_slice k0
  have hl : l.Proofs.length ≤ 1048576 := hz
  generalize l.Proofs = xs at *
  have HV := Lib.hid k0
  clear hv hz k0 hc2
  go_enter Try.func61, Try.ntmps61
  go_wp2_with fail
  go_loopw [5, 11] (fun t i wr => ∃ k : Nat, k ≤ xs.length ∧ i = .int .i64 k ∧ t = .int .i64 (countP (xs.take k) n : Nat) ∧ ∃ x : Ext (w.heap.size + 1) (w.alloc (.cells #[.slice A xs.length c] 35)), wr = x.val) (fun _ i _ => xs.length - (intOf i).toNat)
  case atStart => exact ⟨0, Nat.zero_le _, rfl, by simp [countP], Ext.here _ _, rfl⟩
  case round =>
    obtain ⟨k, hk, rfl, rfl, x, rfl⟩ := hrel
    have hx0 : x.val.cell? ⟨w.heap.size, 0, none⟩ = some (.slice A xs.length c) := by rw [x.cell (by simp)]; simp [go_sem]
    have hxs : w.heap.size < x.val.heap.size := by have := x.size; simp at this; omega
    have bx : Below w.heap.size w x.val := ((Below.refl _ _).alloc (Nat.le_refl _) _).trans (x.ok.mono (by omega))
    have hcp := countP_le (xs.take k) n
    have hcl : (xs.take k).length ≤ k := List.length_take_le _ _
    by_cases hlt : k < xs.length
    · obtain ⟨b, off, rfl, hb, hr, p0, p1, p2⟩ := ProofS_at HV.out hlt
      have HS := Lib.hid (countP_succ xs n hlt)
      have c0 := (bx.cell hb).trans p0
      have c1 := (bx.cell hb).trans p1
      have c2 := (bx.cell hb).trans p2
      have hx1 : b < x.val.heap.size := by omega
      clear p0 p1 p2 hr
      by_cases he : isNode n xs[k] = true
      · have he' : (xs[k].Node == n) = true := he
        have HE := Lib.hid he
        clear he
        go_wp2_with fail
        go_roundw
        case rel => exact ⟨k + 1, by omega, by go_num, congrArg (Value.int .i64) (by rw [HS.out, if_pos HE.out]; omega), x.step ((Below.refl _ _).alloc (by have := x.size; simp at this; omega) _)⟩
        case measure => simp [intOf]; omega
      · have he' : (xs[k].Node == n) = false := by simpa [isNode] using he
        have HE := Lib.hid he
        clear he
        go_wp2_with fail
        go_roundw
        case rel => exact ⟨k + 1, by omega, by go_num, congrArg (Value.int .i64) (by rw [HS.out, if_neg HE.out]; omega), x.step ((Below.refl _ _).alloc (by have := x.size; simp at this; omega) _)⟩
        case measure => simp [intOf]; omega
    · go_wp2_with fail
      go_ret
      exact ⟨by rw [List.take_of_length_le (by omega)]; rfl, bx⟩
set_option maxHeartbeats 800000 in
theorem specCountProofs_c (w : World) (cs : List Value) (l : DLedger) (n : Int) (hv : rLedger.rd w w.heap.size cs l) (hz : szLedger l ≤ 1048576) :
    Calls Try.prog 60 #[.agg cs.toArray, .int .i64 n] w fun e w' => e = .returned (.int .i64 (countP l.Proofs n)) ∧ Below w.heap.size w w' := by
  obtain ⟨c0, rfl, k0⟩ := rLedger_rd.1 hv
  obtain ⟨A, c, rfl, hc1, hc2⟩ := rd_slice k0
  have hl : l.Proofs.length ≤ 1048576 := hz
  generalize l.Proofs = xs at *
  have HV := Lib.hid k0
  clear hv hz k0 hc2
  go_enter Try.func60, Try.ntmps60
  go_wp2_with fail
  go_loopw [5, 6] (fun t i wr => ∃ k : Nat, k ≤ xs.length ∧ i = .int .i64 k ∧ t = .int .i64 (countP (xs.take k) n : Nat) ∧ ∃ x : Ext (w.heap.size + 1) (w.alloc (.cells #[.slice A xs.length c] 35)), wr = x.val) (fun _ i _ => xs.length - (intOf i).toNat)
  case atStart => exact ⟨0, Nat.zero_le _, rfl, by simp [countP], Ext.here _ _, rfl⟩
  case round =>
    obtain ⟨k, hk, rfl, rfl, x, rfl⟩ := hrel
    have hx0 : x.val.cell? ⟨w.heap.size, 0, none⟩ = some (.slice A xs.length c) := by rw [x.cell (by simp)]; simp [go_sem]
    have hxs : w.heap.size < x.val.heap.size := by have := x.size; simp at this; omega
    have bx : Below w.heap.size w x.val := ((Below.refl _ _).alloc (Nat.le_refl _) _).trans (x.ok.mono (by omega))
    have hcp := countP_le (xs.take k) n
    have hcl : (xs.take k).length ≤ k := List.length_take_le _ _
    by_cases hlt : k < xs.length
    · obtain ⟨b, off, rfl, hb, hr, p0, p1, p2⟩ := ProofS_at HV.out hlt
      have HS := Lib.hid (countP_succ xs n hlt)
      have c0 := (bx.cell hb).trans p0
      have c1 := (bx.cell hb).trans p1
      have c2 := (bx.cell hb).trans p2
      have hx1 : b < x.val.heap.size := by omega
      clear p0 p1 p2 hr
      by_cases he : isNode n xs[k] = true
      · have he' : (xs[k].Node == n) = true := he
        have HE := Lib.hid he
        clear he
        go_wp2_with fail
        go_roundw
        case rel => exact ⟨k + 1, by omega, by go_num, congrArg (Value.int .i64) (by rw [HS.out, if_pos HE.out]; omega), x.step (Below.refl _ _)⟩
        case measure => simp [intOf]; omega
      · have he' : (xs[k].Node == n) = false := by simpa [isNode] using he
        have HE := Lib.hid he
        clear he
        go_wp2_with fail
        go_roundw
        case rel => exact ⟨k + 1, by omega, by go_num, congrArg (Value.int .i64) (by rw [HS.out, if_neg HE.out]; omega), x.step (Below.refl _ _)⟩
        case measure => simp [intOf]; omega
    · go_wp2_with fail
      go_ret
      exact ⟨by rw [List.take_of_length_le (by omega)]; rfl, bx⟩
set_option maxHeartbeats 400000 in
theorem implIsExpelled_c (w : World) (cs : List Value) (l : DLedger) (n : Int) (hv : rLedger.rd w w.heap.size cs l) (hz : szLedger l ≤ 1048576) (b : Bool) (hb : dIsExpelled l n = b) :
    Calls Try.prog 49 #[.agg cs.toArray, .int .i64 n] w fun e w' => e = .returned (.bool b) ∧ Below w.heap.size w w' := by
  have hv' := hv
  obtain ⟨c0, rfl, k0⟩ := rLedger_rd.1 hv
  obtain ⟨A, c, rfl, hc1, hc2⟩ := rd_slice k0
  have hd : decide (2 ≤ countP l.Proofs n) = b := hb
  clear hv k0 hc1 hc2 hb
  go_enter Try.func49, Try.ntmps49
  go_wp2_with fail
  refine (implCountProofs_c _ _ l n (rd_now hv' (by repeat (first | exact Below.refl _ _ | exact bt | exact bt1 | exact bt2 | exact bt3 | exact bt4 | refine Below.alloc ?_ (by first | omega | (simp; done) | (simp; omega)) _ | refine Below.setCell ?_ (by first | omega | (simp; done) | (simp; omega)) _))) hz).mono ?_
  rintro e w1 ⟨rfl, b1⟩
  have bt := below_call (w := w) (by repeat (first | exact Below.refl _ _ | exact bt | exact bt1 | exact bt2 | exact bt3 | exact bt4 | refine Below.alloc ?_ (by first | omega | (simp; done) | (simp; omega)) _ | refine Below.setCell ?_ (by first | omega | (simp; done) | (simp; omega)) _)) b1
  generalize countP l.Proofs n = r at *
  go_wp2_with fail
  go_ret
  exact ⟨ret_bool (by rw [← hd, Bool.eq_iff_iff]; simp; omega), bt⟩
set_option maxHeartbeats 400000 in
theorem specIsExpelled_c (w : World) (cs : List Value) (l : DLedger) (n : Int) (hv : rLedger.rd w w.heap.size cs l) (hz : szLedger l ≤ 1048576) (b : Bool) (hb : dIsExpelled l n = b) :
    Calls Try.prog 48 #[.agg cs.toArray, .int .i64 n] w fun e w' => e = .returned (.bool b) ∧ Below w.heap.size w w' := by
  have hv' := hv
  obtain ⟨c0, rfl, k0⟩ := rLedger_rd.1 hv
  obtain ⟨A, c, rfl, hc1, hc2⟩ := rd_slice k0
  have hd : decide (2 ≤ countP l.Proofs n) = b := hb
  clear hv k0 hc1 hc2 hb
  go_enter Try.func48, Try.ntmps48
  go_wp2_with fail
  refine (specCountProofs_c _ _ l n (rd_now hv' (by repeat (first | exact Below.refl _ _ | exact bt | exact bt1 | exact bt2 | exact bt3 | exact bt4 | refine Below.alloc ?_ (by first | omega | (simp; done) | (simp; omega)) _ | refine Below.setCell ?_ (by first | omega | (simp; done) | (simp; omega)) _))) hz).mono ?_
  rintro e w1 ⟨rfl, b1⟩
  have bt := below_call (w := w) (by repeat (first | exact Below.refl _ _ | exact bt | exact bt1 | exact bt2 | exact bt3 | exact bt4 | refine Below.alloc ?_ (by first | omega | (simp; done) | (simp; omega)) _ | refine Below.setCell ?_ (by first | omega | (simp; done) | (simp; omega)) _)) b1
  generalize countP l.Proofs n = r at *
  go_wp2_with fail
  go_ret
  exact ⟨ret_bool (by rw [← hd, Bool.eq_iff_iff]; simp; omega), bt⟩
end Go.Proofs.Ytpjflcllpmjjiaa
