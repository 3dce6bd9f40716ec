/- Contracts of the laws' helpers on Ledger. Printed by types.py. -/
import Derived.Test.YtpjflcllpmjjiaaTProof
namespace Go.Proofs.Ytpjflcllpmjjiaa
open Go.RowKit
set_option linter.unusedVariables false
set_option linter.unusedSimpArgs false
structure DLedger where
  Proofs : (List DProof)
def rLedger : Rp DLedger := Rp.as 35 true rProofS (fun x => x.Proofs)
theorem rLedger_rd {w : World} {B : Nat} {cs : List Value} {x : DLedger} : rLedger.rd w B cs x ↔ ∃ c0, cs = [c0] ∧ rProofS.rd w B [c0] x.Proofs := by
  constructor
  · rintro k0
    obtain ⟨c0, rfl⟩ := rd_one_cell (t := 33) k0
    exact ⟨c0, rfl, k0⟩
  · rintro ⟨c0, rfl, k0⟩
    exact k0
theorem rLedger_ow {w : World} {cs : List Value} {x : DLedger} {F : List Nat} : rLedger.ow w cs x F ↔ ∃ c0 G0, cs = [c0] ∧ F = G0 ∧ rProofS.ow w [c0] x.Proofs G0 := by
  constructor
  · intro k0
    obtain ⟨c0, rfl⟩ := ow_one_cell (t := 33) k0
    exact ⟨c0, _, rfl, rfl, k0⟩
  · rintro ⟨c0, G0, rfl, rfl, k0⟩
    exact k0
theorem rLedger_own {B : Nat} {w : World} {cs : List Value} {x : DLedger} {F : List Nat} : Own rLedger B w cs x F ↔ ∃ c0 G0, cs = [c0] ∧ F = G0 ∧ Own rProofS B w [c0] x.Proofs G0 := by
  constructor
  · rintro ⟨h, hn, hB⟩
    obtain ⟨c0, G0, rfl, rfl, k0⟩ := rLedger_ow.1 h
    try simp only [List.nodup_append, List.mem_append, List.append_nil, List.nil_append, List.nodup_nil, List.not_mem_nil, or_false, false_or, ne_eq, true_and, and_true, false_imp_iff, implies_true] at hn hB
    exact ⟨c0, _, rfl, rfl, ⟨k0, hn, hB⟩⟩
  · rintro ⟨c0, G0, rfl, rfl, k0⟩
    refine ⟨rLedger_ow.2 ⟨c0, _, rfl, rfl, k0.1⟩, ?_, ?_⟩
    · try simp only [List.nodup_append, List.mem_append, List.append_nil, List.nil_append, List.nodup_nil, List.not_mem_nil, or_false, false_or, ne_eq, true_and, and_true, false_imp_iff, implies_true]
      exact k0.2.1
    · try simp only [List.mem_append, List.append_nil, List.nil_append, List.not_mem_nil, or_false, false_or]
      intro b hb
      exact k0.2.2 b hb
def szLedger (x : DLedger) : Nat := szProofS x.Proofs
def mkLedger : Mk DLedger := ⟨fun x k => ⟨(Mk.list mkProof).f x.Proofs (k)⟩, fun x => (Mk.list mkProof).n x.Proofs⟩
def mvLedger : Mk DLedger := ⟨fun x k => ⟨(Mk.list mkProof).f x.Proofs (k)⟩, fun x => (Mk.list mkProof).n x.Proofs⟩
theorem mkLedger_le (x : DLedger) : mkLedger.n x ≤ 8 * szLedger x := by
  have := cntProofS_le x.Proofs
  simp only [mkLedger, Mk.int, Mk.val, szLedger]
  first | omega | (simp; done) | (simp; omega)
theorem mvLedger_le (x : DLedger) : mvLedger.n x ≤ 8 * szLedger x := by
  have := cntProofS_le x.Proofs
  simp only [mvLedger, Mk.int, Mk.val, szLedger]
  first | omega | (simp; done) | (simp; omega)

theorem cells_Ledger : Try.prog.cellsOf 30 = 1 := by kernel_rfl
theorem cells_Ledger_Proofs : Try.prog.cellsOf 28 = 1 := by kernel_rfl
theorem opensLedger : Opens Try.prog 30 rLedger := by
  intro H enc w base spare held fuel cs x h
  obtain ⟨xs, n, _, _, hl, hlen, hf⟩ := DataW.trod_struct Try.underlying30 h
  obtain ⟨a0, k0⟩ := opens_field (R := rProofS) (i := 0) 0 1 hf hlen rfl rfl rfl cells_Ledger_Proofs opensProofS
  rw [cells_Ledger] at hl
  exact ⟨⟨a0⟩, rd_last (off := 0) k0 (by omega)⟩
set_option maxHeartbeats 400000 in
theorem toLedger_c (w : World) (cs : List Value) (x : DLedger) (hv : rLedger.rd w w.heap.size cs x) (hz : szLedger x ≤ 1048576) : Calls Try.prog 19 #[.agg cs.toArray] w (Ret rLedger w x) := by
  obtain ⟨c0, rfl, k0⟩ := rLedger_rd.1 hv
  clear hv
  unfold szLedger at hz
  go_enter Try.func19, Try.ntmps19
  go_wp2_with fail
  refine (toProofS_c _ _ _ (rd_now k0 (by repeat (first | exact Below.refl _ _ | exact bt | exact bt1 | exact bt2 | exact bt3 | exact bt4 | refine Below.alloc ?_ (by first | omega | (simp; done) | (simp; omega)) _ | refine Below.setCell ?_ (by first | omega | (simp; done) | (simp; omega)) _))) (by omega)).mono ?_
  intro e w1 h1
  obtain ⟨v1, H1, rfl, o1, b1⟩ := h1.slice_of
  obtain ⟨A1, cp1, rfl, _, _⟩ := rd_slice o1.rd
  clear h1
  have bt1 : Below w.heap.size w w1 := below_call (by repeat (first | exact Below.refl _ _ | exact bt | exact bt1 | exact bt2 | exact bt3 | exact bt4 | refine Below.alloc ?_ (by first | omega | (simp; done) | (simp; omega)) _ | refine Below.setCell ?_ (by first | omega | (simp; done) | (simp; omega)) _)) b1
  have q1 := o1.drop (B' := w.heap.size + 3) (by first | omega | (simp; done) | (simp; omega))
  have s1 : w.heap.size ≤ w1.heap.size := by have := b1.size; first | omega | (simp at this; omega)
  have s0 : w.heap.size + 2 < w1.heap.size := by have := b1.size; simp at this; omega
  obtain ⟨hc1, hf1⟩ := bcell b1
  go_wp2_with fail
  refine bodyPost_ret (v := .agg #[.slice A1 x.Proofs.length cp1]) (by simp [results, Try.results19, go_sem, hc1]) rfl ?_
  exact ⟨_, _, rfl, ((q1.high (by repeat (first | exact High.refl _ _ | exact hi1 | exact hi2 | exact hi3 | exact hi4 | refine High.alloc ?_ _ | refine High.setCell ?_ (by first | omega | (simp; done) | (simp; omega)) _))).drop (B' := w.heap.size) (by omega)), (by repeat (first | exact Below.refl _ _ | exact bt | exact bt1 | exact bt2 | exact bt3 | exact bt4 | refine Below.alloc ?_ (by first | omega | (simp; done) | (simp; omega)) _ | refine Below.setCell ?_ (by first | omega | (simp; done) | (simp; omega)) _))⟩
set_option maxHeartbeats 400000 in
theorem eqLedger_c (w : World) (cs ds : List Value) (x : DLedger) (hv : rLedger.rd w w.heap.size cs x) (hu : rLedger.rd w w.heap.size ds x) : Calls Try.prog 21 #[.agg cs.toArray, .agg ds.toArray] w fun e w' => e = .returned (.bool true) ∧ Below w.heap.size w w' := by
  obtain ⟨c0, rfl, k0⟩ := rLedger_rd.1 hv
  obtain ⟨d0, rfl, m0⟩ := rLedger_rd.1 hu
  clear hv hu
  go_enter Try.func21, Try.ntmps21
  go_wp2_with fail
  refine (eqProofS_c _ _ _ _ (rd_now k0 (by repeat (first | exact Below.refl _ _ | exact bt | exact bt1 | exact bt2 | exact bt3 | exact bt4 | refine Below.alloc ?_ (by first | omega | (simp; done) | (simp; omega)) _ | refine Below.setCell ?_ (by first | omega | (simp; done) | (simp; omega)) _))) (rd_now m0 (by repeat (first | exact Below.refl _ _ | exact bt | exact bt1 | exact bt2 | exact bt3 | exact bt4 | refine Below.alloc ?_ (by first | omega | (simp; done) | (simp; omega)) _ | refine Below.setCell ?_ (by first | omega | (simp; done) | (simp; omega)) _)))).mono ?_
  rintro e w1 ⟨rfl, b1⟩
  have bt1 : Below w.heap.size w w1 := below_call (by repeat (first | exact Below.refl _ _ | exact bt | exact bt1 | exact bt2 | exact bt3 | exact bt4 | refine Below.alloc ?_ (by first | omega | (simp; done) | (simp; omega)) _ | refine Below.setCell ?_ (by first | omega | (simp; done) | (simp; omega)) _)) b1
  have s1 := b1.size
  simp at s1
  obtain ⟨hc1, hf1⟩ := bcell b1
  go_wp2_with fail
  go_ret
  exact ⟨rfl, (by repeat (first | exact Below.refl _ _ | exact bt | exact bt1 | exact bt2 | exact bt3 | exact bt4 | refine Below.alloc ?_ (by first | omega | (simp; done) | (simp; omega)) _ | refine Below.setCell ?_ (by first | omega | (simp; done) | (simp; omega)) _))⟩
set_option maxHeartbeats 800000 in
theorem szLedger_c (w : World) (cs : List Value) (x : DLedger) (left : Int) (hv : rLedger.rd w w.heap.size cs x) (h0 : 0 ≤ left) (h1 : left ≤ 1048576) : Calls Try.prog 17 #[.agg cs.toArray, .int .i64 left] w fun e w' => e = .returned (.int .i64 (lessBy left (szLedger x))) ∧ Below w.heap.size w w' := by
  obtain ⟨c0, rfl, k0⟩ := rLedger_rd.1 hv
  clear hv
  by_cases a0 : (szProofS x.Proofs : Int) ≤ left
  case neg =>
    go_enter Try.func17, Try.ntmps17
    go_wp2_with fail
    refine (szProofS_c _ _ _ _ (rd_now k0 (by repeat (first | exact Below.refl _ _ | exact bt | exact bt1 | exact bt2 | exact bt3 | exact bt4 | refine Below.alloc ?_ (by first | omega | (simp; done) | (simp; omega)) _ | refine Below.setCell ?_ (by first | omega | (simp; done) | (simp; omega)) _))) (by omega) (by omega)).mono ?_
    rintro e w1 ⟨rfl, b1⟩
    have bt1 : Below w.heap.size w w1 := below_call (by repeat (first | exact Below.refl _ _ | exact bt | exact bt1 | exact bt2 | exact bt3 | exact bt4 | refine Below.alloc ?_ (by first | omega | (simp; done) | (simp; omega)) _ | refine Below.setCell ?_ (by first | omega | (simp; done) | (simp; omega)) _)) b1
    obtain ⟨hc1, hf1⟩ := bcell b1
    have s1 := b1.size
    simp at s1
    rw [lessBy_no (by omega)]
    go_wp2_with fail
    go_ret
    unfold szLedger
    exact ⟨by rw [lessBy_no (by omega)]; rfl, (by repeat (first | exact Below.refl _ _ | exact bt | exact bt1 | exact bt2 | exact bt3 | exact bt4 | refine Below.alloc ?_ (by first | omega | (simp; done) | (simp; omega)) _ | refine Below.setCell ?_ (by first | omega | (simp; done) | (simp; omega)) _))⟩
  go_enter Try.func17, Try.ntmps17
  go_wp2_with fail
  refine (szProofS_c _ _ _ _ (rd_now k0 (by repeat (first | exact Below.refl _ _ | exact bt | exact bt1 | exact bt2 | exact bt3 | exact bt4 | refine Below.alloc ?_ (by first | omega | (simp; done) | (simp; omega)) _ | refine Below.setCell ?_ (by first | omega | (simp; done) | (simp; omega)) _))) (by omega) (by omega)).mono ?_
  rintro e w1 ⟨rfl, b1⟩
  have bt1 : Below w.heap.size w w1 := below_call (by repeat (first | exact Below.refl _ _ | exact bt | exact bt1 | exact bt2 | exact bt3 | exact bt4 | refine Below.alloc ?_ (by first | omega | (simp; done) | (simp; omega)) _ | refine Below.setCell ?_ (by first | omega | (simp; done) | (simp; omega)) _)) b1
  obtain ⟨hc1, hf1⟩ := bcell b1
  have s1 := b1.size
  simp at s1
  rw [lessBy_ok (by omega)]
  go_wp2_with fail
  go_ret
  unfold szLedger
  exact ⟨by rw [lessBy_ok (by omega)]; exact ret_int (by first | rfl | (simp; omega) | omega), (by repeat (first | exact Below.refl _ _ | exact bt | exact bt1 | exact bt2 | exact bt3 | exact bt4 | refine Below.alloc ?_ (by first | omega | (simp; done) | (simp; omega)) _ | refine Below.setCell ?_ (by first | omega | (simp; done) | (simp; omega)) _))⟩
set_option maxHeartbeats 800000 in
theorem markLedger_c (w : World) (cs : List Value) (x : DLedger) (B : Nat) (F : List Nat) (m : Int) (ho : Own rLedger B w cs x F) (hn : mvLedger.n x ≤ 1152921504606846976) (hm0 : 0 ≤ m) (hm1 : m + mvLedger.n x ≤ 1152921504606846976) :
    Calls Try.prog 31 #[.agg cs.toArray, .int .i64 m] w fun e w' => e = .returned (.int .i64 (m + mvLedger.n x)) ∧ Own rLedger B w' cs (mvLedger.f x m) F ∧ SameBut F w w' := by
  obtain ⟨c0, G0, rfl, rfl, o0⟩ := rLedger_own.1 ho
  clear ho
  have hsum : mvLedger.n x = (Mk.list mkProof).n x.Proofs := by simp [mvLedger, Mk.val]
  rw [hsum] at hn hm1
  have HS := Lib.hid hsum
  clear hsum
  go_enter Try.func31, Try.ntmps31
  have p0 := o0.alloc (.cells #[c0] 35)
  have sb := (SameBut.refl (F) w).alloc (.cells #[c0] 35)
  have l0 : ∀ b ∈ F, b < w.heap.size := o0.lt
  go_wp2_with fail
  refine (markProofS_c _ _ _ _ _ _ p0 (by omega) (by omega) (by omega)).mono ?_
  rintro e w1 ⟨rfl, p0, e1⟩
  have sb := sb.trans (e1.more (by intro b hb; simp [hb]))
  have hc1 : ∀ o, w1.cell? ⟨w.heap.size, o, none⟩ = (w.alloc (.cells #[c0] 35)).cell? ⟨w.heap.size, o, none⟩ := fun o => (World.cell?_of_block (w := (w.alloc (.cells #[c0] 35))) (e1.2.2.2.2 w.heap.size (by first | omega | (simp; done) | (simp; omega)) (fun hb => by have := l0 _ hb; omega)))
  have s1 := e1.size
  simp at s1
  go_wp2_with fail
  go_ret
  refine ⟨by rw [HS.out]; exact ret_int (by first | rfl | (simp; done) | (simp; omega) | omega), ?_, sb⟩
  refine rLedger_own.2 ⟨c0, F, rfl, rfl, ?_⟩
  · simpa [mvLedger, Mk.val, Int.add_assoc] using p0
set_option maxHeartbeats 800000 in
theorem heldLedger_c (w : World) (cs : List Value) (x : DLedger) (m : Int) (hv : rLedger.rd w w.heap.size cs (mvLedger.f x m)) (hm0 : 0 ≤ m) (hm1 : m + mvLedger.n x ≤ 1152921504606846976) :
    Calls Try.prog 34 #[.agg cs.toArray, .int .i64 m] w fun e w' => e = .returned (.int .i64 (m + mvLedger.n x)) ∧ Below w.heap.size w w' := by
  obtain ⟨c0, rfl, k0⟩ := rLedger_rd.1 hv
  clear hv
  have hsum : mvLedger.n x = (Mk.list mkProof).n x.Proofs := by simp [mvLedger, Mk.val]
  rw [hsum] at hm1
  have HS := Lib.hid hsum
  clear hsum
  have K0 : rProofS.rd w w.heap.size [c0] ((Mk.list mkProof).f x.Proofs (m)) := by simpa [mvLedger, Mk.val, Int.add_assoc] using k0
  simp only [mvLedger, Mk.val]
  clear k0
  go_enter Try.func34, Try.ntmps34
  go_wp2_with fail
  refine (heldProofS_c _ _ _ _ (rd_now K0 (by repeat (first | exact Below.refl _ _ | exact bt | exact bt1 | exact bt2 | exact bt3 | exact bt4 | refine Below.alloc ?_ (by first | omega | (simp; done) | (simp; omega)) _ | refine Below.setCell ?_ (by first | omega | (simp; done) | (simp; omega)) _))) (by omega) (by omega)).mono ?_
  rintro e w1 ⟨rfl, b1⟩
  have bt1 : Below w.heap.size w w1 := below_call (by repeat (first | exact Below.refl _ _ | exact bt | exact bt1 | exact bt2 | exact bt3 | exact bt4 | refine Below.alloc ?_ (by first | omega | (simp; done) | (simp; omega)) _ | refine Below.setCell ?_ (by first | omega | (simp; done) | (simp; omega)) _)) b1
  obtain ⟨hc1, hf1⟩ := bcell b1
  have s1 := b1.size
  simp at s1
  go_wp2_with fail
  go_ret
  exact ⟨ret_int (by first | rfl | (simp; done) | (simp; omega) | omega), (by repeat (first | exact Below.refl _ _ | exact bt | exact bt1 | exact bt2 | exact bt3 | exact bt4 | refine Below.alloc ?_ (by first | omega | (simp; done) | (simp; omega)) _ | refine Below.setCell ?_ (by first | omega | (simp; done) | (simp; omega)) _))⟩
end Go.Proofs.Ytpjflcllpmjjiaa
