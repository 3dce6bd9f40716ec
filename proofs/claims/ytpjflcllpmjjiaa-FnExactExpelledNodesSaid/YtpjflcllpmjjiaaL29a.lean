/- Contracts of the search in a list of proofs. -/
import Derived.Test.YtpjflcllpmjjiaaL01
import Derived.Test.YtpjflcllpmjjiaaTLedger
namespace Go.Proofs.Ytpjflcllpmjjiaa
open Go.RowKit
set_option linter.unusedVariables false
set_option linter.unusedSimpArgs false
/-- two structs of three ints are equal -/
def eq3 (a0 a1 a2 b0 b1 b2 : Int) : Bool := a0 == b0 && (a1 == b1 && a2 == b2)
def eqP (p q : DProof) : Bool := eq3 p.Node p.Round p.MAC q.Node q.Round q.MAC
theorem eqP_comm (p q : DProof) : eqP p q = eqP q p := by
  unfold eqP eq3
  have h : ∀ a b : Int, (a == b) = (b == a) := fun a b => by rw [Bool.eq_iff_iff]; simp only [beq_iff_eq]; exact eq_comm
  rw [h p.Node, h p.Round, h p.MAC]
theorem stoodProof : Try.prog.stoodInHeld 58 = false := by kernel_rfl
theorem guardProof : Try.prog.eqGuardType Try.prog.depth 58 = false := by kernel_rfl
theorem fieldsProof : Try.prog.underlying 58 = some (.struct (Try.prog.fieldsOf 58)) := by kernel_rfl
theorem run_eqProof (a0 a1 a2 b0 b1 b2 : Int) (w : World) : (binOp .eql 58 (.agg #[.int .i64 a0, .int .i64 a1, .int .i64 a2]) (.agg #[.int .i64 b0, .int .i64 b1, .int .i64 b2])).run Try.prog w = .ok (.bool (eq3 a0 a1 a2 b0 b1 b2)) w := by
  rw [run_eql_struct, show (10000 : Nat) = 9999 + 1 from rfl, run_equalIn_agg w 9999 58 _ _ fieldsProof stoodProof]
  have hf : (Try.prog.fieldsOf 58).toList = [{ name := "Node", type := 3, offset := 0, embedded := false, tag := "", pkgPath := "", byteOffset := 0 }, { name := "Round", type := 3, offset := 1, embedded := false, tag := "", pkgPath := "", byteOffset := 8 }, { name := "MAC", type := 3, offset := 2, embedded := false, tag := "", pkgPath := "", byteOffset := 16 }] := by kernel_rfl
  rw [hf]
  cases h0 : a0 == b0 <;> cases h1 : a1 == b1 <;> cases h2 : a2 == b2 <;> simp [Op.eqFields, go_sem, Try.underlying3, h0, h1, h2, eq3]
theorem eqP_iff (p q : DProof) : eqP p q = true ↔ p = q := by
  cases p; cases q; simp [eqP, eq3]
def hasP (xs : List DProof) (p : DProof) : Bool := xs.any (eqP p)
theorem any_take_succ {α : Type} (f : α → Bool) (xs : List α) {k : Nat} (h : k < xs.length) : (xs.take (k + 1)).any f = ((xs.take k).any f || f xs[k]) := by
  rw [List.take_succ_eq_append_getElem h, List.any_append]; simp
theorem any_of_take {α : Type} (f : α → Bool) (xs : List α) {k : Nat} (h : k < xs.length) (h1 : f xs[k] = true) : xs.any f = true :=
  List.any_eq_true.2 ⟨xs[k], List.getElem_mem h, h1⟩
/-- the first index at which f holds, or -1 -/
def firstIdx {α : Type} (f : α → Bool) (xs : List α) : Int := if xs.any f then (xs.findIdx f : Int) else -1
theorem firstIdx_at {α : Type} (f : α → Bool) (xs : List α) {k : Nat} (h : k < xs.length) (h0 : (xs.take k).any f = false) (h1 : f xs[k] = true) : firstIdx f xs = k := by
  unfold firstIdx
  rw [if_pos (any_of_take f xs h h1)]
  congr 1
  rw [List.findIdx_eq h]
  refine ⟨h1, fun j hj => ?_⟩
  rw [List.any_eq_false] at h0
  have := h0 xs[j] (by rw [List.mem_take_iff_getElem]; exact ⟨j, by omega, rfl⟩)
  simpa using this
theorem firstIdx_none {α : Type} (f : α → Bool) (xs : List α) (h0 : xs.any f = false) : firstIdx f xs = -1 := by simp [firstIdx, h0]
theorem firstIdx_nonneg {α : Type} (f : α → Bool) (xs : List α) : decide (0 ≤ firstIdx f xs) = xs.any f := by
  unfold firstIdx
  cases xs.any f <;> simp
theorem firstIdx_lt {α : Type} (f : α → Bool) (xs : List α) : -1 ≤ firstIdx f xs ∧ firstIdx f xs ≤ xs.length := by
  unfold firstIdx
  have := List.findIdx_le_length (p := f) (xs := xs)
  split <;> omega

set_option maxHeartbeats 800000 in
theorem idxProof_c (w : World) (v : Value) (xs : List DProof) (cs : List Value) (p : DProof) (hv : rProofS.rd w w.heap.size [v] xs) (hp : rProof.rd w w.heap.size cs p) :
    Calls Try.prog 55 #[v, .agg cs.toArray] w fun e w' => e = .returned (.int .i64 (firstIdx (eqP p) xs)) ∧ Below w.heap.size w w' := by
  obtain ⟨A, c, rfl, hc1, hc2⟩ := rd_slice hv
  obtain ⟨rfl, i0, i1, i2⟩ := rProof_rd.1 hp
  unfold maxLen at hc2
  have HV := Lib.hid hv
  clear hv hp
  have hE := run_eqProof
  have hG := guardProof
  go_enter Try.func55, Try.ntmps55
  go_wp2_with fail
  go_loopw [8] (fun i wr => ∃ k : Nat, k ≤ xs.length ∧ i = .int .i64 k ∧ (xs.take k).any (eqP p) = false ∧ ∃ x : Ext (w.heap.size + 1) (w.alloc (.cells #[.int .i64 p.Node, .int .i64 p.Round, .int .i64 p.MAC] 58)), wr = x.val) (fun i _ => xs.length - (intOf i).toNat)
  case atStart => exact ⟨0, Nat.zero_le _, rfl, by simp, Ext.here _ _, rfl⟩
  case round =>
    obtain ⟨k, hk, rfl, hnone, x, rfl⟩ := hrel
    have HN := Lib.hid hnone
    clear hnone
    by_cases hlt : k < xs.length
    · obtain ⟨b, off, rfl, hb, hr, p0, p1, p2⟩ := ProofS_at HV.out hlt
      have q0 : ∀ y : Ext (w.heap.size + 1) x.val, y.val.cell? ⟨w.heap.size, 0, none⟩ = some (.int .i64 p.Node) := fun y => by rw [y.cell (by simp), x.cell (by simp)]; simp [go_sem]
      have q1 : ∀ y : Ext (w.heap.size + 1) x.val, y.val.cell? ⟨w.heap.size, 1, none⟩ = some (.int .i64 p.Round) := fun y => by rw [y.cell (by simp), x.cell (by simp)]; simp [go_sem]
      have q2 : ∀ y : Ext (w.heap.size + 1) x.val, y.val.cell? ⟨w.heap.size, 2, none⟩ = some (.int .i64 p.MAC) := fun y => by rw [y.cell (by simp), x.cell (by simp)]; simp [go_sem]
      have P0 : ∀ y : Ext (w.heap.size + 1) x.val, _ := fun y => ((y.cell (by simp; omega)).trans (x.cell (by simp; omega))).trans ((World.cell?_alloc_lt _ _ _ hb).trans p0)
      have P1 : ∀ y : Ext (w.heap.size + 1) x.val, _ := fun y => ((y.cell (by simp; omega)).trans (x.cell (by simp; omega))).trans ((World.cell?_alloc_lt _ _ _ hb).trans p1)
      have P2 : ∀ y : Ext (w.heap.size + 1) x.val, _ := fun y => ((y.cell (by simp; omega)).trans (x.cell (by simp; omega))).trans ((World.cell?_alloc_lt _ _ _ hb).trans p2)
      clear p0 p1 p2 hr
      have HS := Lib.hid (any_take_succ (eqP p) xs hlt)
      by_cases he : eq3 p.Node p.Round p.MAC xs[k].Node xs[k].Round xs[k].MAC = true
      · go_wp2_with fail
        refine wp_region_ext (w.heap.size + 1) (by kernel_rfl) (by kernel_rfl) ?_
        repeat (go_big_quiet_step (fail))
        refine wpQuiet_nil ?_
        rintro _ ⟨y, rfl⟩
        go_wp2_with fail
        go_ret
        exact ⟨by rw [firstIdx_at (eqP p) xs hlt HN.out he]; rfl, ((Below.refl _ _).alloc (Nat.le_refl _) _).trans ((x.ok.trans y.ok).mono (by omega))⟩
      · have he' : eq3 p.Node p.Round p.MAC xs[k].Node xs[k].Round xs[k].MAC = false := by simpa using he
        have he2 : eqP p xs[k] = false := he'
        have HE := Lib.hid he2
        clear he he2
        go_wp2_with fail
        refine wp_region_ext (w.heap.size + 1) (by kernel_rfl) (by kernel_rfl) ?_
        repeat (go_big_quiet_step (fail))
        refine wpQuiet_nil ?_
        rintro _ ⟨y, rfl⟩
        go_wp2_with fail
        go_roundw
        case rel => exact ⟨k + 1, by omega, by go_num, by rw [HS.out, HN.out, HE.out]; rfl, x.step y.ok⟩
        case measure => simp [intOf]; omega
    · go_wp2_with fail
      go_ret
      have := HN.out
      rw [List.take_of_length_le (by omega)] at this
      exact ⟨by rw [firstIdx_none _ _ this]; rfl, ((Below.refl _ _).alloc (Nat.le_refl _) _).trans (x.ok.mono (by omega))⟩

set_option maxHeartbeats 800000 in
theorem containsProof_c (w : World) (v : Value) (xs : List DProof) (cs : List Value) (p : DProof) (hv : rProofS.rd w w.heap.size [v] xs) (hp : rProof.rd w w.heap.size cs p) (b : Bool) (hb : hasP xs p = b) :
    Calls Try.prog 40 #[v, .agg cs.toArray] w fun e w' => e = .returned (.bool b) ∧ Below w.heap.size w w' := by
  obtain ⟨A, c, rfl, hc1, hc2⟩ := rd_slice hv
  obtain ⟨rfl, i0, i1, i2⟩ := rProof_rd.1 hp
  have hd : decide (0 ≤ firstIdx (eqP p) xs) = b := by rw [firstIdx_nonneg, ← hb]; rfl
  clear hc1 hc2 hb
  go_enter Try.func40, Try.ntmps40
  go_wp2_with fail
  refine (idxProof_c _ _ xs _ p (rd_now hv (by repeat (first | exact Below.refl _ _ | exact bt | exact bt1 | exact bt2 | exact bt3 | exact bt4 | refine Below.alloc ?_ (by first | omega | (simp; done) | (simp; omega)) _ | refine Below.setCell ?_ (by first | omega | (simp; done) | (simp; omega)) _))) (rd_now hp (by repeat (first | exact Below.refl _ _ | exact bt | exact bt1 | exact bt2 | exact bt3 | exact bt4 | refine Below.alloc ?_ (by first | omega | (simp; done) | (simp; omega)) _ | refine Below.setCell ?_ (by first | omega | (simp; done) | (simp; omega)) _)))).mono ?_
  rintro e w1 ⟨rfl, b1⟩
  have bt : Below w.heap.size w w1 := below_call (by repeat (first | exact Below.refl _ _ | exact bt | exact bt1 | exact bt2 | exact bt3 | exact bt4 | refine Below.alloc ?_ (by first | omega | (simp; done) | (simp; omega)) _ | refine Below.setCell ?_ (by first | omega | (simp; done) | (simp; omega)) _)) b1
  generalize firstIdx (eqP p) xs = r at *
  go_wp2_with fail
  go_ret
  exact ⟨by simp [hd], bt⟩

set_option maxHeartbeats 800000 in
theorem specl29Has_c (w : World) (v : Value) (xs : List DProof) (cs : List Value) (p : DProof) (hv : rProofS.rd w w.heap.size [v] xs) (hp : rProof.rd w w.heap.size cs p) (r : Bool) (hr : hasP xs p = r) :
    Calls Try.prog 38 #[v, .agg cs.toArray] w fun e w' => e = .returned (.bool r) ∧ Below w.heap.size w w' := by
  obtain ⟨A, c, rfl, hc1, hc2⟩ := rd_slice hv
  obtain ⟨rfl, i0, i1, i2⟩ := rProof_rd.1 hp
  unfold maxLen at hc2
  have HV := Lib.hid hv
  have HR := Lib.hid hr
  clear hv hp hr
  have hE := run_eqProof
  have hG := guardProof
  go_enter Try.func38, Try.ntmps38
  go_wp2_with fail
  go_loopw [5] (fun i wr => ∃ k : Nat, k ≤ xs.length ∧ i = .int .i64 k ∧ (xs.take k).any (eqP p) = false ∧ ∃ x : Ext (w.heap.size + 1) (w.alloc (.cells #[.int .i64 p.Node, .int .i64 p.Round, .int .i64 p.MAC] 58)), wr = x.val) (fun i _ => xs.length - (intOf i).toNat)
  case atStart => exact ⟨0, Nat.zero_le _, rfl, by simp, Ext.here _ _, rfl⟩
  case round =>
    obtain ⟨k, hk, rfl, hnone, x, rfl⟩ := hrel
    have HN := Lib.hid hnone
    clear hnone
    by_cases hlt : k < xs.length
    · obtain ⟨b, off, rfl, hb, hr, p0, p1, p2⟩ := ProofS_at HV.out hlt
      have q0 : ∀ y : Ext (w.heap.size + 1) x.val, y.val.cell? ⟨w.heap.size, 0, none⟩ = some (.int .i64 p.Node) := fun y => by rw [y.cell (by simp), x.cell (by simp)]; simp [go_sem]
      have q1 : ∀ y : Ext (w.heap.size + 1) x.val, y.val.cell? ⟨w.heap.size, 1, none⟩ = some (.int .i64 p.Round) := fun y => by rw [y.cell (by simp), x.cell (by simp)]; simp [go_sem]
      have q2 : ∀ y : Ext (w.heap.size + 1) x.val, y.val.cell? ⟨w.heap.size, 2, none⟩ = some (.int .i64 p.MAC) := fun y => by rw [y.cell (by simp), x.cell (by simp)]; simp [go_sem]
      have P0 : ∀ y : Ext (w.heap.size + 1) x.val, _ := fun y => ((y.cell (by simp; omega)).trans (x.cell (by simp; omega))).trans ((World.cell?_alloc_lt _ _ _ hb).trans p0)
      have P1 : ∀ y : Ext (w.heap.size + 1) x.val, _ := fun y => ((y.cell (by simp; omega)).trans (x.cell (by simp; omega))).trans ((World.cell?_alloc_lt _ _ _ hb).trans p1)
      have P2 : ∀ y : Ext (w.heap.size + 1) x.val, _ := fun y => ((y.cell (by simp; omega)).trans (x.cell (by simp; omega))).trans ((World.cell?_alloc_lt _ _ _ hb).trans p2)
      clear p0 p1 p2 hr
      have HS := Lib.hid (any_take_succ (eqP p) xs hlt)
      have HQ := Lib.hid (eqP_comm p xs[k])
      by_cases he : eq3 xs[k].Node xs[k].Round xs[k].MAC p.Node p.Round p.MAC = true
      · have HE : Hid (eqP p xs[k] = true) := by rw [HQ.out]; exact he
        go_wp2_with fail
        refine wp_region_ext (w.heap.size + 1) (by kernel_rfl) (by kernel_rfl) ?_
        repeat (go_big_quiet_step (fail))
        refine wpQuiet_nil ?_
        rintro _ ⟨y, rfl⟩
        go_wp2_with fail
        go_ret
        exact ⟨by rw [← HR.out, hasP, any_of_take (eqP p) xs hlt HE.out]; rfl, ((Below.refl _ _).alloc (Nat.le_refl _) _).trans ((x.ok.trans y.ok).mono (by omega))⟩
      · have he' : eq3 xs[k].Node xs[k].Round xs[k].MAC p.Node p.Round p.MAC = false := by simpa using he
        have HE : Hid (eqP p xs[k] = false) := by rw [HQ.out]; exact he'
        clear he
        go_wp2_with fail
        refine wp_region_ext (w.heap.size + 1) (by kernel_rfl) (by kernel_rfl) ?_
        repeat (go_big_quiet_step (fail))
        refine wpQuiet_nil ?_
        rintro _ ⟨y, rfl⟩
        go_wp2_with fail
        go_roundw
        case rel => exact ⟨k + 1, by omega, by go_num, by rw [HS.out, HN.out, HE.out]; rfl, x.step y.ok⟩
        case measure => simp [intOf]; omega
    · go_wp2_with fail
      go_ret
      have := HN.out
      rw [List.take_of_length_le (by omega)] at this
      exact ⟨by rw [← HR.out, hasP, this]; rfl, ((Below.refl _ _).alloc (Nat.le_refl _) _).trans (x.ok.mono (by omega))⟩
end Go.Proofs.Ytpjflcllpmjjiaa
