/- Contracts of IsValidLedger. -/
import Derived.Test.YtpjflcllpmjjiaaL29a
namespace Go.Proofs.Ytpjflcllpmjjiaa
open Go.RowKit
set_option linter.unusedVariables false
set_option linter.unusedSimpArgs false
def okProofAt (xs : List DProof) (k : Nat) : Bool := match xs[k]? with
  | some p => inR p.Node 0 7 && inR p.Round 0 1000000000000 && !hasP (xs.take k) p
  | none => true
theorem okProofAt_of (xs : List DProof) {k : Nat} (h : k < xs.length) : okProofAt xs k = (inR xs[k].Node 0 7 && inR xs[k].Round 0 1000000000000 && !hasP (xs.take k) xs[k]) := by
  simp [okProofAt, h]
def dIsValidLedger (l : DLedger) : Bool := allTo (okProofAt l.Proofs) l.Proofs.length && decide (l.Proofs.length ≤ 40)

theorem ret_bool {a b : Bool} (h : a = b) : Ending.returned (.bool a) = .returned (.bool b) := by rw [h]
set_option maxHeartbeats 1600000 in
theorem implIsValidLedger_c (w : World) (cs : List Value) (l : DLedger) (hv : rLedger.rd w w.heap.size cs l) (hz : szLedger l ≤ 1048576) :
    Calls Try.prog 20 #[.agg cs.toArray] w fun e w' => e = .returned (.bool (dIsValidLedger l)) ∧ Below w.heap.size w w' := by
  obtain ⟨c0, rfl, k0⟩ := rLedger_rd.1 hv
  obtain ⟨A, c, rfl, hc1, hc2⟩ := rd_slice k0
  have hl : l.Proofs.length ≤ 1048576 := hz
  unfold dIsValidLedger
  generalize l.Proofs = xs at *
  have HV := Lib.hid k0
  clear hv hz k0 hc2
  go_enter Try.func20, Try.ntmps20
  go_wp2_with fail
  go_loopw [8] (fun i wr => ∃ k : Nat, k ≤ xs.length ∧ i = .int .i64 k ∧ allTo (okProofAt xs) k = true ∧ ∃ x : Ext (w.heap.size + 1) (w.alloc (.cells #[.slice A xs.length c] 35)), wr = x.val) (fun i _ => xs.length - (intOf i).toNat)
  case atStart => exact ⟨0, Nat.zero_le _, rfl, rfl, Ext.here _ _, rfl⟩
  case round =>
    obtain ⟨k, hk, rfl, hall, x, rfl⟩ := hrel
    have HN := Lib.hid hall
    clear hall
    have hx0 : x.val.cell? ⟨w.heap.size, 0, none⟩ = some (.slice A xs.length c) := by rw [x.cell (by simp)]; simp [go_sem]
    have hxs : w.heap.size < x.val.heap.size := by have := x.size; simp at this; omega
    have bx : Below w.heap.size w x.val := ((Below.refl _ _).alloc (Nat.le_refl _) _).trans (x.ok.mono (by omega))
    by_cases hlt : k < xs.length
    · obtain ⟨b, off, rfl, hb, hr, p0, p1, p2⟩ := ProofS_at HV.out hlt
      have HK := Lib.hid (okProofAt_of xs hlt)
      have hr' := hr
      obtain ⟨_, j0, j1, j2⟩ := rProof_rd.1 hr'
      clear hr'
      have c0 := (bx.cell hb).trans p0
      have c1 := (bx.cell hb).trans p1
      have c2 := (bx.cell hb).trans p2
      clear p0 p1 p2
      have hx1 : b < x.val.heap.size := by omega
      generalize hp : xs[k] = p at *
      have HP := Lib.hid hp
      clear hp
      have E0 : ∀ y : Ext (x.val.heap.size + 1) (x.val.alloc (.cells #[.int .i64 p.Node, .int .i64 p.Round, .int .i64 p.MAC] 58)), y.val.cell? ⟨x.val.heap.size, 0, none⟩ = some (.int .i64 p.Node) := fun y => by rw [y.cell (by simp)]; simp [go_sem]
      have E1 : ∀ y : Ext (x.val.heap.size + 1) (x.val.alloc (.cells #[.int .i64 p.Node, .int .i64 p.Round, .int .i64 p.MAC] 58)), y.val.cell? ⟨x.val.heap.size, 1, none⟩ = some (.int .i64 p.Round) := fun y => by rw [y.cell (by simp)]; simp [go_sem]
      have E2 : ∀ y : Ext (x.val.heap.size + 1) (x.val.alloc (.cells #[.int .i64 p.Node, .int .i64 p.Round, .int .i64 p.MAC] 58)), y.val.cell? ⟨x.val.heap.size, 2, none⟩ = some (.int .i64 p.MAC) := fun y => by rw [y.cell (by simp)]; simp [go_sem]
      have E3 : ∀ y : Ext (x.val.heap.size + 1) (x.val.alloc (.cells #[.int .i64 p.Node, .int .i64 p.Round, .int .i64 p.MAC] 58)), y.val.cell? ⟨w.heap.size, 0, none⟩ = some (.slice (some ⟨b, off, none⟩) xs.length c) := fun y => by rw [y.cell (by simp; omega), World.cell?_alloc_lt _ _ _ (by simpa using hxs)]; exact hx0
      have EB : ∀ y : Ext (x.val.heap.size + 1) (x.val.alloc (.cells #[.int .i64 p.Node, .int .i64 p.Round, .int .i64 p.MAC] 58)), Below w.heap.size w y.val := fun y => (bx.alloc (by omega) _).trans (y.ok.mono (by omega))
      have HR : Hid (rProof.rd w w.heap.size [.int .i64 p.Node, .int .i64 p.Round, .int .i64 p.MAC] p) := hr
      have HT := Lib.hid (rd_take HV.out k hk)
      clear hr
      cases h1 : inR p.Node 0 7
      · have hf : okProofAt xs k = false := by rw [HK.out, h1]; rfl
        have HF := Lib.hid (allTo_false hlt hf)
        clear hf
        go_wp2_with fail
        refine wp_region_ext (x.val.heap.size + 1) (by kernel_rfl) (by kernel_rfl) ?_
        repeat (go_big_quiet_step ((rename_i y; exact Calls.ext0 y (implInRange_c _ _ _ _ (by assumption) _))))
        refine wpQuiet_nil ?_
        rintro _ ⟨y, rfl⟩
        go_wp2_with fail
        go_ret
        exact ⟨by rw [HF.out]; rfl, EB y⟩
      cases h2 : inR p.Round 0 1000000000000
      · have hf : okProofAt xs k = false := by rw [HK.out, h1, h2]; rfl
        have HF := Lib.hid (allTo_false hlt hf)
        clear hf
        go_wp2_with fail
        refine wp_region_ext (x.val.heap.size + 1) (by kernel_rfl) (by kernel_rfl) ?_
        repeat (go_big_quiet_step ((rename_i y; exact Calls.ext0 y (implInRange_c _ _ _ _ (by assumption) _))))
        refine wpQuiet_nil ?_
        rintro _ ⟨y, rfl⟩
        go_wp2_with fail
        go_ret
        exact ⟨by rw [HF.out]; rfl, EB y⟩
      cases h3 : hasP (xs.take k) p
      · have hf : okProofAt xs k = true := by rw [HK.out, h1, h2, h3]; rfl
        have HF := Lib.hid hf
        clear hf
        go_wp2_with fail
        refine wp_region_ext (x.val.heap.size + 1) (by kernel_rfl) (by kernel_rfl) ?_
        repeat (go_big_quiet_step ((first | (go_at_call 36; rename_i y; exact Calls.ext0 y (implInRange_c _ _ _ _ (by assumption) _)) | (rename_i y; exact Calls.ext y (by simp) (containsProof_c _ _ (xs.take k) _ p (rd_now HT.out (EB y)) (rd_now HR.out (EB y)) _ h3)))))
        refine wpQuiet_nil ?_
        rintro _ ⟨y, rfl⟩
        go_wp2_with fail
        go_roundw
        case rel => exact ⟨k + 1, by omega, by go_num, by rw [allTo, HN.out, HF.out]; rfl, x.step (((Below.refl _ _).alloc (by have := x.size; simp at this; omega) _).trans (y.ok.mono (by omega)))⟩
        case measure => simp [intOf]; omega
      · have hf : okProofAt xs k = false := by rw [HK.out, h1, h2, h3]; rfl
        have HF := Lib.hid (allTo_false hlt hf)
        clear hf
        go_wp2_with fail
        refine wp_region_ext (x.val.heap.size + 1) (by kernel_rfl) (by kernel_rfl) ?_
        repeat (go_big_quiet_step ((first | (go_at_call 36; rename_i y; exact Calls.ext0 y (implInRange_c _ _ _ _ (by assumption) _)) | (rename_i y; exact Calls.ext y (by simp) (containsProof_c _ _ (xs.take k) _ p (rd_now HT.out (EB y)) (rd_now HR.out (EB y)) _ h3)))))
        refine wpQuiet_nil ?_
        rintro _ ⟨y, rfl⟩
        go_wp2_with fail
        go_ret
        exact ⟨by rw [HF.out]; rfl, EB y⟩
    · have hk' : k = xs.length := by omega
      have HN' : Hid (allTo (okProofAt xs) xs.length = true) := by rw [← hk']; exact HN.out
      clear hk'
      go_wp2_with fail
      go_ret
      exact ⟨by rw [HN'.out, Bool.true_and]; first | rfl | exact ret_bool (by rw [Bool.eq_iff_iff]; simp; omega), bx⟩
set_option maxHeartbeats 1600000 in
theorem specIsValidLedger_c (w : World) (cs : List Value) (l : DLedger) (hv : rLedger.rd w w.heap.size cs l) (hz : szLedger l ≤ 1048576) :
    Calls Try.prog 18 #[.agg cs.toArray] w fun e w' => e = .returned (.bool (dIsValidLedger l)) ∧ Below w.heap.size w w' := by
  obtain ⟨c0, rfl, k0⟩ := rLedger_rd.1 hv
  obtain ⟨A, c, rfl, hc1, hc2⟩ := rd_slice k0
  have hl : l.Proofs.length ≤ 1048576 := hz
  unfold dIsValidLedger
  generalize l.Proofs = xs at *
  have HV := Lib.hid k0
  clear hv hz k0 hc2
  go_enter Try.func18, Try.ntmps18
  go_wp2_with fail
  go_loopw [3] (fun i wr => ∃ k : Nat, k ≤ xs.length ∧ i = .int .i64 k ∧ allTo (okProofAt xs) k = true ∧ ∃ x : Ext (w.heap.size + 1) (w.alloc (.cells #[.slice A xs.length c] 35)), wr = x.val) (fun i _ => xs.length - (intOf i).toNat)
  case atStart => exact ⟨0, Nat.zero_le _, rfl, rfl, Ext.here _ _, rfl⟩
  case round =>
    obtain ⟨k, hk, rfl, hall, x, rfl⟩ := hrel
    have HN := Lib.hid hall
    clear hall
    have hx0 : x.val.cell? ⟨w.heap.size, 0, none⟩ = some (.slice A xs.length c) := by rw [x.cell (by simp)]; simp [go_sem]
    have hxs : w.heap.size < x.val.heap.size := by have := x.size; simp at this; omega
    have bx : Below w.heap.size w x.val := ((Below.refl _ _).alloc (Nat.le_refl _) _).trans (x.ok.mono (by omega))
    by_cases hlt : k < xs.length
    · obtain ⟨b, off, rfl, hb, hr, p0, p1, p2⟩ := ProofS_at HV.out hlt
      have HK := Lib.hid (okProofAt_of xs hlt)
      have hr' := hr
      obtain ⟨_, j0, j1, j2⟩ := rProof_rd.1 hr'
      clear hr'
      have c0 := (bx.cell hb).trans p0
      have c1 := (bx.cell hb).trans p1
      have c2 := (bx.cell hb).trans p2
      clear p0 p1 p2
      have hx1 : b < x.val.heap.size := by omega
      generalize hp : xs[k] = p at *
      have HP := Lib.hid hp
      clear hp
      have E0 : ∀ y : Ext (x.val.heap.size + 1) (x.val.alloc (.cells #[.int .i64 p.Node, .int .i64 p.Round, .int .i64 p.MAC] 58)), y.val.cell? ⟨x.val.heap.size, 0, none⟩ = some (.int .i64 p.Node) := fun y => by rw [y.cell (by simp)]; simp [go_sem]
      have E1 : ∀ y : Ext (x.val.heap.size + 1) (x.val.alloc (.cells #[.int .i64 p.Node, .int .i64 p.Round, .int .i64 p.MAC] 58)), y.val.cell? ⟨x.val.heap.size, 1, none⟩ = some (.int .i64 p.Round) := fun y => by rw [y.cell (by simp)]; simp [go_sem]
      have E2 : ∀ y : Ext (x.val.heap.size + 1) (x.val.alloc (.cells #[.int .i64 p.Node, .int .i64 p.Round, .int .i64 p.MAC] 58)), y.val.cell? ⟨x.val.heap.size, 2, none⟩ = some (.int .i64 p.MAC) := fun y => by rw [y.cell (by simp)]; simp [go_sem]
      have E3 : ∀ y : Ext (x.val.heap.size + 1) (x.val.alloc (.cells #[.int .i64 p.Node, .int .i64 p.Round, .int .i64 p.MAC] 58)), y.val.cell? ⟨w.heap.size, 0, none⟩ = some (.slice (some ⟨b, off, none⟩) xs.length c) := fun y => by rw [y.cell (by simp; omega), World.cell?_alloc_lt _ _ _ (by simpa using hxs)]; exact hx0
      have EB : ∀ y : Ext (x.val.heap.size + 1) (x.val.alloc (.cells #[.int .i64 p.Node, .int .i64 p.Round, .int .i64 p.MAC] 58)), Below w.heap.size w y.val := fun y => (bx.alloc (by omega) _).trans (y.ok.mono (by omega))
      have HR : Hid (rProof.rd w w.heap.size [.int .i64 p.Node, .int .i64 p.Round, .int .i64 p.MAC] p) := hr
      have HT := Lib.hid (rd_take HV.out k hk)
      clear hr
      cases h1 : inR p.Node 0 7
      · have hf : okProofAt xs k = false := by rw [HK.out, h1]; rfl
        have HF := Lib.hid (allTo_false hlt hf)
        clear hf
        go_wp2_with fail
        refine wp_region_ext (x.val.heap.size + 1) (by kernel_rfl) (by kernel_rfl) ?_
        repeat (go_big_quiet_step ((rename_i y; exact Calls.ext0 y (specl1In_c _ _ _ _ (by assumption) _))))
        refine wpQuiet_nil ?_
        rintro _ ⟨y, rfl⟩
        go_wp2_with fail
        go_ret
        exact ⟨by rw [HF.out]; rfl, EB y⟩
      cases h2 : inR p.Round 0 1000000000000
      · have hf : okProofAt xs k = false := by rw [HK.out, h1, h2]; rfl
        have HF := Lib.hid (allTo_false hlt hf)
        clear hf
        go_wp2_with fail
        refine wp_region_ext (x.val.heap.size + 1) (by kernel_rfl) (by kernel_rfl) ?_
        repeat (go_big_quiet_step ((rename_i y; exact Calls.ext0 y (specl1In_c _ _ _ _ (by assumption) _))))
        refine wpQuiet_nil ?_
        rintro _ ⟨y, rfl⟩
        go_wp2_with fail
        go_ret
        exact ⟨by rw [HF.out]; rfl, EB y⟩
      cases h3 : hasP (xs.take k) p
      · have hf : okProofAt xs k = true := by rw [HK.out, h1, h2, h3]; rfl
        have HF := Lib.hid hf
        clear hf
        go_wp2_with fail
        refine wp_region_ext (x.val.heap.size + 1) (by kernel_rfl) (by kernel_rfl) ?_
        repeat (go_big_quiet_step ((first | (go_at_call 35; rename_i y; exact Calls.ext0 y (specl1In_c _ _ _ _ (by assumption) _)) | (rename_i y; exact Calls.ext y (by simp) (specl29Has_c _ _ (xs.take k) _ p (rd_now HT.out (EB y)) (rd_now HR.out (EB y)) _ h3)))))
        refine wpQuiet_nil ?_
        rintro _ ⟨y, rfl⟩
        go_wp2_with fail
        go_roundw
        case rel => exact ⟨k + 1, by omega, by go_num, by rw [allTo, HN.out, HF.out]; rfl, x.step (((Below.refl _ _).alloc (by have := x.size; simp at this; omega) _).trans (y.ok.mono (by omega)))⟩
        case measure => simp [intOf]; omega
      · have hf : okProofAt xs k = false := by rw [HK.out, h1, h2, h3]; rfl
        have HF := Lib.hid (allTo_false hlt hf)
        clear hf
        go_wp2_with fail
        refine wp_region_ext (x.val.heap.size + 1) (by kernel_rfl) (by kernel_rfl) ?_
        repeat (go_big_quiet_step ((first | (go_at_call 35; rename_i y; exact Calls.ext0 y (specl1In_c _ _ _ _ (by assumption) _)) | (rename_i y; exact Calls.ext y (by simp) (specl29Has_c _ _ (xs.take k) _ p (rd_now HT.out (EB y)) (rd_now HR.out (EB y)) _ h3)))))
        refine wpQuiet_nil ?_
        rintro _ ⟨y, rfl⟩
        go_wp2_with fail
        go_ret
        exact ⟨by rw [HF.out]; rfl, EB y⟩
    · have hk' : k = xs.length := by omega
      have HN' : Hid (allTo (okProofAt xs) xs.length = true) := by rw [← hk']; exact HN.out
      clear hk'
      go_wp2_with fail
      go_ret
      exact ⟨by rw [HN'.out, Bool.true_and]; first | rfl | exact ret_bool (by rw [Bool.eq_iff_iff]; simp; omega), bx⟩
end Go.Proofs.Ytpjflcllpmjjiaa
