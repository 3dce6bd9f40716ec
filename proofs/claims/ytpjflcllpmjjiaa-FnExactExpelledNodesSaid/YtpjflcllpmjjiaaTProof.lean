/- Contracts of the laws' helpers on Proof. Printed by types.py. -/
import Derived.Test.YtpjflcllpmjjiaaInts
namespace Go.Proofs.Ytpjflcllpmjjiaa
open Go.RowKit
set_option linter.unusedVariables false
set_option linter.unusedSimpArgs false
structure DProof where
  Node : Int
  Round : Int
  MAC : Int
def rProof : Rp DProof := Rp.as 58 true (Rp.pair 0 rInt (Rp.pair 0 rInt rInt)) (fun x => (x.Node, x.Round, x.MAC))
theorem rProof_rd {w : World} {B : Nat} {cs : List Value} {x : DProof} : rProof.rd w B cs x ↔ cs = [.int .i64 x.Node, .int .i64 x.Round, .int .i64 x.MAC] ∧ I64 x.Node ∧ I64 x.Round ∧ I64 x.MAC := by
  constructor
  · rintro ⟨l0, r0, rfl, ⟨rfl, i0⟩, ⟨l1, r1, rfl, ⟨rfl, i1⟩, ⟨rfl, i2⟩⟩⟩
    exact ⟨rfl, i0, i1, i2⟩
  · rintro ⟨rfl, i0, i1, i2⟩
    exact ⟨_, _, rfl, ⟨rfl, i0⟩, ⟨_, _, rfl, ⟨rfl, i1⟩, ⟨rfl, i2⟩⟩⟩
theorem rProof_ow {w : World} {cs : List Value} {x : DProof} {F : List Nat} : rProof.ow w cs x F ↔ cs = [.int .i64 x.Node, .int .i64 x.Round, .int .i64 x.MAC] ∧ F = (([] ++ ([] ++ [])) : List Nat) ∧ I64 x.Node ∧ I64 x.Round ∧ I64 x.MAC := by
  constructor
  · rintro ⟨l0, r0, gl0, gr0, rfl, rfl, ⟨rfl, i0, rfl⟩, ⟨l1, r1, gl1, gr1, rfl, rfl, ⟨rfl, i1, rfl⟩, ⟨rfl, i2, rfl⟩⟩⟩
    exact ⟨rfl, rfl, i0, i1, i2⟩
  · rintro ⟨rfl, rfl, i0, i1, i2⟩
    exact ⟨_, _, _, _, rfl, rfl, ⟨rfl, i0, rfl⟩, ⟨_, _, _, _, rfl, rfl, ⟨rfl, i1, rfl⟩, ⟨rfl, i2, rfl⟩⟩⟩
theorem rProof_own {B : Nat} {w : World} {cs : List Value} {x : DProof} {F : List Nat} : Own rProof B w cs x F ↔ cs = [.int .i64 x.Node, .int .i64 x.Round, .int .i64 x.MAC] ∧ F = (([] ++ ([] ++ [])) : List Nat) ∧ I64 x.Node ∧ I64 x.Round ∧ I64 x.MAC := by
  constructor
  · rintro ⟨h, hn, hB⟩
    obtain ⟨rfl, rfl, i0, i1, i2⟩ := rProof_ow.1 h
    exact ⟨rfl, rfl, i0, i1, i2⟩
  · rintro ⟨rfl, rfl, i0, i1, i2⟩
    refine ⟨rProof_ow.2 ⟨rfl, rfl, i0, i1, i2⟩, ?_, ?_⟩
    · simp
    · simp
def mkProof : Mk DProof := ⟨fun x k => ⟨Mk.int.f x.Node (k), Mk.int.f x.Round (k + (Mk.int.n x.Node : Int)), Mk.int.f x.MAC (k + (Mk.int.n x.Node : Int) + (Mk.int.n x.Round : Int))⟩, fun x => Mk.int.n x.Node + Mk.int.n x.Round + Mk.int.n x.MAC⟩
def mvProof : Mk DProof := ⟨fun x k => ⟨Mk.val.f x.Node (k), Mk.val.f x.Round (k + (Mk.val.n x.Node : Int)), Mk.val.f x.MAC (k + (Mk.val.n x.Node : Int) + (Mk.val.n x.Round : Int))⟩, fun x => Mk.val.n x.Node + Mk.val.n x.Round + Mk.val.n x.MAC⟩
theorem mkProof_le (x : DProof) : mkProof.n x ≤ 3 := by
  simp only [mkProof, Mk.int, Mk.val]
  first | omega | (simp; done) | (simp; omega)
theorem mvProof_le (x : DProof) : mvProof.n x ≤ 0 := by
  simp only [mvProof, Mk.int, Mk.val]
  first | omega | (simp; done) | (simp; omega)

theorem cells_Proof : Try.prog.cellsOf 74 = 3 := by kernel_rfl
theorem opensProof : Opens Try.prog 74 rProof := by
  intro H enc w base spare held fuel cs x h
  obtain ⟨xs, n, _, _, hl, hlen, hf⟩ := DataW.trod_struct Try.underlying74 h
  obtain ⟨a0, k0⟩ := opens_field (R := rInt) (i := 0) 0 1 hf hlen rfl rfl rfl cells_int opensInt
  obtain ⟨a1, k1⟩ := opens_field (R := rInt) (i := 1) 1 1 hf hlen rfl rfl rfl cells_int opensInt
  obtain ⟨a2, k2⟩ := opens_field (R := rInt) (i := 2) 2 1 hf hlen rfl rfl rfl cells_int opensInt
  rw [cells_Proof] at hl
  exact ⟨⟨a0, a1, a2⟩, rd_pair (t := 0) (off := 0) k0 (rd_pair (t := 0) k1 (rd_last k2 (by omega)))⟩
set_option maxHeartbeats 400000 in
theorem toProof_c (w : World) (cs : List Value) (x : DProof) (hv : rProof.rd w w.heap.size cs x) : Calls Try.prog 54 #[.agg cs.toArray] w (Ret rProof w x) := by
  obtain ⟨rfl, i0, i1, i2⟩ := rProof_rd.1 hv
  clear hv
  go_enter Try.func54, Try.ntmps54
  go_wp2_with fail
  refine bodyPost_ret (v := .agg #[.int .i64 x.Node, .int .i64 x.Round, .int .i64 x.MAC]) (by simp [results, Try.results54, go_sem]) rfl ?_
  exact ⟨_, _, rfl, (Own.pair (tt := 0) _ (Own.int i0) (Own.pair (tt := 0) _ (Own.int i1) (Own.int i2) (by simp) (Nat.le_refl _)) (by simp) (Nat.le_refl _)), (by repeat (first | exact Below.refl _ _ | exact bt | exact bt1 | exact bt2 | exact bt3 | exact bt4 | refine Below.alloc ?_ (by first | omega | (simp; done) | (simp; omega)) _ | refine Below.setCell ?_ (by first | omega | (simp; done) | (simp; omega)) _))⟩
set_option maxHeartbeats 400000 in
theorem eqProof_c (w : World) (cs ds : List Value) (x : DProof) (hv : rProof.rd w w.heap.size cs x) (hu : rProof.rd w w.heap.size ds x) : Calls Try.prog 56 #[.agg cs.toArray, .agg ds.toArray] w fun e w' => e = .returned (.bool true) ∧ Below w.heap.size w w' := by
  obtain ⟨rfl, i0, i1, i2⟩ := rProof_rd.1 hv
  obtain ⟨rfl, _, _, _⟩ := rProof_rd.1 hu
  clear hv hu
  go_enter Try.func56, Try.ntmps56
  go_wp2_with fail
  go_ret
  exact ⟨rfl, (by repeat (first | exact Below.refl _ _ | exact bt | exact bt1 | exact bt2 | exact bt3 | exact bt4 | refine Below.alloc ?_ (by first | omega | (simp; done) | (simp; omega)) _ | refine Below.setCell ?_ (by first | omega | (simp; done) | (simp; omega)) _))⟩
abbrev rProofS : Rp (List DProof) := Rp.slice 33 rProof
theorem elProofS : Elem Try.prog 33 58 [.int .i64 0, .int .i64 0, .int .i64 0] 24 := Elem.of (.agg #[.int .i64 0, .int .i64 0, .int .i64 0]) Try.underlying33 (by kernel_rfl) rfl (by decide) (by decide)
theorem opensProofS : Opens Try.prog 28 rProofS := opens_slice Try.underlying28 cells_Proof (by decide) opensProof
def szProofS (xs : List DProof) : Nat := xs.length
theorem cntProofS_le (xs : List DProof) : (Mk.list mkProof).n xs ≤ 8 * szProofS xs := cntList_sz0 mkProof (fun x => by have := mkProof_le x; omega) xs
theorem ProofS_at {w : World} {B : Nat} {A : Option Addr} {n c : Nat} {xs : List DProof} (h : rProofS.rd w B [.slice A n c] xs) {i : Nat} (hi : i < xs.length) : ∃ b off, A = some ⟨b, off, none⟩ ∧ b < B ∧ rProof.rd w B [.int .i64 xs[i].Node, .int .i64 xs[i].Round, .int .i64 xs[i].MAC] xs[i] ∧ w.cell? ⟨b, off + i * 3, none⟩ = some (.int .i64 xs[i].Node) ∧ w.cell? ⟨b, off + i * 3 + 1, none⟩ = some (.int .i64 xs[i].Round) ∧ w.cell? ⟨b, off + i * 3 + 2, none⟩ = some (.int .i64 xs[i].MAC) := by
  obtain ⟨b, off, cs, hA, hb, hr, hc⟩ := rd_elem h hi
  obtain ⟨rfl, _, _, _⟩ := rProof_rd.1 hr
  exact ⟨b, off, hA, hb, hr, by simpa [rProof, Rp.as, Rp.pair, Rp.int] using hc 0 _ rfl, by simpa [rProof, Rp.as, Rp.pair, Rp.int] using hc 1 _ rfl, by simpa [rProof, Rp.as, Rp.pair, Rp.int] using hc 2 _ rfl⟩
theorem rProof_size : rProof.size = 3 := rfl
set_option maxHeartbeats 800000 in
theorem toProofS_c (w : World) (v : Value) (xs : List DProof) (hv : rProofS.rd w w.heap.size [v] xs) (hz : szProofS xs ≤ 1048576) : Calls Try.prog 39 #[v] w (Ret rProofS w xs) := by
  obtain ⟨A, c, rfl, hc1, hc2⟩ := rd_slice hv
  have HV := Lib.hid hv
  clear hv hc1 hc2
  have hl : xs.length ≤ 1048576 := by unfold szProofS at hz; omega
  go_enter Try.func39, Try.ntmps39
  go_wp2_with (at_make; refine wpList_mk _ elProofS rfl _ _ rfl xs.length w.heap.size rfl rfl (by omega) (Nat.le_refl _) ?_; intro w1 hown hb1)
  have hmade : Own rProofS w.heap.size w1 [.slice (some ⟨w.heap.size, 0, none⟩) xs.length xs.length] (fillTo ⟨0, 0, 0⟩ xs 0) [w.heap.size] := by
    rw [fillTo_zero]
    exact Own.made (R := rProof) hown (rProof_ow.2 ⟨rfl, rfl, ⟨by decide, by decide⟩, ⟨by decide, by decide⟩, ⟨by decide, by decide⟩⟩)
  clear hown
  go_loopw [4] (fun i wr => ∃ (k : Nat) (F : List Nat), k ≤ xs.length ∧ i = .int .i64 k ∧ Own rProofS w.heap.size wr [.slice (some ⟨w.heap.size, 0, none⟩) xs.length xs.length] (fillTo ⟨0, 0, 0⟩ xs k) F ∧ Below w.heap.size w wr) (fun i _ => xs.length - (intOf i).toNat)
  case atStart => exact ⟨0, _, Nat.zero_le _, rfl, hmade, hb1⟩
  case round =>
    obtain ⟨k, F, hk, rfl, ho, hb⟩ := hrel
    by_cases hlt : k < xs.length
    · obtain ⟨b, off, rfl, hbb, hr, m0, m1, m2⟩ := ProofS_at HV.out hlt
      have a0 := (hb.cell hbb).trans m0
      have a1 := (hb.cell hbb).trans m1
      have a2 := (hb.cell hbb).trans m2
      clear m0 m1 m2
      go_wp2_with fail
      refine (toProof_c _ _ _ (rd_now hr hb)).mono ?_
      intro e w2 h2
      obtain ⟨d, H, rfl, o2, b2⟩ := h2
      have o2' := o2
      obtain ⟨rfl, _, _, _⟩ := rProof_rd.1 o2.rd
      simp only [Rp.val, rProof, Rp.as, if_true]
      have ho2 := ho.below b2
      have hlt' : k < (fillTo ⟨0, 0, 0⟩ xs k).length := by rw [fillTo_len _ _ hk]; exact hlt
      obtain ⟨c, Gc, q1, q2, q3, q4, q5, q6, q7, q8, _, q9⟩ := ho2.elem hlt'
      obtain ⟨rfl, _, _, _, _⟩ := rProof_ow.1 q1.1
      have t0 := q7 0 _ rfl
      have t1 := q7 1 _ rfl
      have t2 := q7 2 _ rfl
      obtain ⟨F2, r1, r2⟩ := q9 w2 _ xs[k] H (Below.refl _ _) (o2.drop hb.size) (fun b hb1 hb2 => by have := o2.2.2 b hb1; have := ho.lt b hb2; omega)
      rw [fillTo_set _ _ hlt] at r1
      have R1 := Lib.hid r1
      have bt : Below w.heap.size w w2 := hb.trans (b2.mono hb.size)
      have f0 : ∀ j, w2.frozen? ⟨w.heap.size, j, none⟩ = false := q8
      clear r1 q1 q2 q3 q4 q6 q7 q8 q9 r2
      simp only [rProof_size, Nat.add_zero] at t0 t1 t2
      go_wp2_with fail
      go_roundw
      case rel => exact ⟨k + 1, F2, by omega, by go_num, R1.out, (by repeat (first | exact Below.refl _ _ | exact bt | exact bt1 | exact bt2 | exact bt3 | exact bt4 | refine Below.alloc ?_ (by first | omega | (simp; done) | (simp; omega)) _ | refine Below.setCell ?_ (by first | omega | (simp; done) | (simp; omega)) _))⟩
      case measure => simp [intOf]; omega
    · go_wp2_with fail
      go_ret
      rw [fillTo_all _ _ hlt] at ho
      exact Ret.slice ho hb
set_option maxHeartbeats 800000 in
theorem eqProofS_c (w : World) (v u : Value) (xs : List DProof) (hv : rProofS.rd w w.heap.size [v] xs) (hu : rProofS.rd w w.heap.size [u] xs) :
    Calls Try.prog 41 #[v, u] w fun e w' => e = .returned (.bool true) ∧ Below w.heap.size w w' := by
  obtain ⟨A, c, rfl, hc1, hc2⟩ := rd_slice hv
  obtain ⟨A', c', rfl, hd1, hd2⟩ := rd_slice hu
  unfold maxLen at hc2 hd2
  have HV := Lib.hid hv
  have HU := Lib.hid hu
  clear hv hu
  go_enter Try.func41, Try.ntmps41
  go_wp2_with fail
  go_loopw [5] (fun i wr => ∃ k : Nat, k ≤ xs.length ∧ i = .int .i64 k ∧ ∃ x : Ext w.heap.size w, wr = x.val) (fun i _ => xs.length - (intOf i).toNat)
  case atStart => exact ⟨0, Nat.zero_le _, rfl, Ext.here _ _, rfl⟩
  case round =>
    obtain ⟨k, hk, rfl, x, rfl⟩ := hrel
    by_cases hlt : k < xs.length
    · obtain ⟨b, off, rfl, hb, hr1, p0, p1, p2⟩ := ProofS_at HV.out hlt
      obtain ⟨b', off', rfl, hb', hr2, q0, q1, q2⟩ := ProofS_at HU.out hlt
      have P0 := fun y : Ext w.heap.size x.val => ((y.cell hb).trans (x.cell hb)).trans p0
      have Q0 := fun y : Ext w.heap.size x.val => ((y.cell hb').trans (x.cell hb')).trans q0
      have P1 := fun y : Ext w.heap.size x.val => ((y.cell hb).trans (x.cell hb)).trans p1
      have Q1 := fun y : Ext w.heap.size x.val => ((y.cell hb').trans (x.cell hb')).trans q1
      have P2 := fun y : Ext w.heap.size x.val => ((y.cell hb).trans (x.cell hb)).trans p2
      have Q2 := fun y : Ext w.heap.size x.val => ((y.cell hb').trans (x.cell hb')).trans q2
      clear p0 q0 p1 q1 p2 q2
      go_wp2_with fail
      refine wp_region_ext w.heap.size (by kernel_rfl) (by kernel_rfl) ?_
      repeat (go_big_quiet_step ((rename_i y; exact Calls.ext y x.size (eqProof_c _ _ _ _ (rd_now hr1 (x.ok.trans y.ok)) (rd_now hr2 (x.ok.trans y.ok))))))
      refine wpQuiet_nil ?_
      rintro _ ⟨y, rfl⟩
      go_wp2_with fail
      go_roundw
      case rel => exact ⟨k + 1, by omega, by go_num, x.step y.ok⟩
      case measure => simp [intOf]; omega
    · go_wp2_with fail
      go_ret
      exact ⟨rfl, x.ok⟩
set_option maxHeartbeats 800000 in
theorem szProofS_c (w : World) (v : Value) (xs : List DProof) (left : Int) (hv : rProofS.rd w w.heap.size [v] xs) (h0 : 0 ≤ left) (h1 : left ≤ 1048576) :
    Calls Try.prog 37 #[v, .int .i64 left] w fun e w' => e = .returned (.int .i64 (lessBy left (szProofS xs))) ∧ Below w.heap.size w w' := by
  obtain ⟨A, c, rfl, hc1, hc2⟩ := rd_slice hv
  unfold maxLen at hc2
  clear hv
  by_cases a : (xs.length : Int) ≤ left
  · go_enter Try.func37, Try.ntmps37
    go_wp2_with fail
    go_ret
    exact ⟨by rw [lessBy_ok (n := szProofS xs) (by unfold szProofS; omega)]; rfl, Below.refl _ _⟩
  · go_enter Try.func37, Try.ntmps37
    go_wp2_with fail
    go_ret
    exact ⟨by rw [lessBy_no (n := szProofS xs) (by unfold szProofS; omega)]; rfl, Below.refl _ _⟩
set_option maxHeartbeats 1600000 in
theorem markProofS_c (w : World) (v : Value) (xs : List DProof) (B : Nat) (F : List Nat) (m : Int) (ho : Own rProofS B w [v] xs F) (hn : (Mk.list mkProof).n xs ≤ 1152921504606846976) (hm0 : 0 ≤ m) (hm1 : m + (Mk.list mkProof).n xs ≤ 1152921504606846976) :
    Calls Try.prog 50 #[v, .int .i64 m] w fun e w' => e = .returned (.int .i64 (m + (Mk.list mkProof).n xs)) ∧ Own rProofS B w' [v] ((Mk.list mkProof).f xs m) F ∧ SameBut F w w' := by
  rw [Mk.list_n] at hn hm1 ⊢
  obtain ⟨A, c, rfl, hc1, hc2⟩ := rd_slice ho.rd
  unfold maxLen at hc2
  have HO := Lib.hid ho
  have hl1 : xs.length ≤ 9223372036854775807 := by omega
  clear ho hc1 hc2
  go_enter Try.func50, Try.ntmps50
  go_wp2_with fail
  go_loopw [1, 5] (fun t i wr => ∃ k : Nat, k ≤ xs.length ∧ i = .int .i64 k ∧ t = .int .i64 (m + (cntList mkProof (xs.take k) : Nat)) ∧ Own rProofS B wr [.slice A xs.length c] (markTo mkProof xs m k) F ∧ SameBut F w wr) (fun _ i _ => xs.length - (intOf i).toNat)
  case atStart => exact ⟨0, Nat.zero_le _, rfl, by simp [cntList], by rw [markTo_zero]; exact HO.out, SameBut.refl _ _⟩
  case round =>
    obtain ⟨k, hk, rfl, rfl, ho, hb⟩ := hrel
    by_cases hlt : k < xs.length
    · obtain ⟨g, cap, hg, hgF⟩ := ho.row (by rw [markTo_len _ _ _ hk]; omega)
      have hA : A = some ⟨g, 0, none⟩ := by injection hg
      subst hA
      have hlt' : k < (markTo mkProof xs m k).length := by rw [markTo_len _ _ _ hk]; exact hlt
      obtain ⟨cc, G, hole, E, hGF, _⟩ := Hole.start ho hlt'
      rw [markTo_at _ _ _ hlt] at E
      have HC := Lib.hid (cntList_succ mkProof xs hlt)
      have hcl := cntList_le mkProof xs (k + 1)
      have HM := Lib.hid (markTo_set mkProof xs m hlt)
      have hcn : cntList mkProof (xs.take k) + mkProof.n xs[k] ≤ cntList mkProof xs := by have := HC.out; omega
      clear hg hcl ho
      generalize hkm : m + ((cntList mkProof (xs.take k) : Nat) : Int) = km at *
      have HK := Lib.hid hkm
      have hk0 : 0 ≤ km := by omega
      have hk1 : km + mkProof.n xs[k] ≤ 1152921504606846976 := by omega
      clear hkm hcn
      generalize hy : xs[k] = y at *
      clear hy
      obtain ⟨rfl, rfl, i0, i1, i2⟩ := rProof_own.1 E
      have hsum : mkProof.n y = 1 + 1 + 1 := by simp [mkProof, Mk.int]; try omega
      rw [hsum] at hk1
      have HN := Lib.hid hsum
      clear hsum E
      have t0 := hole.cell 0 _ rfl
      have t1 := hole.cell 1 _ rfl
      have t2 := hole.cell 2 _ rfl
      simp only [rProof_size, Nat.add_zero] at t0 t1 t2
      have tf := hole.frozen
      have h1 := hole.set 0 (.int .i64 (km)) (by simp)
      have h2 := h1.set 1 (.int .i64 (km + 1)) (by simp)
      have h3 := h2.set 2 (.int .i64 (km + 1 + 1)) (by simp)
      go_wp2_with fail
      go_roundw
      case rel =>
        refine ⟨k + 1, by omega, by go_num, congrArg (Value.int .i64) (by rw [HC.out, HN.out]; have := HK.out; omega), ?_, (((hb.setCell (p := ⟨g, k * rProof.size + 0, none⟩) hgF (.int .i64 (km))).setCell (p := ⟨g, k * rProof.size + 1, none⟩) hgF (.int .i64 (km + 1))).setCell (p := ⟨g, k * rProof.size + 2, none⟩) hgF (.int .i64 (km + 1 + 1)))⟩
        have := h3.done (y := mkProof.f y km) (rProof_own.2 ⟨rfl, rfl, ⟨by simp [mkProof, Mk.int]; omega, by simp [mkProof, Mk.int]; omega⟩, ⟨by simp [mkProof, Mk.int]; omega, by simp [mkProof, Mk.int]; omega⟩, ⟨by simp [mkProof, Mk.int]; omega, by simp [mkProof, Mk.int]; omega⟩⟩)
        rw [HM.out] at this
        exact this
      case measure => simp [intOf]; omega
    · go_wp2_with fail
      go_ret
      rw [markTo_all _ _ _ hlt] at ho
      exact ⟨by rw [List.take_of_length_le (by omega)]; rfl, ho, hb⟩
set_option maxHeartbeats 1600000 in
theorem heldProofS_c (w : World) (v : Value) (xs : List DProof) (m : Int) (hv : rProofS.rd w w.heap.size [v] ((Mk.list mkProof).f xs m)) (hm0 : 0 ≤ m) (hm1 : m + (Mk.list mkProof).n xs ≤ 1152921504606846976) :
    Calls Try.prog 53 #[v, .int .i64 m] w fun e w' => e = .returned (.int .i64 (m + (Mk.list mkProof).n xs)) ∧ Below w.heap.size w w' := by
  rw [Mk.list_n] at hm1 ⊢
  have hml : (mkList mkProof xs m).length = xs.length := mkList_len _ _ _
  obtain ⟨A, c, rfl, hc1, hc2⟩ := rd_slice hv
  unfold maxLen at hc2
  have hv' : rProofS.rd w w.heap.size [.slice A (mkList mkProof xs m).length c] (mkList mkProof xs m) := hv
  have hl1 : (mkList mkProof xs m).length ≤ 9223372036854775807 := by have : (mkList mkProof xs m).length ≤ c := hc1; omega
  have HV := Lib.hid hv'
  have HL := Lib.hid hml
  clear hv hv' hc1 hc2
  show Calls _ _ #[.slice A (mkList mkProof xs m).length c, _] _ _
  rw [hml] at HV hl1 ⊢
  clear hml
  go_enter Try.func53, Try.ntmps53
  go_wp2_with fail
  go_loopw [1, 5] (fun t i wr => ∃ k : Nat, k ≤ xs.length ∧ i = .int .i64 k ∧ t = .int .i64 (m + (cntList mkProof (xs.take k) : Nat)) ∧ ∃ x : Ext w.heap.size w, wr = x.val) (fun _ i _ => xs.length - (intOf i).toNat)
  case atStart => exact ⟨0, Nat.zero_le _, rfl, by simp [cntList], Ext.here _ _, rfl⟩
  case round =>
    obtain ⟨k, hk, rfl, rfl, x, rfl⟩ := hrel
    by_cases hlt : k < xs.length
    · obtain ⟨b, off, rfl, hb, hr, p0, p1, p2⟩ := ProofS_at HV.out (i := k) (by rw [HL.out]; exact hlt)
      rw [mkList_at mkProof xs m hlt] at hr p0 p1 p2
      have HC := Lib.hid (cntList_succ mkProof xs hlt)
      have hcl := cntList_le mkProof xs (k + 1)
      have hcn : cntList mkProof (xs.take k) + mkProof.n xs[k] ≤ cntList mkProof xs := by have := HC.out; omega
      clear hcl
      generalize hkm : m + ((cntList mkProof (xs.take k) : Nat) : Int) = km at *
      have HK := Lib.hid hkm
      have hk0 : 0 ≤ km := by omega
      have hk1 : km + mkProof.n xs[k] ≤ 1152921504606846976 := by omega
      clear hkm hcn
      generalize hy : xs[k] = y at *
      clear hy
      have hsum : mkProof.n y = 1 + 1 + 1 := by simp [mkProof, Mk.int]; try omega
      rw [hsum] at hk1
      have HN := Lib.hid hsum
      clear hsum
      have P0 : ∀ y : Ext w.heap.size w, y.val.cell? ⟨b, off + k * 3, none⟩ = some (.int .i64 (km)) := fun z => (z.cell hb).trans (by first | exact p0 | simpa [mkProof, Mk.int, Int.add_assoc] using p0)
      have P1 : ∀ y : Ext w.heap.size w, y.val.cell? ⟨b, off + k * 3 + 1, none⟩ = some (.int .i64 (km + 1)) := fun z => (z.cell hb).trans (by first | exact p1 | simpa [mkProof, Mk.int, Int.add_assoc] using p1)
      have P2 : ∀ y : Ext w.heap.size w, y.val.cell? ⟨b, off + k * 3 + 2, none⟩ = some (.int .i64 (km + 1 + 1)) := fun z => (z.cell hb).trans (by first | exact p2 | simpa [mkProof, Mk.int, Int.add_assoc] using p2)
      clear hr p0 p1 p2
      go_wp2_with fail
      go_roundw
      case rel => exact ⟨k + 1, by omega, by go_num, congrArg (Value.int .i64) (by rw [HC.out, HN.out]; have := HK.out; omega), x, rfl⟩
      case measure => simp [intOf]; omega
    · go_wp2_with fail
      go_ret
      exact ⟨by rw [List.take_of_length_le (by omega)]; rfl, x.ok⟩
end Go.Proofs.Ytpjflcllpmjjiaa
