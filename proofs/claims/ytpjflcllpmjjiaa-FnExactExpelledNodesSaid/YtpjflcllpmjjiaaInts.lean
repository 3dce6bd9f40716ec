/- Contracts of the laws' helpers on slices of ints. -/
import Derived.Test.YtpjflcllpmjjiaaRows
import Derived.Test.YtpjflcllpmjjiaaRow
import Derived.Test.YtpjflcllpmjjiaaOpen
namespace Go.Proofs.Ytpjflcllpmjjiaa
open Go.RowKit
set_option linter.unusedVariables false

abbrev rInt : Rp Int := Rp.int 3
abbrev rIntS : Rp (List Int) := Rp.slice 23 rInt
theorem elIntS : Elem Try.prog 23 3 [.int .i64 0] 8 := Elem.of (.int .i64 0) Try.underlying23 (by kernel_rfl) rfl (by decide) (by decide)
theorem cells_int : Try.prog.cellsOf 3 = 1 := by kernel_rfl
theorem cells_IntS : Try.prog.cellsOf 23 = 1 := by kernel_rfl
theorem opensInt : Opens Try.prog 3 rInt := opens_int Try.underlying3
theorem opensIntS : Opens Try.prog 23 rIntS := opens_slice Try.underlying23 cells_int (by decide) opensInt
def szIntS (xs : List Int) : Nat := xs.length

theorem IntS_at {w : World} {B : Nat} {A : Option Addr} {n c : Nat} {xs : List Int} (h : rIntS.rd w B [.slice A n c] xs) {i : Nat} (hi : i < xs.length) :
    ∃ b off, A = some ⟨b, off, none⟩ ∧ b < B ∧ I64 xs[i] ∧ w.cell? ⟨b, off + i, none⟩ = some (.int .i64 xs[i]) := by
  obtain ⟨b, off, cs, hA, hb, ⟨rfl, h1⟩, hc⟩ := rd_elem h hi
  exact ⟨b, off, hA, hb, h1, by simpa [Rp.int] using hc 0 _ rfl⟩
theorem IntS_i64 {w : World} {B : Nat} {A : Option Addr} {n c : Nat} {xs : List Int} (h : rIntS.rd w B [.slice A n c] xs) : ∀ x ∈ xs, I64 x := by
  intro x hx
  obtain ⟨i, hi, rfl⟩ := List.getElem_of_mem hx
  obtain ⟨_, _, _, _, h, _⟩ := IntS_at h hi
  exact h
/-- the cells of a row of ints -/
abbrev icells (xs : List Int) : List Value := xs.map (Value.int .i64)

theorem ows_ints {w : World} : ∀ {xs : List Int} {vs : List (List Value)} {Fs : List (List Nat)}, Ows rInt w vs xs Fs ↔ vs = xs.map (fun x => [.int .i64 x]) ∧ (∀ x ∈ xs, I64 x) ∧ Fs = xs.map (fun _ => [])
  | [], [], [] => by simp [Ows]
  | [], [], _ :: _ => by simp [Ows]
  | [], _ :: _, _ => by simp [Ows]
  | _ :: _, [], _ => by simp [Ows]
  | _ :: _, _ :: _, [] => by simp [Ows]
  | x :: xs, v :: vs, F :: Fs => by
    have e : rInt.ow w v x F ↔ v = [.int .i64 x] ∧ I64 x ∧ F = [] := Iff.rfl
    simp only [Ows, ows_ints (xs := xs), e, List.map_cons, List.cons.injEq, List.mem_cons, forall_eq_or_imp]
    constructor
    · rintro ⟨⟨a, b, c⟩, d, e, f⟩; exact ⟨⟨a, d⟩, ⟨b, e⟩, c, f⟩
    · rintro ⟨⟨a, d⟩, ⟨b, e⟩, c, f⟩; exact ⟨⟨a, b, c⟩, d, e, f⟩
theorem flat_ints (xs : List Int) : (xs.map (fun x => [Value.int .i64 x])).flatten = icells xs := by
  induction xs with
  | nil => rfl
  | cons x xs ih => simp [ih]
theorem flat_nils {α : Type} (xs : List α) : (xs.map (fun _ => ([] : List Nat))).flatten = [] := by
  induction xs with
  | nil => rfl
  | cons x xs ih => simp [ih]
theorem ints_ow {w : World} {v : Value} {xs : List Int} {F : List Nat} : rIntS.ow w [v] xs F ↔ w.ownsRow 0 3 1 v xs.length (icells xs) ∧ (∀ x ∈ xs, I64 x) ∧ F = Value.blk v := by
  constructor
  · rintro ⟨v', vs, Fs, e, h1, h2, h3⟩
    obtain ⟨rfl, h4, rfl⟩ := ows_ints.1 h2
    simp only [List.cons.injEq, and_true] at e
    subst e
    rw [flat_ints] at h1
    rw [flat_nils, List.append_nil] at h3
    exact ⟨h1, h4, h3⟩
  · rintro ⟨h1, h2, h3⟩
    exact ⟨v, _, _, rfl, by rw [flat_ints]; exact h1, ows_ints.2 ⟨rfl, h2, rfl⟩, by rw [flat_nils, List.append_nil]; exact h3⟩

/-- a row of ints of the call's own -/
theorem Own.ints {B : Nat} {w : World} {v : Value} {xs : List Int} {n : Nat} (h1 : w.ownsRow B 3 1 v n (icells xs)) (h2 : ∀ x ∈ xs, I64 x) : Own rIntS B w [v] xs (Value.blk v) := by
  have hn : n = xs.length := by have := h1.1; simp at this; exact this.symm
  subst hn
  exact ⟨ints_ow.2 ⟨own_zero h1, h2, rfl⟩, blk_nodup v, own_ge h1⟩
theorem Ret.ints {w w' : World} {v : Value} {xs : List Int} {n : Nat} (h1 : w'.ownsRow w.heap.size 3 1 v n (icells xs)) (h2 : ∀ x ∈ xs, I64 x) (h4 : Below w.heap.size w w') :
    Ret rIntS w xs (.returned v) w' := ⟨[v], Value.blk v, rfl, Own.ints h1 h2, h4⟩
theorem cnt_ints (xs : List Int) : cntList Mk.int xs = xs.length := by
  induction xs with
  | nil => rfl
  | cons x xs ih => rw [cntList, ih, List.length_cons]; show 1 + xs.length = _; omega
theorem cntIntS_le (xs : List Int) : (Mk.list Mk.int).n xs ≤ 8 * szIntS xs := by rw [Mk.list_n, cnt_ints]; unfold szIntS; omega
theorem mkInts_n (xs : List Int) : (Mk.list Mk.int).n xs = xs.length := cnt_ints xs

set_option maxHeartbeats 400000 in
theorem eqIntS_c (w : World) (v u : Value) (xs : List Int) (hv : rIntS.rd w w.heap.size [v] xs) (hu : rIntS.rd w w.heap.size [u] xs) :
    Calls Try.prog 14 #[v, u] w fun e w' => e = .returned (.bool true) ∧ Below w.heap.size w w' := by
  obtain ⟨A, c, rfl, hc1, hc2⟩ := rd_slice hv
  obtain ⟨A', c', rfl, hd1, hd2⟩ := rd_slice hu
  unfold maxLen at hc2 hd2
  have HV := Lib.hid hv
  have HU := Lib.hid hu
  clear hv hu
  go_enter Try.func14, Try.ntmps14
  go_wp2
  go_loopw [5] (fun i wr => ∃ k : Nat, k ≤ xs.length ∧ i = .int .i64 k ∧ ∃ x : Ext w.heap.size w, wr = x.val) (fun i _ => xs.length - (intOf i).toNat)
  case atStart => exact ⟨0, Nat.zero_le _, rfl, Ext.here _ _, rfl⟩
  case round =>
    obtain ⟨k, hk, rfl, x, rfl⟩ := hrel
    by_cases hlt : k < xs.length
    · obtain ⟨b, off, rfl, hb, hi1, h1⟩ := IntS_at HV.out hlt
      obtain ⟨b', off', rfl, hb', hi2, h2⟩ := IntS_at HU.out hlt
      have H1 : ∀ y : Ext w.heap.size x.val, y.val.cell? ⟨b, off + k, none⟩ = some (.int .i64 xs[k]) := fun y => by rw [y.cell hb, x.cell hb, h1]
      have H2 : ∀ y : Ext w.heap.size x.val, y.val.cell? ⟨b', off' + k, none⟩ = some (.int .i64 xs[k]) := fun y => by rw [y.cell hb', x.cell hb', h2]
      go_wp2
      refine wp_region_ext w.heap.size (by kernel_rfl) (by kernel_rfl) ?_
      repeat (go_big_quiet_step (fail))
      refine wpQuiet_nil ?_
      rintro _ ⟨y, rfl⟩
      go_wp2
      go_roundw
      case rel => exact ⟨k + 1, by omega, by go_num, x.step y.ok⟩
      case measure => simp [intOf]; omega
    · go_wp2
      go_ret
      exact ⟨rfl, x.ok⟩

set_option maxHeartbeats 400000 in
theorem toIntS_c (w : World) (v : Value) (xs : List Int) (hv : rIntS.rd w w.heap.size [v] xs) (hz : szIntS xs ≤ 1048576) :
    Calls Try.prog 12 #[v] w (Ret rIntS w xs) := by
  obtain ⟨A, c, rfl, hc1, hc2⟩ := rd_slice hv
  have HV := Lib.hid hv
  have hl : xs.length ≤ 1048576 := hz
  clear hv hc1 hc2 hz
  go_enter Try.func12, Try.ntmps12
  go_wp2_with (at_make; refine wpList_mk _ elIntS rfl _ _ rfl xs.length w.heap.size rfl rfl (by omega) (Nat.le_refl _) ?_; intro w1 hown hb1)
  have hmade : Own rIntS w.heap.size w1 [.slice (some ⟨w.heap.size, 0, none⟩) xs.length xs.length] (fillTo 0 xs 0) [w.heap.size] := by
    rw [fillTo_zero]
    exact Own.made (R := rInt) hown ⟨rfl, ⟨by decide, by decide⟩, rfl⟩
  clear hown
  go_loopw [4] (fun i wr => ∃ (k : Nat) (F : List Nat), k ≤ xs.length ∧ i = .int .i64 k ∧ Own rIntS w.heap.size wr [.slice (some ⟨w.heap.size, 0, none⟩) xs.length xs.length] (fillTo 0 xs k) F ∧ Below w.heap.size w wr) (fun i _ => xs.length - (intOf i).toNat)
  case atStart => exact ⟨0, _, Nat.zero_le _, rfl, hmade, hb1⟩
  case round =>
    obtain ⟨k, F, hk, rfl, ho, hb⟩ := hrel
    by_cases hlt : k < xs.length
    · obtain ⟨b, off, rfl, hbb, hi1, h1⟩ := IntS_at HV.out hlt
      have c1 : wr.cell? ⟨b, off + k, none⟩ = some (.int .i64 xs[k]) := (hb.cell hbb).trans h1
      have hlt' : k < (fillTo 0 xs k).length := by rw [fillTo_len _ _ hk]; exact hlt
      obtain ⟨c0, Gc, ⟨⟨rfl, _, _⟩, _, _⟩, q2, q3, q4, q5, q6, q7⟩ := ho.at_ hlt'
      have t0 := q4 0 _ rfl
      have f0 := q5 k
      have r1 := q6 0 (.int .i64 xs[k]) xs[k] (by simp) ⟨⟨rfl, hi1, by assumption⟩, by assumption, by assumption⟩
      rw [fillTo_set _ _ hlt] at r1
      simp only [Rp.int, Nat.mul_one, Nat.add_zero] at t0 r1
      have R1 := Lib.hid r1
      clear r1 q2 q3 q4 q5 q6 q7 h1
      go_wp2
      go_roundw
      case rel => exact ⟨k + 1, F, by omega, by go_num, R1.out, hb.setCell (Nat.le_refl _) _⟩
      case measure => simp [intOf]; omega
    · go_wp2
      go_ret
      rw [fillTo_all _ _ hlt] at ho
      exact Ret.slice ho hb

set_option maxHeartbeats 400000 in
theorem markIntS_c (w : World) (v : Value) (xs : List Int) (B : Nat) (F : List Nat) (m : Int) (ho : Own rIntS B w [v] xs F) (hn : (Mk.list Mk.int).n xs ≤ 1152921504606846976) (hm0 : 0 ≤ m) (hm1 : m + (Mk.list Mk.int).n xs ≤ 1152921504606846976) :
    Calls Try.prog 15 #[v, .int .i64 m] w fun e w' => e = .returned (.int .i64 (m + (Mk.list Mk.int).n xs)) ∧ Own rIntS B w' [v] ((Mk.list Mk.int).f xs m) F ∧ SameBut F w w' := by
  rw [mkInts_n] at *
  obtain ⟨A, c, rfl, hc1, hc2⟩ := rd_slice ho.rd
  unfold maxLen at hc2
  have HO := Lib.hid ho
  clear ho hc1 hc2
  go_enter Try.func15, Try.ntmps15
  go_wp2
  go_loopw [1, 5] (fun t i wr => ∃ k : Nat, k ≤ xs.length ∧ i = .int .i64 k ∧ t = .int .i64 (m + k) ∧ Own rIntS B wr [.slice A xs.length c] (markTo Mk.int xs m k) F ∧ SameBut F w wr) (fun _ i _ => xs.length - (intOf i).toNat)
  case atStart => exact ⟨0, Nat.zero_le _, rfl, by simp, by rw [markTo_zero]; exact HO.out, SameBut.refl _ _⟩
  case round =>
    obtain ⟨k, hk, rfl, rfl, ho, hb⟩ := hrel
    by_cases hlt : k < xs.length
    · obtain ⟨g, cap, hg, hgF⟩ := ho.row (by rw [markTo_len _ _ _ hk]; omega)
      have hA : A = some ⟨g, 0, none⟩ := by injection hg
      subst hA
      have hlt' : k < (markTo Mk.int xs m k).length := by rw [markTo_len _ _ _ hk]; exact hlt
      obtain ⟨c0, Gc, ⟨⟨rfl, _, _⟩, _, _⟩, q2, q3, q4, q5, q6, q7⟩ := ho.at_ hlt'
      have t0 := q4 0 _ rfl
      have f0 := q5 k
      have r1 := q6 0 (.int .i64 (m + k)) (m + k) (by simp) ⟨⟨rfl, ⟨by omega, by omega⟩, by assumption⟩, by assumption, by assumption⟩
      have hs := markTo_set Mk.int xs m hlt
      rw [cnt_ints, show (Mk.int.f xs[k] (m + ((xs.take k).length : Nat))) = m + k by simp [Mk.int]; omega] at hs
      rw [hs] at r1
      simp only [Rp.int, Nat.mul_one, Nat.add_zero] at t0 r1
      have R1 := Lib.hid r1
      clear r1 q2 q3 q4 q5 q6 q7 hs hg
      go_wp2
      go_roundw
      case rel => exact ⟨k + 1, by omega, by go_num, by go_num, R1.out, hb.setCell hgF _⟩
      case measure => simp [intOf]; omega
    · go_wp2
      go_ret
      rw [markTo_all _ _ _ hlt] at ho
      exact ⟨ret_int (by omega), ho, hb⟩


set_option maxHeartbeats 400000 in
theorem heldIntS_c (w : World) (v : Value) (xs : List Int) (m : Int) (hv : rIntS.rd w w.heap.size [v] ((Mk.list Mk.int).f xs m)) (hm0 : 0 ≤ m) (hm1 : m + (Mk.list Mk.int).n xs ≤ 1152921504606846976) :
    Calls Try.prog 16 #[v, .int .i64 m] w fun e w' => e = .returned (.int .i64 (m + (Mk.list Mk.int).n xs)) ∧ Below w.heap.size w w' := by
  rw [mkInts_n] at *
  have hml : (mkList Mk.int xs m).length = xs.length := mkList_len _ _ _
  obtain ⟨A, c, rfl, hc1, hc2⟩ := rd_slice hv
  have hv' : rIntS.rd w w.heap.size [.slice A (mkList Mk.int xs m).length c] (mkList Mk.int xs m) := hv
  have HV := Lib.hid hv'
  have HL := Lib.hid hml
  clear hv hv' hc1 hc2
  show Calls _ _ #[.slice A (mkList Mk.int xs m).length c, _] _ _
  rw [hml] at HV ⊢
  clear hml
  go_enter Try.func16, Try.ntmps16
  go_wp2
  go_loopw [1, 5] (fun t i wr => ∃ k : Nat, k ≤ xs.length ∧ i = .int .i64 k ∧ t = .int .i64 (m + k) ∧ (∃ x : Ext w.heap.size w, wr = x.val)) (fun _ i _ => xs.length - (intOf i).toNat)
  case atStart => exact ⟨0, Nat.zero_le _, rfl, by simp, ⟨Ext.here _ _, rfl⟩⟩
  case round =>
    obtain ⟨k, hk, rfl, rfl, ⟨x, rfl⟩⟩ := hrel
    by_cases hlt : k < xs.length
    · obtain ⟨b, off, rfl, hb, hi1, h1⟩ := IntS_at HV.out (i := k) (by rw [HL.out]; exact hlt)
      have hk2 : (mkList Mk.int xs m)[k]'(by rw [HL.out]; exact hlt) = m + k := by rw [mkList_at _ _ _ hlt, cnt_ints]; simp [Mk.int]; omega
      rw [hk2] at h1
      have H1 : x.val.cell? ⟨b, off + k, none⟩ = some (.int .i64 (m + k)) := by rw [x.cell hb, h1]
      clear hi1 h1 hk2
      go_wp2
      go_roundw
      case rel => exact ⟨k + 1, by omega, by go_num, by go_num, ⟨x, rfl⟩⟩
      case measure => simp [intOf]; omega
    · go_wp2
      go_ret
      exact ⟨ret_int (by omega), x.ok⟩
end Go.Proofs.Ytpjflcllpmjjiaa
