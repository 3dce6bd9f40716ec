/- Contracts of ExpelledNodes. -/
import Derived.Test.YtpjflcllpmjjiaaL29c
import Derived.Test.YtpjflcllpmjjiaaInts
namespace Go.Proofs.Ytpjflcllpmjjiaa
open Go.RowKit
set_option linter.unusedVariables false
set_option linter.unusedSimpArgs false
def upTo (f : Int → Bool) (k : Nat) : List Int := ((List.range k).map fun i : Nat => (i : Int)).filter f
theorem upTo_yes (f : Int → Bool) (k : Nat) (h : f k = true) : upTo f (k + 1) = upTo f k ++ [(k : Int)] := by
  simp [upTo, List.range_succ, List.filter_append, h]
theorem upTo_no (f : Int → Bool) (k : Nat) (h : f k = false) : upTo f (k + 1) = upTo f k := by
  simp [upTo, List.range_succ, List.filter_append, h]
theorem upTo_len (f : Int → Bool) (k : Nat) : (upTo f k).length ≤ k := by
  have := List.length_filter_le f ((List.range k).map fun i : Nat => (i : Int))
  simpa [upTo] using this
def dExpelledNodes (l : DLedger) : List Int := upTo (dIsExpelled l) 8
theorem dExpelledNodes_cnt (l : DLedger) (h : szLedger l ≤ 1048576) : (Mk.list Mk.int).n (dExpelledNodes l) ≤ 1000000000000 := by
  have := cntIntS_le (dExpelledNodes l)
  have := upTo_len (dIsExpelled l) 8
  unfold szIntS dExpelledNodes at *
  omega
set_option maxHeartbeats 800000 in
theorem implExpelledNodes_c (w : World) (cs : List Value) (l : DLedger) (hv : rLedger.rd w w.heap.size cs l) (hz : szLedger l ≤ 1048576) :
    Calls Try.prog 30 #[.agg cs.toArray] w (Ret rIntS w (dExpelledNodes l)) := by
  have HV := Lib.hid hv
  obtain ⟨c0, rfl, k0⟩ := rLedger_rd.1 hv
  obtain ⟨A, c, rfl, hc1, hc2⟩ := rd_slice k0
  clear hv k0 hc1 hc2
  go_enter Try.func30, Try.ntmps30
  go_wp2_with fail
  go_loopw [3, 5] (fun o i wr => ∃ (k : Nat) (F : List Nat), k ≤ 8 ∧ i = .int .i64 k ∧ Own rIntS (w.heap.size + 1) wr [o] (upTo (dIsExpelled l) k) F ∧ Below (w.heap.size + 1) (w.alloc (.cells #[.slice A l.Proofs.length c] 35)) wr) (fun _ i _ => 8 - (intOf i).toNat)
  case atStart => exact ⟨0, [], by omega, rfl, Own.none_, Below.refl _ _⟩
  case round =>
    obtain ⟨k, F, hk, rfl, ho, hb⟩ := hrel
    have bx : Box wr w.heap.size 35 [.slice A l.Proofs.length c] := (Box.new _ _ _).below hb (by omega)
    have x0 := bx.get 0 rfl
    have hbw : Below w.heap.size w wr := ((Below.refl _ _).alloc (Nat.le_refl _) _).trans (hb.mono (by omega))
    have hs : w.heap.size + 1 ≤ wr.heap.size := by have := hb.size; simp at this; omega
    have hul := upTo_len (dIsExpelled l) k
    obtain ⟨Av, cv, rfl, _, _⟩ := rd_slice ho.rd
    by_cases hlt : k < 8
    · cases he : dIsExpelled l (k : Int)
      · have HE := Lib.hid he
        have HS := Lib.hid (upTo_no _ _ he)
        clear he
        go_wp2_with fail
        refine (implIsExpelled_c _ _ l k (rd_now HV.out hbw) hz _ HE.out).mono ?_
        rintro e w1 ⟨rfl, b1⟩
        go_wp2_with fail
        go_roundw
        case rel => exact ⟨k + 1, F, by omega, by go_num, by rw [HS.out]; exact ho.below b1, hb.trans (b1.mono hs)⟩
        case measure => simp [intOf]; omega
      · have HE := Lib.hid he
        have HS := Lib.hid (upTo_yes _ _ he)
        clear he
        go_wp2_with fail
        refine (implIsExpelled_c _ _ l k (rd_now HV.out hbw) hz _ HE.out).mono ?_
        rintro e w1 ⟨rfl, b1⟩
        obtain ⟨vs, hrow, hrds, hblk⟩ := (ho.below b1).flat_row flatInt
        have hb1 := hb.trans (b1.mono hs)
        have hs1 := b1.size
        go_wp2_with (at_builtin; refine wpList_push (w.alloc (.cells #[.slice A l.Proofs.length c] 35)) w1 elIntS rfl _ _ rfl (w.heap.size + 1) _ _ _ rfl (by exact hrow) [.int .i64 k] (by rfl) rfl (by simp [Value.oneCell']) (by omega) hb1 (by simp) ?_; intro v1 w2 ho1 hb2 _ _)
        go_roundw
        case rel =>
          have on := Own.pushed (R := rInt) (t := 23) flatInt ho1 rfl hrds (x := (k : Int)) (wb := w) (B2 := 0) ⟨rfl, by omega, by omega⟩
          rw [← HS.out] at on
          exact ⟨k + 1, _, by omega, by go_num, on, hb2⟩
        case measure => simp [intOf]; omega
    · have hk8 : k = 8 := by omega
      subst hk8
      go_wp2_with fail
      go_ret
      exact Ret.slice (ho.drop (by omega)) hbw
set_option maxHeartbeats 800000 in
theorem specExpelledNodes_c (w : World) (cs : List Value) (l : DLedger) (hv : rLedger.rd w w.heap.size cs l) (hz : szLedger l ≤ 1048576) :
    Calls Try.prog 29 #[.agg cs.toArray] w (Ret rIntS w (dExpelledNodes l)) := by
  have HV := Lib.hid hv
  obtain ⟨c0, rfl, k0⟩ := rLedger_rd.1 hv
  obtain ⟨A, c, rfl, hc1, hc2⟩ := rd_slice k0
  clear hv k0 hc1 hc2
  go_enter Try.func29, Try.ntmps29
  go_wp2_with fail
  go_loopw [3, 4] (fun o i wr => ∃ (k : Nat) (F : List Nat), k ≤ 8 ∧ i = .int .i64 k ∧ Own rIntS (w.heap.size + 1) wr [o] (upTo (dIsExpelled l) k) F ∧ Below (w.heap.size + 1) (w.alloc (.cells #[.slice A l.Proofs.length c] 35)) wr) (fun _ i _ => 8 - (intOf i).toNat)
  case atStart => (have he : Own rIntS (w.heap.size + 1) ((w.alloc (.cells #[.slice A l.Proofs.length c] 35)).alloc (.cells #[] 3)) [.slice (some ⟨(w.alloc (.cells #[.slice A l.Proofs.length c] 35)).heap.size, 0, none⟩) 0 0] [] _ := Own.empty (World.ownsRow_made (w.alloc (.cells #[.slice A l.Proofs.length c] 35)) #[] 0 (by simp) (by simp [maxLen]) rfl)); exact ⟨0, _, by omega, rfl, by simpa [upTo] using he, (Below.refl _ _).alloc (by simp) _⟩
  case round =>
    obtain ⟨k, F, hk, rfl, ho, hb⟩ := hrel
    have bx : Box wr w.heap.size 35 [.slice A l.Proofs.length c] := (Box.new _ _ _).below hb (by omega)
    have x0 := bx.get 0 rfl
    have hbw : Below w.heap.size w wr := ((Below.refl _ _).alloc (Nat.le_refl _) _).trans (hb.mono (by omega))
    have hs : w.heap.size + 1 ≤ wr.heap.size := by have := hb.size; simp at this; omega
    have hul := upTo_len (dIsExpelled l) k
    obtain ⟨Av, cv, rfl, _, _⟩ := rd_slice ho.rd
    by_cases hlt : k < 8
    · cases he : dIsExpelled l (k : Int)
      · have HE := Lib.hid he
        have HS := Lib.hid (upTo_no _ _ he)
        clear he
        go_wp2_with fail
        refine (specIsExpelled_c _ _ l k (rd_now HV.out hbw) hz _ HE.out).mono ?_
        rintro e w1 ⟨rfl, b1⟩
        go_wp2_with fail
        go_roundw
        case rel => exact ⟨k + 1, F, by omega, by go_num, by rw [HS.out]; exact ho.below b1, hb.trans (b1.mono hs)⟩
        case measure => simp [intOf]; omega
      · have HE := Lib.hid he
        have HS := Lib.hid (upTo_yes _ _ he)
        clear he
        go_wp2_with fail
        refine (specIsExpelled_c _ _ l k (rd_now HV.out hbw) hz _ HE.out).mono ?_
        rintro e w1 ⟨rfl, b1⟩
        obtain ⟨vs, hrow, hrds, hblk⟩ := (ho.below b1).flat_row flatInt
        have hb1 := hb.trans (b1.mono hs)
        have hs1 := b1.size
        go_wp2_with (at_builtin; refine wpList_push (w.alloc (.cells #[.slice A l.Proofs.length c] 35)) w1 elIntS rfl _ _ rfl (w.heap.size + 1) _ _ _ rfl (by exact hrow) [.int .i64 k] (by rfl) rfl (by simp [Value.oneCell']) (by omega) hb1 (by simp) ?_; intro v1 w2 ho1 hb2 _ _)
        go_roundw
        case rel =>
          have on := Own.pushed (R := rInt) (t := 23) flatInt ho1 rfl hrds (x := (k : Int)) (wb := w) (B2 := 0) ⟨rfl, by omega, by omega⟩
          rw [← HS.out] at on
          exact ⟨k + 1, _, by omega, by go_num, on, hb2⟩
        case measure => simp [intOf]; omega
    · have hk8 : k = 8 := by omega
      subst hk8
      go_wp2_with fail
      go_ret
      exact Ret.slice (ho.drop (by omega)) hbw
end Go.Proofs.Ytpjflcllpmjjiaa
