/- The law FnBases returns true for every input and leaves its arguments as they were. No condition. -/
import Derived.Test.YtpffjagdefkfkaaFnBases2
import Derived.Test.YtpffjagdefkfkaaLA
import Derived.Test.YtpffjagdefkfkaaProg
import Derived.Test.YtpffjagdefkfkaaRows
import Derived.Test.YtpffjagdefkfkaaFX
namespace Go.Proofs.Ytpffjagdefkfkaa
open Go.RowKit
set_option linter.unusedVariables false
set_option linter.unusedSimpArgs false
def newC (code : List Int) : T109 := (code, 0, hsTo code (min (List.length code) 4000))
abbrev Q_spec_l1New := (fun (x0 : (List Int)) => Sh.fit s22 x0)
def B_spec_l1New : NS := { t := 109, s := s109, dom := [s22], pre := fun x => Q_spec_l1New x.1, g := fun x => (newC x.1) }
def S_spec_l1New : Sum := nSum 46 B_spec_l1New
def S_spec_l1New_tab : List (Nat × Sum) := []
theorem S_spec_l1New_ok : FnOK Try.prog 46 S_spec_l1New := by
 refine at_enterN (B := B_spec_l1New) 32 (fun x => ⟨[(0, aF (.u8 5) x.1)], []⟩) Try.func46 rfl (by kernel_rfl) (fun x => rfl) ?_
 rintro w0 Z0 ⟨x0, u⟩ a w
 revert x0
 intro (x0 : (List Int)) hpre hlens h
 replace h : At w0 Z0 [] 32 ⟨[(0, aF (.u8 5) x0)], []⟩ a w := h
 replace hpre : Q_spec_l1New x0 := hpre
 have hl1 : List.length x0 ≤ 9223372036854775807 := hlens.1.1
 have hu0 : u8L x0 := hlens.1.2
 have hT : TabOK Try.prog S_spec_l1New_tab := .nil
 have hf0 : Sh.fit s22 x0 := hpre
 have hn0_1 : List.length x0 ≤ 1073741824 := hf0.1
 refine wp_seq ?_
 refine at_regq [] { ts := [0, 2], os := [] } [] gamOK hT h (by kernel_rfl) trivial fun a w h => then_normal (wp_seq ?_)
 refine at_regq [{}, {}, { nw := true }] { ts := [0, 2, 3], os := [] } [I64 (193017 + ((List.length x0 : Nat) : Int))] gamOK hT h (by kernel_rfl) ⟨⟨by first | omega | (simp only [lsA]; omega) | (simp <;> omega), by first | omega | (simp only [lsA]; omega) | (simp <;> omega)⟩, trivial⟩ fun a w h => then_normal (wp_seq (wp_seq ?_))
 refine at_regq [] { ts := [0, 2, 3, 4], os := [] } [] gamOK hT h (by kernel_rfl) trivial fun a w h => then_normal (wp_block ?_)
 replace h := at_out (σ' := ⟨[(0, aF (.u8 5) x0), (2, .p (.c (.v (.pointer none)))), (3, aI (193017 + ((List.length x0 : Nat) : Int))), (4, aI 0)], []⟩) { ts := [0, 2, 3, 4], os := [] } h (by kernel_rfl)
 refine at_loop (fun i : Nat => (⟨[(0, aF (.u8 5) x0), (2, .p (.c (.v (.pointer none)))), (3, aI (hsTo x0 i)), (4, aI ((i : Nat) : Int))], []⟩ : St)) (fun i => i ≤ (min (List.length x0) 4000)) (fun i => (min (List.length x0) 4000) - i) (0) h (st_congr2 (fun (d0 : Int) (d1 : Int) => (⟨[(0, aF (.u8 5) x0), (2, .p (.c (.v (.pointer none)))), (3, aI d0), (4, aI d1)], []⟩ : St)) (show (193017 + ((List.length x0 : Nat) : Int) : Int) = (hsTo x0 (0)) from by first | with_reducible rfl | (rfl) | rfl) (show (0 : Int) = (((0) : Nat) : Int) from by first | with_reducible rfl | (rfl) | rfl)) (by omega) ?_
 intro i a w hok0 h
 have hu1 := getD_u8 hu0 i
 refine wp_seq (wp_seq ?_)
 by_cases h1 : ((i : Nat) : Int) < ((List.length x0 : Nat) : Int)
 ·refine at_regq [{}, {}, {}, { hint := some (aB true) }] { ts := [0, 2, 3, 4, 13, 14, 15], os := [] } [(AV.p (.c (.v (.bool (decide (((i : Nat) : Int) < ((List.length x0 : Nat) : Int)))))) = AV.p (.c (.v (.bool true))))] gamOK hT h (by kernel_rfl) ⟨hint_bool (decide_eq_true h1), trivial⟩ fun a w h => then_normal ?_
  refine at_test (decide (((i : Nat) : Int) < 4000)) h (by kernel_rfl) (fun h2 => ?_) (fun h2 => ?_)
  ·replace h2 : ((i : Nat) : Int) < 4000 := of_decide_eq_true h2
   refine wp_skip (then_normal (wp_seq (wp_block ?_)))
   refine at_regq [{}, {}, {}, {}, {}, {}, { hint := some (aI (x0.getD i 0)) }, {}, {}, { hint := some (aI (hsF (hsTo x0 i) (x0.getD i 0))) }] { ts := [0, 2, 3, 4, 13, 14], os := [] } [(0 : Int) ≤ ((i : Nat) : Int) ∧ ((i : Nat) : Int) < ((List.length x0 : Nat) : Int), (AV.p (.c (.v (.int .i64 (IntKind.i64.wrap ((x0.getD i 0)))))) = AV.p (.c (.v (.int .i64 ((x0.getD i 0)))))), (AV.p (.c (.v (.int .i64 (IntKind.i64.wrap ((BitVec.ofInt (IntKind.i64).bits (IntKind.i64.wrap ((IntKind.i64.wrap ((IntKind.i64.wrap ((hsTo x0 i) * 137)) + (x0.getD i 0))) + 11)) &&& BitVec.ofInt (IntKind.i64).bits 1073741823).toNat : Int))))) = AV.p (.c (.v (.int .i64 ((hsF (hsTo x0 i) (x0.getD i 0)))))))] gamOK hT h (by kernel_rfl) ⟨(by refine ⟨?_, ?_⟩ <;> (first | omega | (simp only [lsA]; omega) | (simp <;> omega))), hint_int (wrap_id ⟨by first | omega | (simp only [lsA]; omega) | (simp <;> omega), by first | omega | (simp only [lsA]; omega) | (simp <;> omega)⟩), hint_int (by rfl), trivial⟩ fun a w h => in_normal (then_normal ?_)
   refine at_regq [{}, { nw := true }] { ts := [0, 2, 3, 4, 13, 14], os := [] } [I64 (((i : Nat) : Int) + 1)] gamOK hT h (by kernel_rfl) ⟨⟨by first | omega | (simp only [lsA]; omega) | (simp <;> omega), by first | omega | (simp only [lsA]; omega) | (simp <;> omega)⟩, trivial⟩ fun a w h => ?_
   replace h := at_out (σ' := ⟨[(0, aF (.u8 5) x0), (2, .p (.c (.v (.pointer none)))), (3, aI (hsF (hsTo x0 i) (x0.getD i 0))), (4, aI (((i : Nat) : Int) + 1))], []⟩) { ts := [0, 2, 3, 4], os := [] } h (by kernel_rfl)
   exact ⟨i + 1, at_eq h (st_congr2 (fun (d0 : Int) (d1 : Int) => (⟨[(0, aF (.u8 5) x0), (2, .p (.c (.v (.pointer none)))), (3, aI d0), (4, aI d1)], []⟩ : St)) (show ((hsF (hsTo x0 i) (x0.getD i 0)) : Int) = (hsTo x0 (i + 1)) from by first | with_reducible rfl | (rfl) | rfl) (show (((i : Nat) : Int) + 1 : Int) = (((i + 1) : Nat) : Int) from by first | with_reducible rfl | (omega) | rfl)), (by omega), (by omega)⟩
  ·replace h2 : ¬ (((i : Nat) : Int) < 4000) := of_decide_eq_false h2
   refine wp_exit (then_exit ?_)
   replace h := at_out (σ' := ⟨[(0, aF (.u8 5) x0), (2, .p (.c (.v (.pointer none)))), (3, aI (hsTo x0 i))], []⟩) { ts := [0, 2, 3], os := [] } h (by kernel_rfl)
   replace h := at_eq (σ' := ⟨[(0, aF (.u8 5) x0), (2, .p (.c (.v (.pointer none)))), (3, aI (hsTo x0 (min (List.length x0) 4000)))], []⟩) h (st_congr1 (fun (d0 : Int) => (⟨[(0, aF (.u8 5) x0), (2, .p (.c (.v (.pointer none)))), (3, aI d0)], []⟩ : St)) (show ((hsTo x0 i) : Int) = (hsTo x0 (min (List.length x0) 4000)) from by first | with_reducible rfl | (rw [show i = (min (List.length x0) 4000) by omega]) | rfl))
   refine then_exit (in_hit (then_normal (wp_seq ?_)))
   refine at_regq [{}, {}, {}, { ids := [1] }] { ts := [2], os := [1] } [] gamOK hT h (by kernel_rfl) trivial fun a w h => then_normal (wp_ret ?_)
   exact at_returnN (B := B_spec_l1New) (x := (x0, ())) ((x0, (0, (hsTo x0 (min (List.length x0) 4000))))) [] h (by kernel_rfl) trivial (show (x0, (0, (hsTo x0 (min (List.length x0) 4000)))) = newC x0 from by rfl)
 ·refine at_regq [{}, {}, {}, { hint := some (aB false) }] { ts := [0, 2, 3, 4, 13, 14, 15], os := [] } [(AV.p (.c (.v (.bool (decide (((i : Nat) : Int) < ((List.length x0 : Nat) : Int)))))) = AV.p (.c (.v (.bool false))))] gamOK hT h (by kernel_rfl) ⟨hint_bool (decide_eq_false h1), trivial⟩ fun a w h => then_normal ?_
  refine at_test false h (by kernel_rfl) (fun hh => nomatch hh) (fun hh => ?_)
  refine wp_exit (then_exit ?_)
  replace h := at_out (σ' := ⟨[(0, aF (.u8 5) x0), (2, .p (.c (.v (.pointer none)))), (3, aI (hsTo x0 i))], []⟩) { ts := [0, 2, 3], os := [] } h (by kernel_rfl)
  replace h := at_eq (σ' := ⟨[(0, aF (.u8 5) x0), (2, .p (.c (.v (.pointer none)))), (3, aI (hsTo x0 (min (List.length x0) 4000)))], []⟩) h (st_congr1 (fun (d0 : Int) => (⟨[(0, aF (.u8 5) x0), (2, .p (.c (.v (.pointer none)))), (3, aI d0)], []⟩ : St)) (show ((hsTo x0 i) : Int) = (hsTo x0 (min (List.length x0) 4000)) from by first | with_reducible rfl | (rw [show i = (min (List.length x0) 4000) by omega]) | rfl))
  refine then_exit (in_hit (then_normal (wp_seq ?_)))
  refine at_regq [{}, {}, {}, { ids := [1] }] { ts := [2], os := [1] } [] gamOK hT h (by kernel_rfl) trivial fun a w h => then_normal (wp_ret ?_)
  exact at_returnN (B := B_spec_l1New) (x := (x0, ())) ((x0, (0, (hsTo x0 (min (List.length x0) 4000))))) [] h (by kernel_rfl) trivial (show (x0, (0, (hsTo x0 (min (List.length x0) 4000)))) = newC x0 from by rfl)

@[irreducible]
def byteC (x0 : T109) : T109 × Int := (if x0.2.1 < ((List.length x0.1 : Nat) : Int) then ((x0.1, (x0.2.1 + 1, (lcgF x0.2.2))), (and255 (and255 (xorF (lcgF x0.2.2)) + x0.1.getD x0.2.1.toNat 0))) else ((x0.1, (x0.2.1, (lcgF x0.2.2))), (and255 (xorF (lcgF x0.2.2)))))
abbrev Q_spec_l1Byte := (fun (x0 : T109) => 0 ≤ x0.2.1)
def B_spec_l1Byte : BS := { t := 109, s := s109, dom := [], cod := [(.int 3)], pre := fun y x => Q_spec_l1Byte y, upd := fun y x => (byteC y).1, g := fun y x => ((byteC y).2, ()) }
def S_spec_l1Byte : Sum := bSum 119 B_spec_l1Byte
def S_spec_l1Byte_tab : List (Nat × Sum) := []
theorem S_spec_l1Byte_ok : FnOK Try.prog 119 S_spec_l1Byte := by
 refine at_enterB (B := B_spec_l1Byte) 58 (fun v y x => ⟨[(0, aP 1 0)], [(1, oX 109 [.ro (.u8 5) y.1, cI y.2.1, cI y.2.2]), (2, oP 1 v)]⟩) Try.func119 rfl (by kernel_rfl) (fun v y x => rfl) ?_
 rintro w0 Z0 b0 x0 ⟨u⟩ a w
 revert x0
 intro (x0 : T109) hpre hlens0 hlens h
 replace h : At w0 Z0 [b0] 58 ⟨[(0, aP 1 0)], [(1, oX 109 [.ro (.u8 5) x0.1, cI x0.2.1, cI x0.2.2]), (2, oP 1 (Value.pointer (some ⟨b0, 0, none⟩)))]⟩ a w := h
 replace hpre : Q_spec_l1Byte x0 := hpre
 have hl1 : List.length x0.1 ≤ 9223372036854775807 := hlens0.1.1
 have hu0 : u8L x0.1 := hlens0.1.2
 have hT : TabOK Try.prog S_spec_l1Byte_tab := .nil
 have hp : (0 : Int) ≤ x0.2.1 := hpre
 refine wp_seq ?_
 refine at_regq [] { ts := [0, 2], os := [1, 2] } [] gamOK hT h (by kernel_rfl) trivial fun a w h => then_normal (wp_seq ?_)
 refine at_regq [{}, {}, {}, {}, {}, {}, { hint := some (aI (lcgF x0.2.2)) }] { ts := [0, 2], os := [1, 2] } [(AV.p (.c (.v (.int .i64 (IntKind.i64.wrap ((IntKind.i64.wrap (x0.2.2 * 6364136223846793005)) + 1442695040888963407))))) = AV.p (.c (.v (.int .i64 ((lcgF x0.2.2))))))] gamOK hT h (by kernel_rfl) ⟨hint_int (by rfl), trivial⟩ fun a w h => then_normal (wp_seq ?_)
 refine at_anyq [{}, {}, {}, {}, {}, {}, {}, {}, {}, {}, { hint := some (aI (xorF (lcgF x0.2.2))) }, { hint := some (aI (and255 (xorF (lcgF x0.2.2)))) }, {}] { ts := [0, 2, 3], os := [1, 2] } [(0 : Int) ≤ 33, (0 : Int) ≤ 47, (AV.p (.c (.v (.int .i64 (IntKind.i64.wrap ((BitVec.ofInt (IntKind.i64).bits (Int.fdiv (lcgF x0.2.2) (2 ^ (min (33 : Int).toNat (IntKind.i64).bits))) ^^^ BitVec.ofInt (IntKind.i64).bits (Int.fdiv (lcgF x0.2.2) (2 ^ (min (47 : Int).toNat (IntKind.i64).bits)))).toNat : Int))))) = AV.p (.c (.v (.int .i64 ((xorF (lcgF x0.2.2))))))), (AV.p (.c (.v (.int .i64 (IntKind.i64.wrap ((BitVec.ofInt (IntKind.i64).bits (xorF (lcgF x0.2.2)) &&& BitVec.ofInt (IntKind.i64).bits 255).toNat : Int))))) = AV.p (.c (.v (.int .i64 ((and255 (xorF (lcgF x0.2.2))))))))] gamOK hT mixed h (by kernel_rfl) ⟨(by first | omega | (simp only [lsA]; omega) | (simp <;> omega)), (by first | omega | (simp only [lsA]; omega) | (simp <;> omega)), hint_int (by rfl), hint_int (by rfl), trivial⟩ fun a w h => then_normal (wp_seq (wp_seq ?_))
 refine at_anyq [{}, {}, {}, {}, {}, {}, {}, {}, {}, {}] { ts := [0, 2, 3, 34], os := [1, 2] } [] gamOK hT mixed h (by kernel_rfl) trivial fun a w h => then_normal ?_
 refine at_test (decide (x0.2.1 < ((List.length x0.1 : Nat) : Int))) h (by kernel_rfl) (fun h1 => ?_) (fun h1 => ?_)
 ·replace h1 : x0.2.1 < ((List.length x0.1 : Nat) : Int) := of_decide_eq_true h1
  have hu1 := getD_u8 hu0 x0.2.1.toNat
  have ha1 := and255_bd (xorF (lcgF x0.2.2))
  refine wp_seq ?_
  refine at_anyq [{}, {}, {}, {}, {}, {}, {}, {}, {}, {}, {}, { hint := some (aI (x0.1.getD ((x0.2.1).toNat) 0)) }, { nw := true }, { hint := some (aI (and255 (and255 (xorF (lcgF x0.2.2)) + x0.1.getD x0.2.1.toNat 0))) }, {}] { ts := [0, 2, 3], os := [1, 2] } [(0 : Int) ≤ x0.2.1 ∧ x0.2.1 < ((List.length x0.1 : Nat) : Int), (AV.p (.c (.v (.int .i64 (IntKind.i64.wrap ((x0.1.getD ((x0.2.1).toNat) 0)))))) = AV.p (.c (.v (.int .i64 ((x0.1.getD ((x0.2.1).toNat) 0)))))), I64 ((and255 (xorF (lcgF x0.2.2))) + (x0.1.getD ((x0.2.1).toNat) 0)), (AV.p (.c (.v (.int .i64 (IntKind.i64.wrap ((BitVec.ofInt (IntKind.i64).bits ((and255 (xorF (lcgF x0.2.2))) + (x0.1.getD ((x0.2.1).toNat) 0)) &&& BitVec.ofInt (IntKind.i64).bits 255).toNat : Int))))) = AV.p (.c (.v (.int .i64 ((and255 (and255 (xorF (lcgF x0.2.2)) + x0.1.getD x0.2.1.toNat 0)))))))] gamOK hT mixed h (by kernel_rfl) ⟨(by refine ⟨?_, ?_⟩ <;> (first | omega | (simp only [lsA]; omega) | (simp <;> omega))), hint_int (wrap_id ⟨by first | omega | (simp only [lsA]; omega) | (simp <;> omega), by first | omega | (simp only [lsA]; omega) | (simp <;> omega)⟩), ⟨by first | omega | (simp only [lsA]; omega) | (simp <;> omega), by first | omega | (simp only [lsA]; omega) | (simp <;> omega)⟩, hint_int (by rfl), trivial⟩ fun a w h => then_normal ?_
  refine at_regq [{}, {}, {}, {}, {}, { nw := true }] { ts := [2, 3], os := [1, 2] } [I64 (x0.2.1 + 1)] gamOK hT h (by kernel_rfl) ⟨⟨by first | omega | (simp only [lsA]; omega) | (simp <;> omega), by first | omega | (simp only [lsA]; omega) | (simp <;> omega)⟩, trivial⟩ fun a w h => then_normal (wp_seq ?_)
  refine at_regq [] { ts := [2], os := [1, 2] } [] gamOK hT h (by kernel_rfl) trivial fun a w h => then_normal (wp_ret ?_)
  have hr2 : (((x0.1, (x0.2.1 + 1, (lcgF x0.2.2))), (and255 (and255 (xorF (lcgF x0.2.2)) + x0.1.getD x0.2.1.toNat 0))) : T109 × Int) = byteC x0 := by (unfold byteC; rw [if_pos h1])
  exact at_returnB (B := B_spec_l1Byte) (c0 := x0) (x := (())) ((x0.1, (x0.2.1 + 1, (lcgF x0.2.2)))) ((and255 (and255 (xorF (lcgF x0.2.2)) + x0.1.getD x0.2.1.toNat 0)), ()) [(Value.pointer (some ⟨b0, 0, none⟩)) = (Value.pointer (some ⟨b0, 0, none⟩))] h (by kernel_rfl) ⟨rfl, trivial⟩ (congrArg (a₁ := ((x0.1, (x0.2.1 + 1, (lcgF x0.2.2))), (and255 (and255 (xorF (lcgF x0.2.2)) + x0.1.getD x0.2.1.toNat 0)))) (a₂ := byteC x0) (fun (z : T109 × Int) => z.1) hr2) (congrArg (a₁ := ((x0.1, (x0.2.1 + 1, (lcgF x0.2.2))), (and255 (and255 (xorF (lcgF x0.2.2)) + x0.1.getD x0.2.1.toNat 0)))) (a₂ := byteC x0) (fun (z : T109 × Int) => (z.2, ())) hr2)
 ·replace h1 : ¬ (x0.2.1 < ((List.length x0.1 : Nat) : Int)) := of_decide_eq_false h1
  refine wp_skip (then_normal (wp_seq ?_))
  refine at_regq [] { ts := [2], os := [1, 2] } [] gamOK hT h (by kernel_rfl) trivial fun a w h => then_normal (wp_ret ?_)
  have hr3 : (((x0.1, (x0.2.1, (lcgF x0.2.2))), (and255 (xorF (lcgF x0.2.2)))) : T109 × Int) = byteC x0 := by (unfold byteC; rw [if_neg h1])
  exact at_returnB (B := B_spec_l1Byte) (c0 := x0) (x := (())) ((x0.1, (x0.2.1, (lcgF x0.2.2)))) ((and255 (xorF (lcgF x0.2.2))), ()) [(Value.pointer (some ⟨b0, 0, none⟩)) = (Value.pointer (some ⟨b0, 0, none⟩))] h (by kernel_rfl) ⟨rfl, trivial⟩ (congrArg (a₁ := ((x0.1, (x0.2.1, (lcgF x0.2.2))), (and255 (xorF (lcgF x0.2.2))))) (a₂ := byteC x0) (fun (z : T109 × Int) => z.1) hr3) (congrArg (a₁ := ((x0.1, (x0.2.1, (lcgF x0.2.2))), (and255 (xorF (lcgF x0.2.2))))) (a₂ := byteC x0) (fun (z : T109 × Int) => (z.2, ())) hr3)
theorem byte_bd (x : T109) : 0 ≤ (byteC x).2 ∧ (byteC x).2 ≤ 255 := by
 unfold byteC; split <;> exact and255_bd _
theorem byte_ok {x : T109} (h : 0 ≤ x.2.1) : 0 ≤ (byteC x).1.2.1 := by
 unfold byteC; split
 ·show (0 : Int) ≤ x.2.1 + 1; omega
 ·exact h

@[irreducible]
def belowC (x0 : T109) (x1 : Int) : T109 × Int := (if x1 ≤ 0 then (x0, 0) else (if x1 ≤ 256 then ((byteC x0).1, (Int.tmod (byteC x0).2 x1)) else ((byteC (byteC (byteC x0).1).1).1, (Int.tmod ((((byteC x0).2 * 65536) + ((byteC (byteC x0).1).2 * 256)) + (byteC (byteC (byteC x0).1).1).2) x1))))
abbrev Q_spec_l1Below := (fun (x0 : T109) (x1 : Int) => 0 ≤ x0.2.1)
def B_spec_l1Below : BS := { t := 109, s := s109, dom := [(.int 3)], cod := [(.int 3)], pre := fun y x => Q_spec_l1Below y x.1, upd := fun y x => (belowC y x.1).1, g := fun y x => ((belowC y x.1).2, ()) }
def S_spec_l1Below : Sum := bSum 73 B_spec_l1Below
def S_spec_l1Below_tab : List (Nat × Sum) := [(119, S_spec_l1Byte)]
theorem S_spec_l1Below_ok : FnOK Try.prog 73 S_spec_l1Below := by
 refine at_enterB (B := B_spec_l1Below) 31 (fun v y x => ⟨[(0, aP 1 0), (1, aI x.1)], [(1, oX 109 [.ro (.u8 5) y.1, cI y.2.1, cI y.2.2]), (2, oP 1 v)]⟩) Try.func73 rfl (by kernel_rfl) (fun v y x => rfl) ?_
 rintro w0 Z0 b0 x0 ⟨x1, u⟩ a w
 revert x0 x1
 intro (x0 : T109) (x1 : Int) hpre hlens0 hlens h
 replace h : At w0 Z0 [b0] 31 ⟨[(0, aP 1 0), (1, aI x1)], [(1, oX 109 [.ro (.u8 5) x0.1, cI x0.2.1, cI x0.2.2]), (2, oP 1 (Value.pointer (some ⟨b0, 0, none⟩)))]⟩ a w := h
 replace hpre : Q_spec_l1Below x0 x1 := hpre
 have hl1 : List.length x0.1 ≤ 9223372036854775807 := hlens0.1.1
 have hu0 : u8L x0.1 := hlens0.1.2
 have hT : TabOK Try.prog S_spec_l1Below_tab := (.cons S_spec_l1Byte_ok .nil)
 have hb1 := byte_ok hpre
 have hb2 := byte_ok hb1
 have hb3 := byte_ok hb2
 have hd1 := byte_bd x0
 have hd2 := byte_bd (byteC x0).1
 have hd3 := byte_bd (byteC (byteC x0).1).1
 refine wp_seq ?_
 refine at_regq [] { ts := [0, 1, 4], os := [1, 2] } [] gamOK hT h (by kernel_rfl) trivial fun a w h => then_normal (wp_seq (wp_seq ?_))
 refine at_regq [] { ts := [0, 1, 4, 9], os := [1, 2] } [] gamOK hT h (by kernel_rfl) trivial fun a w h => then_normal ?_
 refine at_test (decide (x1 ≤ 0)) h (by kernel_rfl) (fun h1 => ?_) (fun h1 => ?_)
 ·replace h1 : x1 ≤ 0 := of_decide_eq_true h1
  refine wp_seq ?_
  refine at_regq [] { ts := [0, 1, 4], os := [1, 2] } [] gamOK hT h (by kernel_rfl) trivial fun a w h => then_normal (wp_ret (then_ret ?_))
  have hr2 : ((x0, 0) : T109 × Int) = belowC x0 x1 := by (unfold belowC; rw [if_pos h1])
  exact at_returnB (B := B_spec_l1Below) (c0 := x0) (x := (x1, ())) (x0) (0, ()) [(Value.pointer (some ⟨b0, 0, none⟩)) = (Value.pointer (some ⟨b0, 0, none⟩))] h (by kernel_rfl) ⟨rfl, trivial⟩ (congrArg (a₁ := (x0, 0)) (a₂ := belowC x0 x1) (fun (z : T109 × Int) => z.1) hr2) (congrArg (a₁ := (x0, 0)) (a₂ := belowC x0 x1) (fun (z : T109 × Int) => (z.2, ())) hr2)
 ·replace h1 : ¬ (x1 ≤ 0) := of_decide_eq_false h1
  refine wp_skip (then_normal (wp_seq (wp_seq ?_)))
  refine at_regq [] { ts := [0, 1, 4, 11], os := [1, 2] } [] gamOK hT h (by kernel_rfl) trivial fun a w h => then_normal ?_
  refine at_test (decide (x1 ≤ 256)) h (by kernel_rfl) (fun h3 => ?_) (fun h3 => ?_)
  ·replace h3 : x1 ≤ 256 := of_decide_eq_true h3
   refine wp_seq ?_
   refine at_regq [] { ts := [0, 1, 4], os := [1, 2] } [B_spec_l1Byte.pre x0 (()), (x1 : Int) ≠ 0] gamOK hT h (by kernel_rfl) ⟨(by first | exact hpre | exact hb1 | exact hb2 | exact hb3), (by first | omega | (simp only [lsA]; omega) | (simp <;> omega)), trivial⟩ fun a w h => then_normal (wp_ret (then_ret ?_))
   have hr4 : (((byteC x0).1, (Int.tmod (byteC x0).2 x1)) : T109 × Int) = belowC x0 x1 := by (unfold belowC; rw [if_neg h1, if_pos h3])
   exact at_returnB (B := B_spec_l1Below) (c0 := x0) (x := (x1, ())) ((byteC x0).1) ((Int.tmod (byteC x0).2 x1), ()) [(Value.pointer (some ⟨b0, 0, none⟩)) = (Value.pointer (some ⟨b0, 0, none⟩))] h (by kernel_rfl) ⟨rfl, trivial⟩ (congrArg (a₁ := ((byteC x0).1, (Int.tmod (byteC x0).2 x1))) (a₂ := belowC x0 x1) (fun (z : T109 × Int) => z.1) hr4) (congrArg (a₁ := ((byteC x0).1, (Int.tmod (byteC x0).2 x1))) (a₂ := belowC x0 x1) (fun (z : T109 × Int) => (z.2, ())) hr4)
  ·replace h3 : ¬ (x1 ≤ 256) := of_decide_eq_false h3
   refine wp_skip (then_normal (wp_seq ?_))
   refine at_regq [] { ts := [0, 1, 4, 5], os := [1, 2] } [B_spec_l1Byte.pre x0 (())] gamOK hT h (by kernel_rfl) ⟨(by first | exact hpre | exact hb1 | exact hb2 | exact hb3), trivial⟩ fun a w h => then_normal (wp_seq ?_)
   refine at_regq [] { ts := [0, 1, 4, 5, 6], os := [1, 2] } [B_spec_l1Byte.pre (byteC x0).1 (())] gamOK hT h (by kernel_rfl) ⟨(by first | exact hpre | exact hb1 | exact hb2 | exact hb3), trivial⟩ fun a w h => then_normal (wp_seq ?_)
   refine at_regq [] { ts := [1, 4, 5, 6, 7], os := [1, 2] } [B_spec_l1Byte.pre (byteC (byteC x0).1).1 (())] gamOK hT h (by kernel_rfl) ⟨(by first | exact hpre | exact hb1 | exact hb2 | exact hb3), trivial⟩ fun a w h => then_normal (wp_seq ?_)
   refine at_regq [{}, { nw := true }, {}, { nw := true }, { nw := true }, {}, { nw := true }] { ts := [4], os := [1, 2] } [I64 ((byteC x0).2 * 65536), I64 ((byteC (byteC x0).1).2 * 256), I64 (((byteC x0).2 * 65536) + ((byteC (byteC x0).1).2 * 256)), I64 ((((byteC x0).2 * 65536) + ((byteC (byteC x0).1).2 * 256)) + (byteC (byteC (byteC x0).1).1).2), (x1 : Int) ≠ 0] gamOK hT h (by kernel_rfl) ⟨⟨by first | omega | (simp only [lsA]; omega) | (simp <;> omega), by first | omega | (simp only [lsA]; omega) | (simp <;> omega)⟩, ⟨by first | omega | (simp only [lsA]; omega) | (simp <;> omega), by first | omega | (simp only [lsA]; omega) | (simp <;> omega)⟩, ⟨by first | omega | (simp only [lsA]; omega) | (simp <;> omega), by first | omega | (simp only [lsA]; omega) | (simp <;> omega)⟩, ⟨by first | omega | (simp only [lsA]; omega) | (simp <;> omega), by first | omega | (simp only [lsA]; omega) | (simp <;> omega)⟩, (by first | omega | (simp only [lsA]; omega) | (simp <;> omega)), trivial⟩ fun a w h => then_normal (wp_ret ?_)
   have hr5 : (((byteC (byteC (byteC x0).1).1).1, (Int.tmod ((((byteC x0).2 * 65536) + ((byteC (byteC x0).1).2 * 256)) + (byteC (byteC (byteC x0).1).1).2) x1)) : T109 × Int) = belowC x0 x1 := by (unfold belowC; rw [if_neg h1, if_neg h3])
   exact at_returnB (B := B_spec_l1Below) (c0 := x0) (x := (x1, ())) ((byteC (byteC (byteC x0).1).1).1) ((Int.tmod ((((byteC x0).2 * 65536) + ((byteC (byteC x0).1).2 * 256)) + (byteC (byteC (byteC x0).1).1).2) x1), ()) [(Value.pointer (some ⟨b0, 0, none⟩)) = (Value.pointer (some ⟨b0, 0, none⟩))] h (by kernel_rfl) ⟨rfl, trivial⟩ (congrArg (a₁ := ((byteC (byteC (byteC x0).1).1).1, (Int.tmod ((((byteC x0).2 * 65536) + ((byteC (byteC x0).1).2 * 256)) + (byteC (byteC (byteC x0).1).1).2) x1))) (a₂ := belowC x0 x1) (fun (z : T109 × Int) => z.1) hr5) (congrArg (a₁ := ((byteC (byteC (byteC x0).1).1).1, (Int.tmod ((((byteC x0).2 * 65536) + ((byteC (byteC x0).1).2 * 256)) + (byteC (byteC (byteC x0).1).1).2) x1))) (a₂ := belowC x0 x1) (fun (z : T109 × Int) => (z.2, ())) hr5)
theorem below_ok {x : T109} {n : Int} (h : 0 ≤ x.2.1) : 0 ≤ (belowC x n).1.2.1 := by
 unfold belowC
 split
 ·exact h
 ·split
  ·exact byte_ok h
  ·exact byte_ok (byte_ok (byte_ok h))
theorem below_bd (x : T109) {n : Int} (h : 0 < n) : 0 ≤ (belowC x n).2 ∧ (belowC x n).2 < n := by
 unfold belowC
 rw [if_neg (by omega)]
 have hd1 := byte_bd x; have hd2 := byte_bd (byteC x).1; have hd3 := byte_bd (byteC (byteC x).1).1
 split
 ·exact LA.tmod_lt hd1.1 h
 ·exact LA.tmod_lt (by first | omega | (dsimp only; omega)) h

def onceC (x0 : T109) (x1 : Int) : T109 × Bool := ((belowC x0 x1).1, decide ((belowC x0 x1).2 = 0))
abbrev Q_spec_l1Once := (fun (x0 : T109) (x1 : Int) => 0 ≤ x0.2.1)
def B_spec_l1Once : BS := { t := 109, s := s109, dom := [(.int 3)], cod := [(.bool 4)], pre := fun y x => Q_spec_l1Once y x.1, upd := fun y x => (onceC y x.1).1, g := fun y x => ((onceC y x.1).2, ()) }
def S_spec_l1Once : Sum := bSum 121 B_spec_l1Once
def S_spec_l1Once_tab : List (Nat × Sum) := [(73, S_spec_l1Below)]
theorem S_spec_l1Once_ok : FnOK Try.prog 121 S_spec_l1Once := by
 refine at_enterB (B := B_spec_l1Once) 9 (fun v y x => ⟨[(0, aP 1 0), (1, aI x.1)], [(1, oX 109 [.ro (.u8 5) y.1, cI y.2.1, cI y.2.2]), (2, oP 1 v)]⟩) Try.func121 rfl (by kernel_rfl) (fun v y x => rfl) ?_
 rintro w0 Z0 b0 x0 ⟨x1, u⟩ a w
 revert x0 x1
 intro (x0 : T109) (x1 : Int) hpre hlens0 hlens h
 replace h : At w0 Z0 [b0] 9 ⟨[(0, aP 1 0), (1, aI x1)], [(1, oX 109 [.ro (.u8 5) x0.1, cI x0.2.1, cI x0.2.2]), (2, oP 1 (Value.pointer (some ⟨b0, 0, none⟩)))]⟩ a w := h
 replace hpre : Q_spec_l1Once x0 x1 := hpre
 have hl1 : List.length x0.1 ≤ 9223372036854775807 := hlens0.1.1
 have hu0 : u8L x0.1 := hlens0.1.2
 have hT : TabOK Try.prog S_spec_l1Once_tab := (.cons S_spec_l1Below_ok .nil)
 refine wp_seq ?_
 refine at_regq [] { ts := [0, 1, 4], os := [1, 2] } [] gamOK hT h (by kernel_rfl) trivial fun a w h => then_normal (wp_seq ?_)
 refine at_regq [] { ts := [4], os := [1, 2] } [B_spec_l1Below.pre x0 (x1, ())] gamOK hT h (by kernel_rfl) ⟨(by exact hpre), trivial⟩ fun a w h => then_normal (wp_ret ?_)
 have hr1 : (((belowC x0 x1).1, decide ((belowC x0 x1).2 = 0)) : T109 × Bool) = onceC x0 x1 := by rfl
 exact at_returnB (B := B_spec_l1Once) (c0 := x0) (x := (x1, ())) ((belowC x0 x1).1) (decide ((belowC x0 x1).2 = 0), ()) [(Value.pointer (some ⟨b0, 0, none⟩)) = (Value.pointer (some ⟨b0, 0, none⟩))] h (by kernel_rfl) ⟨rfl, trivial⟩ (congrArg (a₁ := ((belowC x0 x1).1, decide ((belowC x0 x1).2 = 0))) (a₂ := onceC x0 x1) (fun (z : T109 × Bool) => z.1) hr1) (congrArg (a₁ := ((belowC x0 x1).1, decide ((belowC x0 x1).2 = 0))) (a₂ := onceC x0 x1) (fun (z : T109 × Bool) => (z.2, ())) hr1)
theorem once_ok {x : T109} {n : Int} (h : 0 ≤ x.2.1) : 0 ≤ (onceC x n).1.2.1 := below_ok h

def bigF (x0 : (List Int)) : Bool := decide (((List.length x0 : Nat) : Int) > 1048576)
def S_laws_big : Sum := { fid := 8, dom := [s22], cod := [(.bool 4)], dp := true, fz := false, pre := fun x => True, g := fun x => ((bigF x.1), ()) }
def S_laws_big_tab : List (Nat × Sum) := []
theorem S_laws_big_ok : FnOK Try.prog 8 S_laws_big := by
 refine at_enter 6 (fun x => ⟨[(0, aF (.u8 5) x.1)], []⟩) Try.func8 rfl (by kernel_rfl) (fun x => rfl) ?_
 rintro w0 Z0 ⟨x0, u⟩ a w
 revert x0
 intro (x0 : (List Int)) hpre hlens h
 have hl1 : List.length x0 ≤ 9223372036854775807 := hlens.1.1
 have hu0 : u8L x0 := hlens.1.2
 have hT : TabOK Try.prog S_laws_big_tab := .nil
 refine wp_seq ?_
 refine at_regq [] { ts := [0, 2], os := [] } [] gamOK hT h (by kernel_rfl) trivial fun a w h => then_normal (wp_seq ?_)
 refine at_regq [] { ts := [2], os := [] } [] gamOK hT h (by kernel_rfl) trivial fun a w h => then_normal (wp_ret ?_)
 exact at_return (decide (((List.length x0 : Nat) : Int) > 1048576), ()) [] h (by kernel_rfl) trivial (congrArg (fun z => (z, ())) (show (decide (((List.length x0 : Nat) : Int) > 1048576)) = bigF x0 from by rfl))
theorem big_f {x : List Int} (h : bigF x = false) : List.length x ≤ 1048576 := by
 have := of_decide_eq_false h; omega

def pickC (x0 : T109) (x1 : (List Int)) : T109 × Int := ((belowC x0 ((List.length x1 : Nat) : Int)).1, (x1.getD (((belowC x0 ((List.length x1 : Nat) : Int)).2).toNat) 0))
abbrev Q_spec_l1Int := (fun (x0 : T109) (x1 : List Int) => 0 ≤ x0.2.1 ∧ (0 < List.length x1 ∧ List.length x1 ≤ 1000))
def B_spec_l1Int : BS := { t := 109, s := s109, dom := [s27], cod := [(.int 3)], pre := fun y x => Q_spec_l1Int y x.1, upd := fun y x => (pickC y x.1).1, g := fun y x => ((pickC y x.1).2, ()) }
def S_spec_l1Int : Sum := bSum 116 B_spec_l1Int
def S_spec_l1Int_tab : List (Nat × Sum) := [(73, S_spec_l1Below)]
theorem S_spec_l1Int_ok : FnOK Try.prog 116 S_spec_l1Int := by
 refine at_enterB (B := B_spec_l1Int) 12 (fun v y x => ⟨[(0, aP 1 0), (1, aF (.int 3) x.1)], [(1, oX 109 [.ro (.u8 5) y.1, cI y.2.1, cI y.2.2]), (2, oP 1 v)]⟩) Try.func116 rfl (by kernel_rfl) (fun v y x => rfl) ?_
 rintro w0 Z0 b0 x0 ⟨x1, u⟩ a w
 revert x0 x1
 intro (x0 : T109) (x1 : (List Int)) hpre hlens0 hlens h
 replace h : At w0 Z0 [b0] 12 ⟨[(0, aP 1 0), (1, aF (.int 3) x1)], [(1, oX 109 [.ro (.u8 5) x0.1, cI x0.2.1, cI x0.2.2]), (2, oP 1 (Value.pointer (some ⟨b0, 0, none⟩)))]⟩ a w := h
 replace hpre : Q_spec_l1Int x0 x1 := hpre
 have hl1 : List.length x0.1 ≤ 9223372036854775807 := hlens0.1.1
 have hu0 : u8L x0.1 := hlens0.1.2
 have hl2 : List.length x1 ≤ 9223372036854775807 := hlens.1.1
 have hT : TabOK Try.prog S_spec_l1Int_tab := (.cons S_spec_l1Below_ok .nil)
 have hp1 := hpre.1
 have hp2 := hpre.2.1
 have hp3 := hpre.2.2
 have hb := below_bd x0 (n := ((List.length x1 : Nat) : Int)) (by omega)
 refine wp_seq ?_
 refine at_regq [] { ts := [0, 1, 4], os := [1, 2] } [] gamOK hT h (by kernel_rfl) trivial fun a w h => then_normal (wp_seq ?_)
 refine at_regq [] { ts := [4], os := [1, 2] } [B_spec_l1Below.pre x0 (((List.length x1 : Nat) : Int), ()), (0 : Int) ≤ (belowC x0 ((List.length x1 : Nat) : Int)).2 ∧ (belowC x0 ((List.length x1 : Nat) : Int)).2 < ((List.length x1 : Nat) : Int)] gamOK hT h (by kernel_rfl) ⟨(by exact hpre.1), (by refine ⟨?_, ?_⟩ <;> (first | omega | (simp only [lsA]; omega) | (simp <;> omega))), trivial⟩ fun a w h => then_normal (wp_ret ?_)
 have hr1 : (((belowC x0 ((List.length x1 : Nat) : Int)).1, (x1.getD (((belowC x0 ((List.length x1 : Nat) : Int)).2).toNat) 0)) : T109 × Int) = pickC x0 x1 := by rfl
 exact at_returnB (B := B_spec_l1Int) (c0 := x0) (x := (x1, ())) ((belowC x0 ((List.length x1 : Nat) : Int)).1) ((x1.getD (((belowC x0 ((List.length x1 : Nat) : Int)).2).toNat) 0), ()) [(Value.pointer (some ⟨b0, 0, none⟩)) = (Value.pointer (some ⟨b0, 0, none⟩))] h (by kernel_rfl) ⟨rfl, trivial⟩ (congrArg (a₁ := ((belowC x0 ((List.length x1 : Nat) : Int)).1, (x1.getD (((belowC x0 ((List.length x1 : Nat) : Int)).2).toNat) 0))) (a₂ := pickC x0 x1) (fun (z : T109 × Int) => z.1) hr1) (congrArg (a₁ := ((belowC x0 ((List.length x1 : Nat) : Int)).1, (x1.getD (((belowC x0 ((List.length x1 : Nat) : Int)).2).toNat) 0))) (a₂ := pickC x0 x1) (fun (z : T109 × Int) => (z.2, ())) hr1)
theorem pickC_ok {x : T109} {l : List Int} (h : 0 ≤ x.2.1) : 0 ≤ (pickC x l).1.2.1 := below_ok h
theorem pickC_mem {x : T109} {l : List Int} (h : 0 < List.length l) : (pickC x l).2 ∈ l := by
 have hb := below_bd x (n := ((List.length l : Nat) : Int)) (by omega)
 exact getD_mem (by omega)

def elemC (x0 : T109) : T109 × Int := ((belowC x0 1019).1, (belowC x0 1019).2)
abbrev Q_spec_l4Element := (fun (x0 : T109) => 0 ≤ x0.2.1)
def B_spec_l4Element : BS := { t := 109, s := s109, dom := [], cod := [(.int 3)], pre := fun y x => Q_spec_l4Element y, upd := fun y x => (elemC y).1, g := fun y x => ((elemC y).2, ()) }
def S_spec_l4Element : Sum := bSum 134 B_spec_l4Element
def S_spec_l4Element_tab : List (Nat × Sum) := [(73, S_spec_l1Below)]
theorem S_spec_l4Element_ok : FnOK Try.prog 134 S_spec_l4Element := by
 refine at_enterB (B := B_spec_l4Element) 5 (fun v y x => ⟨[(0, aP 1 0)], [(1, oX 109 [.ro (.u8 5) y.1, cI y.2.1, cI y.2.2]), (2, oP 1 v)]⟩) Try.func134 rfl (by kernel_rfl) (fun v y x => rfl) ?_
 rintro w0 Z0 b0 x0 ⟨u⟩ a w
 revert x0
 intro (x0 : T109) hpre hlens0 hlens h
 replace h : At w0 Z0 [b0] 5 ⟨[(0, aP 1 0)], [(1, oX 109 [.ro (.u8 5) x0.1, cI x0.2.1, cI x0.2.2]), (2, oP 1 (Value.pointer (some ⟨b0, 0, none⟩)))]⟩ a w := h
 replace hpre : Q_spec_l4Element x0 := hpre
 have hl1 : List.length x0.1 ≤ 9223372036854775807 := hlens0.1.1
 have hu0 : u8L x0.1 := hlens0.1.2
 have hT : TabOK Try.prog S_spec_l4Element_tab := (.cons S_spec_l1Below_ok .nil)
 refine wp_seq ?_
 refine at_regq [] { ts := [0, 2], os := [1, 2] } [] gamOK hT h (by kernel_rfl) trivial fun a w h => then_normal (wp_seq ?_)
 refine at_regq [] { ts := [2], os := [1, 2] } [B_spec_l1Below.pre x0 (1019, ())] gamOK hT h (by kernel_rfl) ⟨(by exact hpre), trivial⟩ fun a w h => then_normal (wp_ret ?_)
 have hr1 : (((belowC x0 1019).1, (belowC x0 1019).2) : T109 × Int) = elemC x0 := by rfl
 exact at_returnB (B := B_spec_l4Element) (c0 := x0) (x := (())) ((belowC x0 1019).1) ((belowC x0 1019).2, ()) [(Value.pointer (some ⟨b0, 0, none⟩)) = (Value.pointer (some ⟨b0, 0, none⟩))] h (by kernel_rfl) ⟨rfl, trivial⟩ (congrArg (a₁ := ((belowC x0 1019).1, (belowC x0 1019).2)) (a₂ := elemC x0) (fun (z : T109 × Int) => z.1) hr1) (congrArg (a₁ := ((belowC x0 1019).1, (belowC x0 1019).2)) (a₂ := elemC x0) (fun (z : T109 × Int) => (z.2, ())) hr1)
theorem elem_ok {x : T109} (h : 0 ≤ x.2.1) : 0 ≤ (elemC x).1.2.1 := below_ok h
theorem elem_bd (x : T109) : LA.El (elemC x).2 := by have := below_bd x (n := 1019) (by decide); show 0 ≤ _ ∧ _ ≤ 1018; unfold elemC; dsimp only; omega
def vecS (q : T109 × List Int) : T109 × List Int := if (onceC q.1 3).2 = true then ((onceC q.1 3).1, q.2 ++ [0]) else ((elemC (onceC q.1 3).1).1, q.2 ++ [(elemC (onceC q.1 3).1).2])
def vecIt (x : T109) : Nat → T109 × List Int
 | 0 => (x, [])
 | i + 1 => vecS (vecIt x i)
theorem vecIt_y {x : T109} {i : Nat} (h : (onceC (vecIt x i).1 3).2 = true) : vecIt x (i + 1) = ((onceC (vecIt x i).1 3).1, (vecIt x i).2 ++ [0]) := if_pos h
theorem vecIt_n {x : T109} {i : Nat} (h : (onceC (vecIt x i).1 3).2 = false) : vecIt x (i + 1) = ((elemC (onceC (vecIt x i).1 3).1).1, (vecIt x i).2 ++ [(elemC (onceC (vecIt x i).1 3).1).2]) := if_neg (by rw [h]; decide)
theorem vecIt_inv {x : T109} (hx : 0 ≤ x.2.1) : ∀ i, 0 ≤ (vecIt x i).1.2.1 ∧ (vecIt x i).2.length = i ∧ ∀ e ∈ (vecIt x i).2, LA.El e
 | 0 => ⟨hx, rfl, fun e he => by cases he⟩
 | i + 1 => by
  obtain ⟨h1, h2, h3⟩ := vecIt_inv hx i
  have e : vecIt x (i + 1) = vecS (vecIt x i) := rfl
  have hb := elem_bd (onceC (vecIt x i).1 3).1
  rw [e]; unfold vecS
  split
  ·refine ⟨once_ok h1, by simp [h2], fun y hy => ?_⟩
   rcases List.mem_append.1 hy with hy | hy
   ·exact h3 y hy
   ·have : y = 0 := by simpa using hy
    rw [this]; unfold LA.El; omega
  ·refine ⟨elem_ok (once_ok h1), by simp [h2], fun y hy => ?_⟩
   rcases List.mem_append.1 hy with hy | hy
   ·exact h3 y hy
   ·have : y = (elemC (onceC (vecIt x i).1 3).1).2 := by simpa using hy
    rw [this]; exact hb

def vecD (x0 : T109) (x1 : Int) : T109 × (List Int) := ((vecIt x0 x1.toNat).1, (vecIt x0 x1.toNat).2)
abbrev Q_spec_l5Vector := (fun (x0 : T109) (x1 : Int) => 0 ≤ x0.2.1 ∧ x1 ≤ 1000)
def B_spec_l5Vector : BS := { t := 109, s := s109, dom := [(.int 3)], cod := [s27], pre := fun y x => Q_spec_l5Vector y x.1, upd := fun y x => (vecD y x.1).1, g := fun y x => ((vecD y x.1).2, ()) }
def S_spec_l5Vector : Sum := bSum 153 B_spec_l5Vector
def S_spec_l5Vector_tab : List (Nat × Sum) := [(121, S_spec_l1Once), (134, S_spec_l4Element)]
theorem S_spec_l5Vector_ok : FnOK Try.prog 153 S_spec_l5Vector := by
 refine at_enterB (B := B_spec_l5Vector) 24 (fun v y x => ⟨[(0, aP 1 0), (1, aI x.1)], [(1, oX 109 [.ro (.u8 5) y.1, cI y.2.1, cI y.2.2]), (2, oP 1 v)]⟩) Try.func153 rfl (by kernel_rfl) (fun v y x => rfl) ?_
 rintro w0 Z0 b0 x0 ⟨x1, u⟩ a w
 revert x0 x1
 intro (x0 : T109) (x1 : Int) hpre hlens0 hlens h
 replace h : At w0 Z0 [b0] 24 ⟨[(0, aP 1 0), (1, aI x1)], [(1, oX 109 [.ro (.u8 5) x0.1, cI x0.2.1, cI x0.2.2]), (2, oP 1 (Value.pointer (some ⟨b0, 0, none⟩)))]⟩ a w := h
 replace hpre : Q_spec_l5Vector x0 x1 := hpre
 have hl1 : List.length x0.1 ≤ 9223372036854775807 := hlens0.1.1
 have hu0 : u8L x0.1 := hlens0.1.2
 have hT : TabOK Try.prog S_spec_l5Vector_tab := (.cons S_spec_l1Once_ok (.cons S_spec_l4Element_ok .nil))
 have hp2 := hpre.2
 refine wp_seq ?_
 refine at_regq [] { ts := [0, 1, 4], os := [1, 2] } [] gamOK hT h (by kernel_rfl) trivial fun a w h => then_normal (wp_seq ?_)
 refine at_regq [{ ids := [3] }] { ts := [0, 1, 4, 5], os := [1, 2, 3] } [] gamOK hT h (by kernel_rfl) trivial fun a w h => then_normal (wp_seq (wp_seq ?_))
 refine at_regq [] { ts := [0, 1, 4, 5, 6], os := [1, 2, 3] } [] gamOK hT h (by kernel_rfl) trivial fun a w h => then_normal (wp_block ?_)
 replace h := at_out (σ' := ⟨[(0, aP 1 0), (1, aI x1), (4, .p (.c (cN))), (5, aS 3), (6, aI 0)], [(1, oX 109 [.ro (.u8 5) x0.1, cI x0.2.1, cI x0.2.2]), (2, oP 1 (Value.pointer (some ⟨b0, 0, none⟩))), (3, oR (.int 3) ([] : List Int))]⟩) { ts := [0, 1, 4, 5, 6], os := [1, 2, 3] } h (by kernel_rfl)
 refine at_loop (fun i : Nat => (⟨[(0, aP 1 0), (1, aI x1), (4, .p (.c (cN))), (5, aS 3), (6, aI ((i : Nat) : Int))], [(1, oX 109 [.ro (.u8 5) (vecIt x0 i).1.1, cI (vecIt x0 i).1.2.1, cI (vecIt x0 i).1.2.2]), (2, oP 1 (Value.pointer (some ⟨b0, 0, none⟩))), (3, oR (.int 3) (vecIt x0 i).2)]⟩ : St)) (fun i => i ≤ x1.toNat) (fun i => x1.toNat - i) (0) h (st_congr5 (fun (d0 : List Int) (d1 : Int) (d2 : Int) (d3 : List Int) (d4 : Int) => (⟨[(0, aP 1 0), (1, aI x1), (4, .p (.c (cN))), (5, aS 3), (6, aI d4)], [(1, oX 109 [.ro (.u8 5) d0, cI d1, cI d2]), (2, oP 1 (Value.pointer (some ⟨b0, 0, none⟩))), (3, oR (.int 3) d3)]⟩ : St)) (show (x0.1 : List Int) = (vecIt x0 (0)).1.1 from by first | with_reducible rfl | (rfl) | rfl) (show (x0.2.1 : Int) = (vecIt x0 (0)).1.2.1 from by first | with_reducible rfl | (rfl) | rfl) (show (x0.2.2 : Int) = (vecIt x0 (0)).1.2.2 from by first | with_reducible rfl | (rfl) | rfl) (show (([] : List Int) : List Int) = (vecIt x0 (0)).2 from by first | with_reducible rfl | (rfl) | rfl) (show (0 : Int) = (((0) : Nat) : Int) from by first | with_reducible rfl | (rfl) | rfl)) (by omega) ?_
 intro i a w hok0 h
 have hvi := vecIt_inv hpre.1 i
 have hvl := hvi.2.1
 refine wp_seq (wp_seq ?_)
 refine at_regq [] { ts := [0, 1, 4, 5, 6, 10], os := [1, 2, 3] } [] gamOK hT h (by kernel_rfl) trivial fun a w h => then_normal ?_
 refine at_test (decide (((i : Nat) : Int) < x1)) h (by kernel_rfl) (fun h1 => ?_) (fun h1 => ?_)
 ·replace h1 : ((i : Nat) : Int) < x1 := of_decide_eq_true h1
  refine wp_skip (then_normal (wp_seq (wp_block (wp_seq ?_))))
  refine at_regq [] { ts := [0, 1, 4, 5, 6, 14], os := [1, 2, 3] } [B_spec_l1Once.pre (vecIt x0 i).1 (3, ())] gamOK hT h (by kernel_rfl) ⟨(by exact hvi.1), trivial⟩ fun a w h => then_normal ?_
  refine at_test ((onceC (vecIt x0 i).1 3).2) h (by kernel_rfl) (fun h2 => ?_) (fun h2 => ?_)
  ·refine at_regq [{}, { ids := [4] }, { ids := [5] }] { ts := [0, 1, 4, 5, 6], os := [1, 2, 5] } [(List.length (vecIt x0 i).2 + List.length ([0])) * 8 ≤ 140737488355328] gamOK hT h (by kernel_rfl) ⟨(by first | omega | (simp only [lsA]; omega) | (simp <;> omega)), trivial⟩ fun a w h => in_normal (then_normal ?_)
   refine at_regq [{}, { nw := true }] { ts := [0, 1, 4, 5, 6], os := [1, 2, 5] } [I64 (((i : Nat) : Int) + 1)] gamOK hT h (by kernel_rfl) ⟨⟨by first | omega | (simp only [lsA]; omega) | (simp <;> omega), by first | omega | (simp only [lsA]; omega) | (simp <;> omega)⟩, trivial⟩ fun a w h => ?_
   replace h := at_out (σ' := ⟨[(0, aP 1 0), (1, aI x1), (4, .p (.c (cN))), (5, aS 3), (6, aI (((i : Nat) : Int) + 1))], [(1, oX 109 [.ro (.u8 5) (onceC (vecIt x0 i).1 3).1.1, cI (onceC (vecIt x0 i).1 3).1.2.1, cI (onceC (vecIt x0 i).1 3).1.2.2]), (2, oP 1 (Value.pointer (some ⟨b0, 0, none⟩))), (3, oR (.int 3) ((vecIt x0 i).2 ++ ([0])))]⟩) { ts := [0, 1, 4, 5, 6], os := [1, 2, 5], rn := [(5, 3)] } h (by kernel_rfl)
   exact ⟨i + 1, at_eq h (st_congr5 (fun (d0 : List Int) (d1 : Int) (d2 : Int) (d3 : List Int) (d4 : Int) => (⟨[(0, aP 1 0), (1, aI x1), (4, .p (.c (cN))), (5, aS 3), (6, aI d4)], [(1, oX 109 [.ro (.u8 5) d0, cI d1, cI d2]), (2, oP 1 (Value.pointer (some ⟨b0, 0, none⟩))), (3, oR (.int 3) d3)]⟩ : St)) (show ((onceC (vecIt x0 i).1 3).1.1 : List Int) = (vecIt x0 (i + 1)).1.1 from by first | with_reducible rfl | (first | (rw [vecIt_y (x := x0) (i := i) (by assumption)]; done) | (rw [vecIt_n (x := x0) (i := i) (by assumption)]; done)) | rfl) (show ((onceC (vecIt x0 i).1 3).1.2.1 : Int) = (vecIt x0 (i + 1)).1.2.1 from by first | with_reducible rfl | (first | (rw [vecIt_y (x := x0) (i := i) (by assumption)]; done) | (rw [vecIt_n (x := x0) (i := i) (by assumption)]; done)) | rfl) (show ((onceC (vecIt x0 i).1 3).1.2.2 : Int) = (vecIt x0 (i + 1)).1.2.2 from by first | with_reducible rfl | (first | (rw [vecIt_y (x := x0) (i := i) (by assumption)]; done) | (rw [vecIt_n (x := x0) (i := i) (by assumption)]; done)) | rfl) (show (((vecIt x0 i).2 ++ ([0])) : List Int) = (vecIt x0 (i + 1)).2 from by first | with_reducible rfl | (first | (rw [vecIt_y (x := x0) (i := i) (by assumption)]; done) | (rw [vecIt_n (x := x0) (i := i) (by assumption)]; done)) | rfl) (show (((i : Nat) : Int) + 1 : Int) = (((i + 1) : Nat) : Int) from by first | with_reducible rfl | (omega) | rfl)), (by omega), (by omega)⟩
  ·refine at_regq [{}, {}, {}, { ids := [6] }, { ids := [7] }] { ts := [0, 1, 4, 5, 6], os := [1, 2, 7] } [B_spec_l4Element.pre (onceC (vecIt x0 i).1 3).1 (()), (List.length (vecIt x0 i).2 + List.length ([(elemC (onceC (vecIt x0 i).1 3).1).2])) * 8 ≤ 140737488355328] gamOK hT h (by kernel_rfl) ⟨(by exact (once_ok hvi.1)), (by first | omega | (simp only [lsA]; omega) | (simp <;> omega)), trivial⟩ fun a w h => in_normal (then_normal ?_)
   refine at_regq [{}, { nw := true }] { ts := [0, 1, 4, 5, 6], os := [1, 2, 7] } [I64 (((i : Nat) : Int) + 1)] gamOK hT h (by kernel_rfl) ⟨⟨by first | omega | (simp only [lsA]; omega) | (simp <;> omega), by first | omega | (simp only [lsA]; omega) | (simp <;> omega)⟩, trivial⟩ fun a w h => ?_
   replace h := at_out (σ' := ⟨[(0, aP 1 0), (1, aI x1), (4, .p (.c (cN))), (5, aS 3), (6, aI (((i : Nat) : Int) + 1))], [(1, oX 109 [.ro (.u8 5) (elemC (onceC (vecIt x0 i).1 3).1).1.1, cI (elemC (onceC (vecIt x0 i).1 3).1).1.2.1, cI (elemC (onceC (vecIt x0 i).1 3).1).1.2.2]), (2, oP 1 (Value.pointer (some ⟨b0, 0, none⟩))), (3, oR (.int 3) ((vecIt x0 i).2 ++ ([(elemC (onceC (vecIt x0 i).1 3).1).2])))]⟩) { ts := [0, 1, 4, 5, 6], os := [1, 2, 7], rn := [(7, 3)] } h (by kernel_rfl)
   exact ⟨i + 1, at_eq h (st_congr5 (fun (d0 : List Int) (d1 : Int) (d2 : Int) (d3 : List Int) (d4 : Int) => (⟨[(0, aP 1 0), (1, aI x1), (4, .p (.c (cN))), (5, aS 3), (6, aI d4)], [(1, oX 109 [.ro (.u8 5) d0, cI d1, cI d2]), (2, oP 1 (Value.pointer (some ⟨b0, 0, none⟩))), (3, oR (.int 3) d3)]⟩ : St)) (show ((elemC (onceC (vecIt x0 i).1 3).1).1.1 : List Int) = (vecIt x0 (i + 1)).1.1 from by first | with_reducible rfl | (first | (rw [vecIt_y (x := x0) (i := i) (by assumption)]; done) | (rw [vecIt_n (x := x0) (i := i) (by assumption)]; done)) | rfl) (show ((elemC (onceC (vecIt x0 i).1 3).1).1.2.1 : Int) = (vecIt x0 (i + 1)).1.2.1 from by first | with_reducible rfl | (first | (rw [vecIt_y (x := x0) (i := i) (by assumption)]; done) | (rw [vecIt_n (x := x0) (i := i) (by assumption)]; done)) | rfl) (show ((elemC (onceC (vecIt x0 i).1 3).1).1.2.2 : Int) = (vecIt x0 (i + 1)).1.2.2 from by first | with_reducible rfl | (first | (rw [vecIt_y (x := x0) (i := i) (by assumption)]; done) | (rw [vecIt_n (x := x0) (i := i) (by assumption)]; done)) | rfl) (show (((vecIt x0 i).2 ++ ([(elemC (onceC (vecIt x0 i).1 3).1).2])) : List Int) = (vecIt x0 (i + 1)).2 from by first | with_reducible rfl | (first | (rw [vecIt_y (x := x0) (i := i) (by assumption)]; done) | (rw [vecIt_n (x := x0) (i := i) (by assumption)]; done)) | rfl) (show (((i : Nat) : Int) + 1 : Int) = (((i + 1) : Nat) : Int) from by first | with_reducible rfl | (omega) | rfl)), (by omega), (by omega)⟩
 ·replace h1 : ¬ (((i : Nat) : Int) < x1) := of_decide_eq_false h1
  refine wp_exit (then_exit ?_)
  replace h := at_out (σ' := ⟨[(4, .p (.c (cN))), (5, aS 3)], [(1, oX 109 [.ro (.u8 5) (vecIt x0 i).1.1, cI (vecIt x0 i).1.2.1, cI (vecIt x0 i).1.2.2]), (2, oP 1 (Value.pointer (some ⟨b0, 0, none⟩))), (3, oR (.int 3) (vecIt x0 i).2)]⟩) { ts := [4, 5], os := [1, 2, 3] } h (by kernel_rfl)
  replace h := at_eq (σ' := ⟨[(4, .p (.c (cN))), (5, aS 3)], [(1, oX 109 [.ro (.u8 5) (vecIt x0 x1.toNat).1.1, cI (vecIt x0 x1.toNat).1.2.1, cI (vecIt x0 x1.toNat).1.2.2]), (2, oP 1 (Value.pointer (some ⟨b0, 0, none⟩))), (3, oR (.int 3) (vecIt x0 x1.toNat).2)]⟩) h (st_congr4 (fun (d0 : List Int) (d1 : Int) (d2 : Int) (d3 : List Int) => (⟨[(4, .p (.c (cN))), (5, aS 3)], [(1, oX 109 [.ro (.u8 5) d0, cI d1, cI d2]), (2, oP 1 (Value.pointer (some ⟨b0, 0, none⟩))), (3, oR (.int 3) d3)]⟩ : St)) (show ((vecIt x0 i).1.1 : List Int) = (vecIt x0 x1.toNat).1.1 from by first | with_reducible rfl | (rw [show x1.toNat = i by omega]) | rfl) (show ((vecIt x0 i).1.2.1 : Int) = (vecIt x0 x1.toNat).1.2.1 from by first | with_reducible rfl | (rw [show x1.toNat = i by omega]) | rfl) (show ((vecIt x0 i).1.2.2 : Int) = (vecIt x0 x1.toNat).1.2.2 from by first | with_reducible rfl | (rw [show x1.toNat = i by omega]) | rfl) (show ((vecIt x0 i).2 : List Int) = (vecIt x0 x1.toNat).2 from by first | with_reducible rfl | (rw [show x1.toNat = i by omega]) | rfl))
  refine then_exit (in_hit (then_normal (wp_seq ?_)))
  refine at_regq [] { ts := [4], os := [1, 2, 3] } [] gamOK hT h (by kernel_rfl) trivial fun a w h => then_normal (wp_ret ?_)
  have hr3 : (((vecIt x0 x1.toNat).1, (vecIt x0 x1.toNat).2) : T109 × (List Int)) = vecD x0 x1 := by rfl
  exact at_returnB (B := B_spec_l5Vector) (c0 := x0) (x := (x1, ())) ((vecIt x0 x1.toNat).1) ((vecIt x0 x1.toNat).2, ()) [(Value.pointer (some ⟨b0, 0, none⟩)) = (Value.pointer (some ⟨b0, 0, none⟩))] h (by kernel_rfl) ⟨rfl, trivial⟩ (congrArg (a₁ := ((vecIt x0 x1.toNat).1, (vecIt x0 x1.toNat).2)) (a₂ := vecD x0 x1) (fun (z : T109 × (List Int)) => z.1) hr3) (congrArg (a₁ := ((vecIt x0 x1.toNat).1, (vecIt x0 x1.toNat).2)) (a₂ := vecD x0 x1) (fun (z : T109 × (List Int)) => (z.2, ())) hr3)
theorem vecD_ok {x : T109} {n : Int} (h : 0 ≤ x.2.1) : 0 ≤ (vecD x n).1.2.1 ∧ LA.VokB n.toNat (vecD x n).2 := ⟨(vecIt_inv h _).1, (vecIt_inv h _).2.1, (vecIt_inv h _).2.2⟩

@[irreducible]
def anyV (x0 : T109) (x1 : Int) : T109 × (List Int) := (if (belowC (vecD x0 x1).1 10).2 = 0 then ((pickC (belowC (vecD x0 x1).1 10).1 ([(-1), 0, 1019])).1, ((vecD x0 x1).2 ++ ([(pickC (belowC (vecD x0 x1).1 10).1 ([(-1), 0, 1019])).2]))) else (if (belowC (vecD x0 x1).1 10).2 = 1 then ((belowC (belowC (vecD x0 x1).1 10).1 2).1, (List.replicate ((40 + (belowC (belowC (vecD x0 x1).1 10).1 2).2).toNat) (0 : Int))) else ((belowC (vecD x0 x1).1 10).1, (vecD x0 x1).2)))
abbrev Q_spec_l5Any := (fun (x0 : T109) (x1 : Int) => 0 ≤ x0.2.1 ∧ x1 ≤ 1000)
def B_spec_l5Any : BS := { t := 109, s := s109, dom := [(.int 3)], cod := [s27], pre := fun y x => Q_spec_l5Any y x.1, upd := fun y x => (anyV y x.1).1, g := fun y x => ((anyV y x.1).2, ()) }
def S_spec_l5Any : Sum := bSum 135 B_spec_l5Any
def S_spec_l5Any_tab : List (Nat × Sum) := [(153, S_spec_l5Vector), (73, S_spec_l1Below), (116, S_spec_l1Int)]
theorem S_spec_l5Any_ok : FnOK Try.prog 135 S_spec_l5Any := by
 refine at_enterB (B := B_spec_l5Any) 26 (fun v y x => ⟨[(0, aP 1 0), (1, aI x.1)], [(1, oX 109 [.ro (.u8 5) y.1, cI y.2.1, cI y.2.2]), (2, oP 1 v)]⟩) Try.func135 rfl (by kernel_rfl) (fun v y x => rfl) ?_
 rintro w0 Z0 b0 x0 ⟨x1, u⟩ a w
 revert x0 x1
 intro (x0 : T109) (x1 : Int) hpre hlens0 hlens h
 replace h : At w0 Z0 [b0] 26 ⟨[(0, aP 1 0), (1, aI x1)], [(1, oX 109 [.ro (.u8 5) x0.1, cI x0.2.1, cI x0.2.2]), (2, oP 1 (Value.pointer (some ⟨b0, 0, none⟩)))]⟩ a w := h
 replace hpre : Q_spec_l5Any x0 x1 := hpre
 have hl1 : List.length x0.1 ≤ 9223372036854775807 := hlens0.1.1
 have hu0 : u8L x0.1 := hlens0.1.2
 have hT : TabOK Try.prog S_spec_l5Any_tab := (.cons S_spec_l5Vector_ok (.cons S_spec_l1Below_ok (.cons S_spec_l1Int_ok .nil)))
 have hvd := vecD_ok (n := x1) hpre.1
 have hvl := hvd.2.1
 have hp2 := hpre.2
 have hb2 := below_bd (belowC (vecD x0 x1).1 10).1 (n := 2) (by decide)
 refine wp_seq ?_
 refine at_regq [] { ts := [0, 1, 4], os := [1, 2] } [] gamOK hT h (by kernel_rfl) trivial fun a w h => then_normal (wp_seq ?_)
 refine at_regq [{}, {}, { ids := [3] }] { ts := [0, 4, 5], os := [1, 2, 3] } [B_spec_l5Vector.pre x0 (x1, ())] gamOK hT h (by kernel_rfl) ⟨(by exact hpre), trivial⟩ fun a w h => then_normal (wp_seq (wp_seq ?_))
 refine at_regq [] { ts := [0, 4, 5, 10], os := [1, 2, 3] } [B_spec_l1Below.pre (vecD x0 x1).1 (10, ())] gamOK hT h (by kernel_rfl) ⟨(by exact (vecD_ok hpre.1).1), trivial⟩ fun a w h => then_normal (wp_block (wp_seq ?_))
 refine at_regq [] { ts := [0, 4, 5, 10, 11], os := [1, 2, 3] } [] gamOK hT h (by kernel_rfl) trivial fun a w h => then_normal ?_
 refine at_test (decide ((belowC (vecD x0 x1).1 10).2 = 0)) h (by kernel_rfl) (fun h1 => ?_) (fun h1 => ?_)
 ·replace h1 : (belowC (vecD x0 x1).1 10).2 = 0 := of_decide_eq_true h1
  refine at_regq [{}, {}, { ids := [4], frz := true }, {}, { ids := [5] }, { ids := [6] }] { ts := [4, 5], os := [1, 2, 6] } [B_spec_l1Int.pre (belowC (vecD x0 x1).1 10).1 ([(-1), 0, 1019], ()), (List.length (vecD x0 x1).2 + List.length ([(pickC (belowC (vecD x0 x1).1 10).1 ([(-1), 0, 1019])).2])) * 8 ≤ 140737488355328] gamOK hT h (by kernel_rfl) ⟨(by exact ⟨(below_ok (vecD_ok hpre.1).1), by simp, by simp⟩), (by first | omega | (simp only [lsA]; omega) | (simp <;> omega)), trivial⟩ fun a w h => in_normal (then_normal (wp_seq ?_))
  refine at_regq [] { ts := [4], os := [1, 2, 6] } [] gamOK hT h (by kernel_rfl) trivial fun a w h => then_normal (wp_ret ?_)
  have hr2 : (((pickC (belowC (vecD x0 x1).1 10).1 ([(-1), 0, 1019])).1, ((vecD x0 x1).2 ++ ([(pickC (belowC (vecD x0 x1).1 10).1 ([(-1), 0, 1019])).2]))) : T109 × (List Int)) = anyV x0 x1 := by (unfold anyV; rw [if_pos h1])
  exact at_returnB (B := B_spec_l5Any) (c0 := x0) (x := (x1, ())) ((pickC (belowC (vecD x0 x1).1 10).1 ([(-1), 0, 1019])).1) (((vecD x0 x1).2 ++ ([(pickC (belowC (vecD x0 x1).1 10).1 ([(-1), 0, 1019])).2])), ()) [(Value.pointer (some ⟨b0, 0, none⟩)) = (Value.pointer (some ⟨b0, 0, none⟩))] h (by kernel_rfl) ⟨rfl, trivial⟩ (congrArg (a₁ := ((pickC (belowC (vecD x0 x1).1 10).1 ([(-1), 0, 1019])).1, ((vecD x0 x1).2 ++ ([(pickC (belowC (vecD x0 x1).1 10).1 ([(-1), 0, 1019])).2])))) (a₂ := anyV x0 x1) (fun (z : T109 × (List Int)) => z.1) hr2) (congrArg (a₁ := ((pickC (belowC (vecD x0 x1).1 10).1 ([(-1), 0, 1019])).1, ((vecD x0 x1).2 ++ ([(pickC (belowC (vecD x0 x1).1 10).1 ([(-1), 0, 1019])).2])))) (a₂ := anyV x0 x1) (fun (z : T109 × (List Int)) => (z.2, ())) hr2)
 ·replace h1 : ¬ ((belowC (vecD x0 x1).1 10).2 = 0) := of_decide_eq_false h1
  refine wp_seq ?_
  refine at_regq [] { ts := [0, 4, 5, 19], os := [1, 2, 3] } [] gamOK hT h (by kernel_rfl) trivial fun a w h => then_normal ?_
  refine at_test (decide ((belowC (vecD x0 x1).1 10).2 = 1)) h (by kernel_rfl) (fun h3 => ?_) (fun h3 => ?_)
  ·replace h3 : (belowC (vecD x0 x1).1 10).2 = 1 := of_decide_eq_true h3
   refine at_regq [{}, {}, { nw := true }, { ids := [7] }] { ts := [4, 5], os := [1, 2, 7] } [B_spec_l1Below.pre (belowC (vecD x0 x1).1 10).1 (2, ()), I64 (40 + (belowC (belowC (vecD x0 x1).1 10).1 2).2), (0 : Int) ≤ 40 + (belowC (belowC (vecD x0 x1).1 10).1 2).2 ∧ 40 + (belowC (belowC (vecD x0 x1).1 10).1 2).2 = 40 + (belowC (belowC (vecD x0 x1).1 10).1 2).2 ∧ (40 + (belowC (belowC (vecD x0 x1).1 10).1 2).2) * (8 : Nat) ≤ (140737488355328 : Int)] gamOK hT h (by kernel_rfl) ⟨(by exact (below_ok (vecD_ok hpre.1).1)), ⟨by first | omega | (simp only [lsA]; omega) | (simp <;> omega), by first | omega | (simp only [lsA]; omega) | (simp <;> omega)⟩, (by refine ⟨?_, ?_, ?_⟩ <;> ((have hA0 := mul_f (40 + (belowC (belowC (vecD x0 x1).1 10).1 2).2) (8 : Nat); first | omega | (simp only [lsA]; omega) | (simp <;> omega)))), trivial⟩ fun a w h => in_normal (then_normal (wp_seq ?_))
   refine at_regq [] { ts := [4], os := [1, 2, 7] } [] gamOK hT h (by kernel_rfl) trivial fun a w h => then_normal (wp_ret ?_)
   have hr4 : (((belowC (belowC (vecD x0 x1).1 10).1 2).1, (List.replicate ((40 + (belowC (belowC (vecD x0 x1).1 10).1 2).2).toNat) (0 : Int))) : T109 × (List Int)) = anyV x0 x1 := by (unfold anyV; rw [if_neg h1, if_pos h3])
   exact at_returnB (B := B_spec_l5Any) (c0 := x0) (x := (x1, ())) ((belowC (belowC (vecD x0 x1).1 10).1 2).1) ((List.replicate ((40 + (belowC (belowC (vecD x0 x1).1 10).1 2).2).toNat) (0 : Int)), ()) [(Value.pointer (some ⟨b0, 0, none⟩)) = (Value.pointer (some ⟨b0, 0, none⟩))] h (by kernel_rfl) ⟨rfl, trivial⟩ (congrArg (a₁ := ((belowC (belowC (vecD x0 x1).1 10).1 2).1, (List.replicate ((40 + (belowC (belowC (vecD x0 x1).1 10).1 2).2).toNat) (0 : Int)))) (a₂ := anyV x0 x1) (fun (z : T109 × (List Int)) => z.1) hr4) (congrArg (a₁ := ((belowC (belowC (vecD x0 x1).1 10).1 2).1, (List.replicate ((40 + (belowC (belowC (vecD x0 x1).1 10).1 2).2).toNat) (0 : Int)))) (a₂ := anyV x0 x1) (fun (z : T109 × (List Int)) => (z.2, ())) hr4)
  ·replace h3 : ¬ ((belowC (vecD x0 x1).1 10).2 = 1) := of_decide_eq_false h3
   refine wp_skip (in_normal (then_normal (wp_seq ?_)))
   refine at_regq [] { ts := [4], os := [1, 2, 3] } [] gamOK hT h (by kernel_rfl) trivial fun a w h => then_normal (wp_ret ?_)
   have hr5 : (((belowC (vecD x0 x1).1 10).1, (vecD x0 x1).2) : T109 × (List Int)) = anyV x0 x1 := by (unfold anyV; rw [if_neg h1, if_neg h3])
   exact at_returnB (B := B_spec_l5Any) (c0 := x0) (x := (x1, ())) ((belowC (vecD x0 x1).1 10).1) ((vecD x0 x1).2, ()) [(Value.pointer (some ⟨b0, 0, none⟩)) = (Value.pointer (some ⟨b0, 0, none⟩))] h (by kernel_rfl) ⟨rfl, trivial⟩ (congrArg (a₁ := ((belowC (vecD x0 x1).1 10).1, (vecD x0 x1).2)) (a₂ := anyV x0 x1) (fun (z : T109 × (List Int)) => z.1) hr5) (congrArg (a₁ := ((belowC (vecD x0 x1).1 10).1, (vecD x0 x1).2)) (a₂ := anyV x0 x1) (fun (z : T109 × (List Int)) => (z.2, ())) hr5)
theorem anyV_ok {x : T109} {n : Int} (h : 0 ≤ x.2.1) (hn : n ≤ 40) : 0 ≤ (anyV x n).1.2.1 ∧ List.length (anyV x n).2 ≤ 41 := by
 have hvd := vecD_ok (n := n) h
 have hvl := hvd.2.1
 have hb2 := below_bd (belowC (vecD x n).1 10).1 (n := 2) (by decide)
 unfold anyV
 (repeat' split) <;> refine ⟨?_, ?_⟩ <;> first
  | exact pickC_ok (below_ok hvd.1)
  | exact below_ok (below_ok hvd.1)
  | exact below_ok hvd.1
  | (simp; omega)
  | (dsimp only; omega)

def fp (x : GF) : Nat → GF
 | 0 => 1
 | n + 1 => fp x n * x
def hz (es : List Int) (v : Nat → Nat) : Nat → GF
 | 0 => 1
 | i + 1 => hz es v i * fp (gc (es.getD i 0)) (v i)
def S_laws_sameInts : Sum := { fid := 39, dom := [s27, s27], cod := [(.bool 4)], dp := true, fz := false, pre := fun x => True, g := fun x => (((Sh.eqB s27) x.1 x.2.1), ()) }
def S_laws_sameInts_tab : List (Nat × Sum) := []
theorem S_laws_sameInts_ok : FnOK Try.prog 39 S_laws_sameInts := by
 refine at_enter 26 (fun x => ⟨[(0, aF (.int 3) x.1), (1, aF (.int 3) x.2.1)], []⟩) Try.func39 rfl (by kernel_rfl) (fun x => rfl) ?_
 rintro w0 Z0 ⟨x0, x1, u⟩ a w
 revert x0 x1
 intro (x0 : (List Int)) (x1 : (List Int)) hpre hlens h
 have hl1 : List.length x0 ≤ 9223372036854775807 := hlens.1.1
 have hl2 : List.length x1 ≤ 9223372036854775807 := hlens.2.1.1
 have hT : TabOK Try.prog S_laws_sameInts_tab := .nil
 refine wp_seq ?_
 refine at_regq [] { ts := [0, 1, 4], os := [] } [] gamOK hT h (by kernel_rfl) trivial fun a w h => then_normal (wp_seq (wp_seq ?_))
 refine at_regq [] { ts := [0, 1, 4, 10], os := [] } [] gamOK hT h (by kernel_rfl) trivial fun a w h => then_normal ?_
 refine at_test (!decide (((List.length x0 : Nat) : Int) = ((List.length x1 : Nat) : Int))) h (by kernel_rfl) (fun h1 => ?_) (fun h1 => ?_)
 ·replace h1 : ¬ (((List.length x0 : Nat) : Int) = ((List.length x1 : Nat) : Int)) := of_decide_eq_false (notT h1)
  refine wp_seq ?_
  refine at_regq [] { ts := [0, 1, 4], os := [] } [] gamOK hT h (by kernel_rfl) trivial fun a w h => then_normal (wp_ret (then_ret ?_))
  exact at_return (false, ()) [] h (by kernel_rfl) trivial (congrArg (fun z => (z, ())) (show (false) = (Sh.eqB s27) x0 x1 from by exact (Sh.eqB_ne (fun e => h1 (by rw [e]))).symm))
 ·replace h1 : ((List.length x0 : Nat) : Int) = ((List.length x1 : Nat) : Int) := of_decide_eq_true (notF h1)
  refine wp_skip (then_normal (wp_seq (wp_seq ?_)))
  refine at_regq [] { ts := [0, 1, 4, 5], os := [] } [] gamOK hT h (by kernel_rfl) trivial fun a w h => then_normal (wp_block ?_)
  replace h := at_out (σ' := ⟨[(0, aF (.int 3) x0), (1, aF (.int 3) x1), (4, aB false), (5, aI 0)], []⟩) { ts := [0, 1, 4, 5], os := [] } h (by kernel_rfl)
  refine at_loop (fun i : Nat => (⟨[(0, aF (.int 3) x0), (1, aF (.int 3) x1), (4, aB false), (5, aI ((i : Nat) : Int))], []⟩ : St)) (fun i => (i ≤ List.length x0 ∧ x0.take i = x1.take i)) (fun i => List.length x0 - i) (0) h (st_congr1 (fun (d0 : Int) => (⟨[(0, aF (.int 3) x0), (1, aF (.int 3) x1), (4, aB false), (5, aI d0)], []⟩ : St)) (show (0 : Int) = (((0) : Nat) : Int) from by first | with_reducible rfl | (rfl) | rfl)) (by exact ⟨Nat.zero_le _, rfl⟩) ?_
  intro i a w hok0 h
  refine wp_seq (wp_seq ?_)
  refine at_regq [] { ts := [0, 1, 4, 5, 14], os := [] } [] gamOK hT h (by kernel_rfl) trivial fun a w h => then_normal ?_
  refine at_test (decide (((i : Nat) : Int) < ((List.length x0 : Nat) : Int))) h (by kernel_rfl) (fun h2 => ?_) (fun h2 => ?_)
  ·replace h2 : ((i : Nat) : Int) < ((List.length x0 : Nat) : Int) := of_decide_eq_true h2
   refine wp_skip (then_normal (wp_seq (wp_block (wp_seq ?_))))
   refine at_anyq [{}, {}, {}, {}, {}, {}, {}, {}, {}] { ts := [0, 1, 4, 5, 25], os := [] } [(0 : Int) ≤ ((i : Nat) : Int) ∧ ((i : Nat) : Int) < ((List.length x0 : Nat) : Int), (0 : Int) ≤ ((i : Nat) : Int) ∧ ((i : Nat) : Int) < ((List.length x1 : Nat) : Int)] gamOK hT mixed h (by kernel_rfl) ⟨(by refine ⟨?_, ?_⟩ <;> (first | omega | (simp only [lsA]; omega) | (simp <;> omega))), (by refine ⟨?_, ?_⟩ <;> (first | omega | (simp only [lsA]; omega) | (simp <;> omega))), trivial⟩ fun a w h => then_normal ?_
   refine at_test (!decide ((x0.getD i 0) = (x1.getD i 0))) h (by kernel_rfl) (fun h3 => ?_) (fun h3 => ?_)
   ·replace h3 : ¬ ((x0.getD i 0) = (x1.getD i 0)) := of_decide_eq_false (notT h3)
    refine wp_seq ?_
    refine at_regq [] { ts := [0, 1, 4, 5], os := [] } [] gamOK hT h (by kernel_rfl) trivial fun a w h => then_normal (wp_ret (in_ret (then_ret (then_ret (in_ret (then_ret ?_))))))
    exact at_return (false, ()) [] h (by kernel_rfl) trivial (congrArg (fun z => (z, ())) (show (false) = (Sh.eqB s27) x0 x1 from by exact (Sh.eqB_ne (s := s27) (fun e => h3 (by rw [e]))).symm))
   ·replace h3 : (x0.getD i 0) = (x1.getD i 0) := of_decide_eq_true (notF h3)
    refine wp_skip (in_normal (then_normal ?_))
    refine at_regq [{}, { nw := true }] { ts := [0, 1, 4, 5], os := [] } [I64 (((i : Nat) : Int) + 1)] gamOK hT h (by kernel_rfl) ⟨⟨by first | omega | (simp only [lsA]; omega) | (simp <;> omega), by first | omega | (simp only [lsA]; omega) | (simp <;> omega)⟩, trivial⟩ fun a w h => ?_
    replace h := at_out (σ' := ⟨[(0, aF (.int 3) x0), (1, aF (.int 3) x1), (4, aB false), (5, aI (((i : Nat) : Int) + 1))], []⟩) { ts := [0, 1, 4, 5], os := [] } h (by kernel_rfl)
    exact ⟨i + 1, at_eq h (st_congr1 (fun (d0 : Int) => (⟨[(0, aF (.int 3) x0), (1, aF (.int 3) x1), (4, aB false), (5, aI d0)], []⟩ : St)) (show (((i : Nat) : Int) + 1 : Int) = (((i + 1) : Nat) : Int) from by first | with_reducible rfl | (omega) | rfl)), (by exact ⟨by omega, eqTo_step (z := 0) (by omega) (by omega) hok0.2 h3⟩), (by omega)⟩
  ·replace h2 : ¬ (((i : Nat) : Int) < ((List.length x0 : Nat) : Int)) := of_decide_eq_false h2
   refine wp_exit (then_exit (then_exit (in_hit (then_normal (wp_seq ?_)))))
   refine at_regq [] { ts := [4], os := [] } [] gamOK hT h (by kernel_rfl) trivial fun a w h => then_normal (wp_ret ?_)
   exact at_return (true, ()) [] h (by kernel_rfl) trivial (congrArg (fun z => (z, ())) (show (true) = (Sh.eqB s27) x0 x1 from by (have e := hok0.2; rw [take_all (by omega), take_all (by omega)] at e; exact ((Sh.eqB_iff s27).2 e).symm)))

theorem lead_span {n : Nat} {rows : List (List Int)} {v : List Int} (h : LA.RedL n rows) (hv : LA.VokB n v) : LA.leadS (LA.redS rows v) < 0 ↔ LA.Span (rows.map LA.vec) (LA.vec v) := by
 obtain ⟨h1, h2⟩ := LA.redS_ok h.ok hv
 rw [← LA.rem_zero_iff h.red, ← h2]
 constructor
 ·exact fun hn => LA.leadS_zero hn
 ·intro e
  refine Decidable.byContradiction fun hn => ?_
  have := (LA.leadS_lead h1 (by omega)).1
  rw [e] at this; exact this rfl
theorem redTo_id2 {m : List LA.V} {p : Nat → Nat} (h : LA.Red m p) {v : LA.V} (hz : ∀ k, k < m.length → v (p k) = 0) : ∀ n, n ≤ m.length → LA.redTo m p v n = v
 | 0, _ => rfl
 | n + 1, hn => by
  have ih := redTo_id2 h hz n (by omega)
  have hp := hz n (by omega)
  simp only [LA.redTo, ih]
  funext j
  simp only [LA.vadd, hp]
  grind
theorem redS_idem2 {n : Nat} {rows : List (List Int)} {v : List Int} (h : LA.RedL n rows) (hv : LA.VokB n v) : LA.redS rows (LA.redS rows v) = LA.redS rows v := by
 obtain ⟨h1, h2⟩ := LA.redS_ok h.ok hv
 obtain ⟨h3, h4⟩ := LA.redS_ok h.ok h1
 refine LA.vec_inj h3 h1 ?_
 rw [h4]
 unfold LA.rem
 refine redTo_id2 h.red (fun k hk => ?_) _ (Nat.le_refl _)
 rw [h2]; exact LA.rem_piv h.red _ hk
theorem insV_P {b : T60} {v : List Int} (h : basP b) : basP (insV b v).1 ∧ (insV b v).1.1 = b.1 := by
 unfold insV
 split
 ·rename_i ht
  have hr := takesB_t ht
  exact ⟨⟨h.1, (LA.insS_ok hr.1.2 hr.2).1⟩, rfl⟩
 ·exact ⟨h, rfl⟩
theorem insV_fit {b : T60} {v : List Int} (h : Sh.fit s60 b) : Sh.fit s60 (insV b v).1 := by
 unfold insV
 split
 ·rename_i ht
  have hr := takesB_t ht
  exact basP_fit (a := insU b v) ⟨hr.1.1, (LA.insS_ok hr.1.2 hr.2).1⟩
 ·exact h
theorem redV_fit (b : T60) (v : List Int) : Sh.fit s27 (D_spec_ReduceVector b v) := by
 unfold D_spec_ReduceVector
 split
 ·rename_i ht
  have hr := takesB_t ht
  exact fitV (LA.redS_rng hr.1.2 hr.2) (by have := hr.1.1; omega)
 ·exact Sh.fit_nil
theorem frC_piv {n : Nat} {rows : List (List Int)} (h : LA.RedL n rows) : ∀ k, ∃ t, t ≤ rows.length ∧ (∀ i, i < rows.length → (LA.pv rows i < k ↔ i < t)) ∧ (frC rows k).length + t = k
 | 0 => ⟨0, Nat.zero_le _, fun i _ => by omega, rfl⟩
 | k + 1 => by
  obtain ⟨t, h1, h2, h3⟩ := frC_piv h k
  have hpv : ∀ i, i < rows.length → LA.leadS (rows.getD i []) = ((LA.pv rows i : Nat) : Int) := fun i hi => by
   have := h.nz _ (LA.getD_in hi)
   unfold LA.pv; omega
  cases ha : rows.any (fun e => decide (LA.leadS e = (k : Int))) with
  | true =>
   obtain ⟨r, hr, he⟩ := List.any_eq_true.1 ha
   have he := of_decide_eq_true he
   obtain ⟨i, hi, rfl⟩ := List.getElem_of_mem hr
   have hpi : LA.pv rows i = k := by
    have := hpv i hi
    rw [getD_of_lt hi, he] at this; omega
   have hit : ¬ i < t := fun e => by have := (h2 i hi).2 e; omega
   have hti : ¬ t < i := fun e => by
    have a := h.red.inc t i e (by simpa using hi)
    have b := (h2 t (by omega)).1 (by omega)
    omega
   refine ⟨t + 1, by omega, fun j hj => ?_, by rw [frC_t ha]; omega⟩
   constructor
   ·intro e
    by_cases e2 : LA.pv rows j < k
    ·have := (h2 j hj).1 e2; omega
    ·have : j = i := h.red.inj (by simpa using hj) (by simpa using hi) (by omega)
     omega
   ·intro e
    by_cases e2 : j < t
    ·have := (h2 j hj).2 e2; omega
    ·have : j = i := by omega
     subst this; omega
  | false =>
   refine ⟨t, h1, fun j hj => ?_, by rw [frC_f ha, List.length_append, List.length_singleton]; omega⟩
   have hne : LA.pv rows j ≠ k := fun e => by
    have : rows.any (fun e => decide (LA.leadS e = (k : Int))) = true := List.any_eq_true.2 ⟨_, LA.getD_in hj, decide_eq_true (by rw [hpv j hj, e])⟩
    rw [ha] at this; cases this
   rw [← h2 j hj]; omega
theorem frC_count {n : Nat} {rows : List (List Int)} (h : LA.RedL n rows) : (frC rows n).length + rows.length = n := by
 obtain ⟨t, h1, h2, h3⟩ := frC_piv h n
 have : t = rows.length := by
  rcases Nat.lt_or_ge t rows.length with hl | hl
  ·have ha := h.at_ hl
   have hb : LA.pv rows t < n := by unfold LA.pv; omega
   have := (h2 t hl).1 hb; omega
  ·omega
 omega
abbrev Q_impl_ReduceVector := (fun (x0 : T60) (x1 : (List Int)) => Sh.fit s60 x0 ∧ Sh.fit s27 x1)
def S_impl_ReduceVector : Sum := { fid := 34, dom := [s60, s27], cod := [s27], dp := true, fz := false, pre := fun x => Q_impl_ReduceVector x.1 x.2.1, g := fun x => ((D_spec_ReduceVector x.1 x.2.1), ()) }
def S_impl_ReduceVector_tab : List (Nat × Sum) := [(82, S__impl_Basis_takes), (88, S__impl_Basis_reduce)]
theorem S_impl_ReduceVector_ok : FnOK Try.prog 34 S_impl_ReduceVector := by
 refine at_enter 12 (fun x => ⟨[(0, aG [cI x.1.1, .ro s27 x.1.2]), (1, aF (.int 3) x.2.1)], []⟩) Try.func34 rfl (by kernel_rfl) (fun x => rfl) ?_
 rintro w0 Z0 ⟨x0, x1, u⟩ a w
 revert x0 x1
 intro (x0 : T60) (x1 : (List Int)) hpre hlens h
 replace hpre : Q_impl_ReduceVector x0 x1 := hpre
 have hT : TabOK Try.prog S_impl_ReduceVector_tab := (.cons S__impl_Basis_takes_ok (.cons S__impl_Basis_reduce_ok .nil))
 obtain ⟨hf0, hf1⟩ := hpre
 have hn0_1 : List.length x0.2 ≤ 1073741824 := hf0.2.1
 have hn1_2 : List.length x1 ≤ 1073741824 := hf1.1
 refine wp_seq ?_
 refine at_regq [{ ids := [1] }] { ts := [1, 2, 4], os := [1] } [] gamOK hT h (by kernel_rfl) trivial fun a w h => then_normal (wp_seq (wp_seq ?_))
 refine at_regq [] { ts := [1, 2, 4, 8], os := [1] } [Q__impl_Basis_takes x0 x1] gamOK hT h (by kernel_rfl) ⟨(by exact ⟨hf0, hf1⟩), trivial⟩ fun a w h => then_normal ?_
 refine at_test (!(takesB x0 x1)) h (by kernel_rfl) (fun h1 => ?_) (fun h1 => ?_)
 ·replace h1 : (takesB x0 x1) = false := notT h1
  refine wp_seq ?_
  refine at_regq [] { ts := [1, 2, 4], os := [1] } [] gamOK hT h (by kernel_rfl) trivial fun a w h => then_normal (wp_ret (then_ret ?_))
  exact at_return (([] : List Int), ()) [] h (by kernel_rfl) trivial (congrArg (fun z => (z, ())) (show (([] : List Int)) = D_spec_ReduceVector x0 x1 from by first | rfl | (unfold D_spec_ReduceVector; rw [if_neg (neT h1)]; done) | (unfold D_spec_ReduceVector; ((try unfold D_spec_ReduceVector); first | (rw [if_pos (by assumption)]; done) | (rw [if_neg (by simp_all)]; done)))))
 ·replace h1 : (takesB x0 x1) = true := notF h1
  have hvh1 := takesB_t h1
  refine wp_skip (then_normal (wp_seq ?_))
  refine at_regq [{}, {}, { ids := [2] }] { ts := [4], os := [2] } [Q__impl_Basis_reduce x0 x1] gamOK hT h (by kernel_rfl) ⟨(by exact ⟨hf0, hf1, takesB_t (by assumption)⟩), trivial⟩ fun a w h => then_normal (wp_ret ?_)
  exact at_return ((LA.redS x0.2 x1), ()) [] h (by kernel_rfl) trivial (congrArg (fun z => (z, ())) (show ((LA.redS x0.2 x1)) = D_spec_ReduceVector x0 x1 from by first | rfl | (unfold D_spec_ReduceVector; rw [if_pos h1]; done) | (unfold D_spec_ReduceVector; ((try unfold D_spec_ReduceVector); first | (rw [if_pos (by assumption)]; done) | (rw [if_neg (by simp_all)]; done)))))

abbrev Q_impl_ContainsVector := (fun (x0 : T60) (x1 : (List Int)) => Sh.fit s60 x0 ∧ Sh.fit s27 x1)
def S_impl_ContainsVector : Sum := { fid := 33, dom := [s60, s27], cod := [(.bool 4)], dp := true, fz := false, pre := fun x => Q_impl_ContainsVector x.1 x.2.1, g := fun x => ((D_spec_ContainsVector x.1 x.2.1), ()) }
def S_impl_ContainsVector_tab : List (Nat × Sum) := [(82, S__impl_Basis_takes), (88, S__impl_Basis_reduce), (38, S_impl_LeadingIndex)]
theorem S_impl_ContainsVector_ok : FnOK Try.prog 33 S_impl_ContainsVector := by
 refine at_enter 15 (fun x => ⟨[(0, aG [cI x.1.1, .ro s27 x.1.2]), (1, aF (.int 3) x.2.1)], []⟩) Try.func33 rfl (by kernel_rfl) (fun x => rfl) ?_
 rintro w0 Z0 ⟨x0, x1, u⟩ a w
 revert x0 x1
 intro (x0 : T60) (x1 : (List Int)) hpre hlens h
 replace hpre : Q_impl_ContainsVector x0 x1 := hpre
 have hT : TabOK Try.prog S_impl_ContainsVector_tab := (.cons S__impl_Basis_takes_ok (.cons S__impl_Basis_reduce_ok (.cons S_impl_LeadingIndex_ok .nil)))
 obtain ⟨hf0, hf1⟩ := hpre
 have hn0_1 : List.length x0.2 ≤ 1073741824 := hf0.2.1
 have hn1_2 : List.length x1 ≤ 1073741824 := hf1.1
 refine wp_seq ?_
 refine at_regq [{ ids := [1] }] { ts := [1, 2, 4], os := [1] } [] gamOK hT h (by kernel_rfl) trivial fun a w h => then_normal (wp_seq ?_)
 rcases Bool.eq_false_or_eq_true ((takesB x0 x1)) with h1 | h1
 ·have hvh1 := takesB_t h1
  refine at_regq [{}, {}, { hint := some (aB true) }, {}, {}, {}, { ids := [2] }] { ts := [4], os := [] } [Q__impl_Basis_takes x0 x1, (AV.p (.c (.v (.bool ((takesB x0 x1))))) = AV.p (.c (.v (.bool true)))), Q__impl_Basis_reduce x0 x1, Q_impl_LeadingIndex (LA.redS x0.2 x1)] gamOK hT h (by kernel_rfl) ⟨(by exact ⟨hf0, hf1⟩), hint_bool (h1), (by exact ⟨hf0, hf1, takesB_t (by assumption)⟩), (by (have hq := takesB_t (b := x0) (v := x1) (by assumption); exact fitV (LA.redS_rng hq.1.2 hq.2) (by have := hq.1.1; omega))), trivial⟩ fun a w h => then_normal (wp_ret ?_)
  exact at_return (decide ((LA.leadS (LA.redS x0.2 x1)) < 0), ()) [] h (by kernel_rfl) trivial (congrArg (fun z => (z, ())) (show (decide ((LA.leadS (LA.redS x0.2 x1)) < 0)) = D_spec_ContainsVector x0 x1 from by first | rfl | (unfold D_spec_ContainsVector; rw [if_pos h1]; done) | (unfold D_spec_ContainsVector; ((try unfold D_spec_ContainsVector); first | (rw [show takesB x0 x1 = true from by assumption]; rfl) | (rw [show takesB x0 x1 = false from by first | assumption | (simp_all; done)]; rfl)))))
 ·refine at_regq [{}, {}, { hint := some (aB false) }] { ts := [4], os := [] } [Q__impl_Basis_takes x0 x1, (AV.p (.c (.v (.bool ((takesB x0 x1))))) = AV.p (.c (.v (.bool false))))] gamOK hT h (by kernel_rfl) ⟨(by exact ⟨hf0, hf1⟩), hint_bool (h1), trivial⟩ fun a w h => then_normal (wp_ret ?_)
  exact at_return (false, ()) [] h (by kernel_rfl) trivial (congrArg (fun z => (z, ())) (show (false) = D_spec_ContainsVector x0 x1 from by first | rfl | (unfold D_spec_ContainsVector; rw [if_neg (neT h1)]; done) | (unfold D_spec_ContainsVector; ((try unfold D_spec_ContainsVector); first | (rw [show takesB x0 x1 = true from by assumption]; rfl) | (rw [show takesB x0 x1 = false from by first | assumption | (simp_all; done)]; rfl)))))

def D_impl_Dimension := (fun (b : T60) => if validB b = true then ((List.length b.2 : Nat) : Int) else 0)
abbrev Q_impl_Dimension := (fun (x0 : T60) => Sh.fit s60 x0)
def S_impl_Dimension : Sum := { fid := 36, dom := [s60], cod := [(.int 3)], dp := true, fz := false, pre := fun x => Q_impl_Dimension x.1, g := fun x => ((D_impl_Dimension x.1), ()) }
def S_impl_Dimension_tab : List (Nat × Sum) := [(35, S_impl_IsValidBasis)]
theorem S_impl_Dimension_ok : FnOK Try.prog 36 S_impl_Dimension := by
 refine at_enter 9 (fun x => ⟨[(0, aG [cI x.1.1, .ro s27 x.1.2])], []⟩) Try.func36 rfl (by kernel_rfl) (fun x => rfl) ?_
 rintro w0 Z0 ⟨x0, u⟩ a w
 revert x0
 intro (x0 : T60) hpre hlens h
 replace hpre : Q_impl_Dimension x0 := hpre
 have hT : TabOK Try.prog S_impl_Dimension_tab := (.cons S_impl_IsValidBasis_ok .nil)
 have hf0 : Sh.fit s60 x0 := hpre
 have hn0_1 : List.length x0.2 ≤ 1073741824 := hf0.2.1
 refine wp_seq ?_
 refine at_regq [{ ids := [1] }] { ts := [1, 2], os := [1] } [] gamOK hT h (by kernel_rfl) trivial fun a w h => then_normal (wp_seq (wp_seq ?_))
 refine at_regq [] { ts := [1, 2, 5], os := [1] } [Q_impl_IsValidBasis x0] gamOK hT h (by kernel_rfl) ⟨(by exact hf0), trivial⟩ fun a w h => then_normal ?_
 refine at_test (!(validB x0)) h (by kernel_rfl) (fun h1 => ?_) (fun h1 => ?_)
 ·replace h1 : (validB x0) = false := notT h1
  refine wp_seq ?_
  refine at_regq [] { ts := [1, 2], os := [1] } [] gamOK hT h (by kernel_rfl) trivial fun a w h => then_normal (wp_ret (then_ret ?_))
  exact at_return (0, ()) [] h (by kernel_rfl) trivial (congrArg (fun z => (z, ())) (show (0) = D_impl_Dimension x0 from by unfold D_impl_Dimension; simp_all))
 ·replace h1 : (validB x0) = true := notF h1
  have hvh1 := validB_t h1
  refine wp_skip (then_normal (wp_seq ?_))
  refine at_regq [] { ts := [2], os := [] } [] gamOK hT h (by kernel_rfl) trivial fun a w h => then_normal (wp_ret ?_)
  exact at_return (((List.length x0.2 : Nat) : Int), ()) [] h (by kernel_rfl) trivial (congrArg (fun z => (z, ())) (show (((List.length x0.2 : Nat) : Int)) = D_impl_Dimension x0 from by unfold D_impl_Dimension; simp_all))

def D_impl_FreeColumns := (fun (b : T60) => if validB b = true then frC b.2 b.1.toNat else [])
abbrev Q_impl_FreeColumns := (fun (x0 : T60) => Sh.fit s60 x0)
def S_impl_FreeColumns : Sum := { fid := 37, dom := [s60], cod := [s27], dp := true, fz := false, pre := fun x => Q_impl_FreeColumns x.1, g := fun x => ((D_impl_FreeColumns x.1), ()) }
def S_impl_FreeColumns_tab : List (Nat × Sum) := [(35, S_impl_IsValidBasis), (90, S_impl_freeColumns)]
theorem S_impl_FreeColumns_ok : FnOK Try.prog 37 S_impl_FreeColumns := by
 refine at_enter 11 (fun x => ⟨[(0, aG [cI x.1.1, .ro s27 x.1.2])], []⟩) Try.func37 rfl (by kernel_rfl) (fun x => rfl) ?_
 rintro w0 Z0 ⟨x0, u⟩ a w
 revert x0
 intro (x0 : T60) hpre hlens h
 replace hpre : Q_impl_FreeColumns x0 := hpre
 have hT : TabOK Try.prog S_impl_FreeColumns_tab := (.cons S_impl_IsValidBasis_ok (.cons S_impl_freeColumns_ok .nil))
 have hf0 : Sh.fit s60 x0 := hpre
 have hn0_1 : List.length x0.2 ≤ 1073741824 := hf0.2.1
 refine wp_seq ?_
 refine at_regq [{ ids := [1] }] { ts := [1, 2], os := [1] } [] gamOK hT h (by kernel_rfl) trivial fun a w h => then_normal (wp_seq (wp_seq ?_))
 refine at_regq [] { ts := [1, 2, 5], os := [1] } [Q_impl_IsValidBasis x0] gamOK hT h (by kernel_rfl) ⟨(by exact hf0), trivial⟩ fun a w h => then_normal ?_
 refine at_test (!(validB x0)) h (by kernel_rfl) (fun h1 => ?_) (fun h1 => ?_)
 ·replace h1 : (validB x0) = false := notT h1
  refine wp_seq ?_
  refine at_regq [] { ts := [1, 2], os := [1] } [] gamOK hT h (by kernel_rfl) trivial fun a w h => then_normal (wp_ret (then_ret ?_))
  exact at_return (([] : List Int), ()) [] h (by kernel_rfl) trivial (congrArg (fun z => (z, ())) (show (([] : List Int)) = D_impl_FreeColumns x0 from by unfold D_impl_FreeColumns; first | (rw [if_pos (by assumption)]; done) | (rw [if_neg (by simp_all)]; done)))
 ·replace h1 : (validB x0) = true := notF h1
  have hvh1 := validB_t h1
  refine wp_skip (then_normal (wp_seq ?_))
  refine at_regq [{}, {}, {}, {}, { ids := [2] }] { ts := [2], os := [2] } [Q_impl_freeColumns x0.2 x0.1] gamOK hT h (by kernel_rfl) ⟨(by exact ⟨hf0.2, (validB_t (b := x0) (by assumption)).1⟩), trivial⟩ fun a w h => then_normal (wp_ret ?_)
  exact at_return ((frC x0.2 x0.1.toNat), ()) [] h (by kernel_rfl) trivial (congrArg (fun z => (z, ())) (show ((frC x0.2 x0.1.toNat)) = D_impl_FreeColumns x0 from by unfold D_impl_FreeColumns; first | (rw [if_pos (by assumption)]; done) | (rw [if_neg (by simp_all)]; done)))

def isSubS (x0 : T60) (x1 : T60) : Bool := (if (sameW x0 x1) = true then (if (List.all x0.2 (fun r => D_spec_ContainsVector x1 r)) = true then true else false) else false)
abbrev Q_spec_IsSubspace := (fun (x0 : T60) (x1 : T60) => Sh.fit s60 x0 ∧ Sh.fit s60 x1)
def S_spec_IsSubspace : Sum := { fid := 40, dom := [s60, s60], cod := [(.bool 4)], dp := true, fz := false, pre := fun x => Q_spec_IsSubspace x.1 x.2.1, g := fun x => ((isSubS x.1 x.2.1), ()) }
def S_spec_IsSubspace_tab : List (Nat × Sum) := [(93, S_spec_l9Pair), (94, S_spec_ContainsVector)]
theorem S_spec_IsSubspace_ok : FnOK Try.prog 40 S_spec_IsSubspace := by
 refine at_enter 25 (fun x => ⟨[(0, aG [cI x.1.1, .ro s27 x.1.2]), (1, aG [cI x.2.1.1, .ro s27 x.2.1.2])], []⟩) Try.func40 rfl (by kernel_rfl) (fun x => rfl) ?_
 rintro w0 Z0 ⟨x0, x1, u⟩ a w
 revert x0 x1
 intro (x0 : T60) (x1 : T60) hpre hlens h
 replace hpre : Q_spec_IsSubspace x0 x1 := hpre
 have hT : TabOK Try.prog S_spec_IsSubspace_tab := (.cons S_spec_l9Pair_ok (.cons S_spec_ContainsVector_ok .nil))
 obtain ⟨hf0, hf1⟩ := hpre
 have hn0_1 : List.length x0.2 ≤ 1073741824 := hf0.2.1
 have hn1_2 : List.length x1.2 ≤ 1073741824 := hf1.2.1
 refine wp_seq ?_
 refine at_regq [{ ids := [1] }, { ids := [2] }] { ts := [2, 3, 4], os := [1, 2] } [] gamOK hT h (by kernel_rfl) trivial fun a w h => then_normal (wp_seq (wp_seq ?_))
 refine at_regq [] { ts := [2, 3, 4, 9], os := [1, 2] } [Q_spec_l9Pair x0 x1] gamOK hT h (by kernel_rfl) ⟨(by exact ⟨hf0, hf1⟩), trivial⟩ fun a w h => then_normal ?_
 refine at_test (!(sameW x0 x1)) h (by kernel_rfl) (fun h1 => ?_) (fun h1 => ?_)
 ·replace h1 : (sameW x0 x1) = false := notT h1
  refine wp_seq ?_
  refine at_regq [] { ts := [2, 3, 4], os := [1, 2] } [] gamOK hT h (by kernel_rfl) trivial fun a w h => then_normal (wp_ret (then_ret ?_))
  exact at_return (false, ()) [] h (by kernel_rfl) trivial (congrArg (fun z => (z, ())) (show (false) = isSubS x0 x1 from by first | rfl | (unfold isSubS; rw [if_neg (neT h1)])))
 ·replace h1 : (sameW x0 x1) = true := notF h1
  refine wp_skip (then_normal (wp_seq (wp_seq ?_)))
  refine at_regq [] { ts := [2, 3, 4, 5], os := [1, 2] } [] gamOK hT h (by kernel_rfl) trivial fun a w h => then_normal (wp_block ?_)
  replace h := at_out (σ' := ⟨[(2, aP 1 0), (3, aP 2 0), (4, aB false), (5, aI 0)], [(1, oX 60 [cI x0.1, .ro s27 x0.2]), (2, oX 60 [cI x1.1, .ro s27 x1.2])]⟩) { ts := [2, 3, 4, 5], os := [1, 2] } h (by kernel_rfl)
  refine at_loop (fun i : Nat => (⟨[(2, aP 1 0), (3, aP 2 0), (4, aB false), (5, aI ((i : Nat) : Int))], [(1, oX 60 [cI x0.1, .ro s27 x0.2]), (2, oX 60 [cI x1.1, .ro s27 x1.2])]⟩ : St)) (fun i => (i ≤ List.length x0.2 ∧ allTo1 (fun r => D_spec_ContainsVector x1 r) x0.2 [] i)) (fun i => List.length x0.2 - i) (0) h (st_congr1 (fun (d0 : Int) => (⟨[(2, aP 1 0), (3, aP 2 0), (4, aB false), (5, aI d0)], [(1, oX 60 [cI x0.1, .ro s27 x0.2]), (2, oX 60 [cI x1.1, .ro s27 x1.2])]⟩ : St)) (show (0 : Int) = (((0) : Nat) : Int) from by first | with_reducible rfl | (rfl) | rfl)) (by exact ⟨Nat.zero_le _, allTo1_zero⟩) ?_
  intro i a w hok0 h
  refine wp_seq (wp_seq ?_)
  refine at_regq [] { ts := [2, 3, 4, 5, 14], os := [1, 2] } [] gamOK hT h (by kernel_rfl) trivial fun a w h => then_normal ?_
  refine at_test (decide (((i : Nat) : Int) < ((List.length x0.2 : Nat) : Int))) h (by kernel_rfl) (fun h2 => ?_) (fun h2 => ?_)
  ·replace h2 : ((i : Nat) : Int) < ((List.length x0.2 : Nat) : Int) := of_decide_eq_true h2
   refine wp_skip (then_normal (wp_seq (wp_block (wp_seq ?_))))
   refine at_anyq [{}, {}, {}, {}, {}, {}, {}, {}] { ts := [2, 3, 4, 5, 24], os := [1, 2] } [(0 : Int) ≤ ((i : Nat) : Int) ∧ ((i : Nat) : Int) < ((List.length x0.2 : Nat) : Int), Q_spec_ContainsVector x1 (x0.2.getD i [])] gamOK hT mixed h (by kernel_rfl) ⟨(by refine ⟨?_, ?_⟩ <;> (first | omega | (simp only [lsA]; omega) | (simp <;> omega))), (by exact ⟨hf1, Sh.fit_getD hf0.2 i⟩), trivial⟩ fun a w h => then_normal ?_
   refine at_test (!(D_spec_ContainsVector x1 (x0.2.getD i []))) h (by kernel_rfl) (fun h3 => ?_) (fun h3 => ?_)
   ·replace h3 : (D_spec_ContainsVector x1 (x0.2.getD i [])) = false := notT h3
    refine wp_seq ?_
    refine at_regq [] { ts := [2, 3, 4, 5], os := [1, 2] } [] gamOK hT h (by kernel_rfl) trivial fun a w h => then_normal (wp_ret (in_ret (then_ret ?_)))
    have hs4 : (List.all x0.2 (fun r => D_spec_ContainsVector x1 r)) = false := by exact all_at (z := []) (i := i) (by omega) (by first | assumption | (simp_all; done))
    refine then_ret (in_ret (then_ret ?_))
    exact at_return (false, ()) [] h (by kernel_rfl) trivial (congrArg (fun z => (z, ())) (show (false) = isSubS x0 x1 from by first | rfl | (unfold isSubS; rw [if_pos h1, if_neg (neT hs4)])))
   ·replace h3 : (D_spec_ContainsVector x1 (x0.2.getD i [])) = true := notF h3
    refine wp_skip (in_normal (then_normal ?_))
    refine at_regq [{}, { nw := true }] { ts := [2, 3, 4, 5], os := [1, 2] } [I64 (((i : Nat) : Int) + 1)] gamOK hT h (by kernel_rfl) ⟨⟨by first | omega | (simp only [lsA]; omega) | (simp <;> omega), by first | omega | (simp only [lsA]; omega) | (simp <;> omega)⟩, trivial⟩ fun a w h => ?_
    replace h := at_out (σ' := ⟨[(2, aP 1 0), (3, aP 2 0), (4, aB false), (5, aI (((i : Nat) : Int) + 1))], [(1, oX 60 [cI x0.1, .ro s27 x0.2]), (2, oX 60 [cI x1.1, .ro s27 x1.2])]⟩) { ts := [2, 3, 4, 5], os := [1, 2] } h (by kernel_rfl)
    exact ⟨i + 1, at_eq h (st_congr1 (fun (d0 : Int) => (⟨[(2, aP 1 0), (3, aP 2 0), (4, aB false), (5, aI d0)], [(1, oX 60 [cI x0.1, .ro s27 x0.2]), (2, oX 60 [cI x1.1, .ro s27 x1.2])]⟩ : St)) (show (((i : Nat) : Int) + 1 : Int) = (((i + 1) : Nat) : Int) from by first | with_reducible rfl | (omega) | rfl)), (by exact ⟨by omega, allTo1_succ hok0.2 (by first | assumption | (simp_all; done))⟩), (by omega)⟩
  ·replace h2 : ¬ (((i : Nat) : Int) < ((List.length x0.2 : Nat) : Int)) := of_decide_eq_false h2
   refine wp_exit (then_exit ?_)
   have hs5 : (List.all x0.2 (fun r => D_spec_ContainsVector x1 r)) = true := by exact all_of (z := []) (i := i) (by omega) hok0.2
   refine then_exit (in_hit (then_normal (wp_seq ?_)))
   refine at_regq [] { ts := [4], os := [] } [] gamOK hT h (by kernel_rfl) trivial fun a w h => then_normal (wp_ret ?_)
   exact at_return (true, ()) [] h (by kernel_rfl) trivial (congrArg (fun z => (z, ())) (show (true) = isSubS x0 x1 from by first | rfl | (unfold isSubS; rw [if_pos h1, if_pos hs5])))
theorem bas_no {b : T60} {v : List Int} (h : takesB b v = false) : insV b v = (b, false) ∧ D_spec_ContainsVector b v = false := by
 constructor
 ·unfold insV; rw [h]; rfl
 ·unfold D_spec_ContainsVector; rw [h]; rfl
structure BasOK (b : T60) (v : List Int) : Prop where
 con : D_spec_ContainsVector b v = !(insV b v).2
 aft : D_spec_ContainsVector (insV b v).1 v = true
 val : validB (insV b v).1 = true
 len : List.length (D_spec_ReduceVector b v) = List.length v
 dm : D_impl_Dimension b = ((List.length b.2 : Nat) : Int)
 dim : D_impl_Dimension (insV b v).1 = ((List.length b.2 : Nat) : Int) + (if (insV b v).2 = true then 1 else 0)
 fre : ((List.length (D_impl_FreeColumns (insV b v).1) : Nat) : Int) = b.1 - (((List.length b.2 : Nat) : Int) + (if (insV b v).2 = true then 1 else 0))
 led : (LA.leadS (D_spec_ReduceVector b v) < 0 ↔ (insV b v).2 = false)
 red : D_spec_ReduceVector b (D_spec_ReduceVector b v) = D_spec_ReduceVector b v
 sub : isSubS b (insV b v).1 = true
 fit : Sh.fit s60 (insV b v).1
 sml : List.length b.2 ≤ 40
 fitr : Sh.fit s27 (D_spec_ReduceVector b v)
theorem bas_yes {b : T60} {v : List Int} (h : takesB b v = true) : BasOK b v := by
 have hr := takesB_t h
 obtain ⟨i1, i2, i3, i4, i5⟩ := LA.insS_ok hr.1.2 hr.2
 have hl := lead_span hr.1.2 hr.2
 have hx : insV b v = ((b.1, (LA.insS b.2 v).1), (LA.insS b.2 v).2) := by unfold insV; rw [if_pos h]; rfl
 have hP : basP (b.1, (LA.insS b.2 v).1) := ⟨hr.1.1, i1⟩
 have hR : D_spec_ReduceVector b v = LA.redS b.2 v := if_pos h
 have hv2 := LA.redS_rng hr.1.2 hr.2
 have h01 := hr.1.1
 have hlen := hr.1.2.len
 have hln : (LA.insS b.2 v).1.length = b.2.length + (if (LA.insS b.2 v).2 = true then 1 else 0) := by
  cases hb : (LA.insS b.2 v).2 with
  | true => rw [if_pos rfl]; exact i4 hb
  | false => rw [if_neg (by decide), i5 hb]; rfl
 have hfr := frC_count i1
 have takes : ∀ r, LA.VokB b.1.toNat r → takesB (b.1, (LA.insS b.2 v).1) r = true := fun r hr' => takesB_of ⟨hP, hr'⟩
 have hin : ∀ r, LA.VokB b.1.toNat r → LA.Span (b.2.map LA.vec ++ [LA.vec v]) (LA.vec r) → D_spec_ContainsVector (b.1, (LA.insS b.2 v).1) r = true := fun r hr' hs => by
  unfold D_spec_ContainsVector
  rw [takes r hr', Bool.true_and]
  refine decide_eq_true ((lead_span i1 hr').2 ?_)
  rw [i3]; exact hs
 have hcast : ((List.length (LA.insS b.2 v).1 : Nat) : Int) = ((List.length b.2 : Nat) : Int) + (if (LA.insS b.2 v).2 = true then 1 else 0) := by
  rw [hln]; split <;> simp
 refine ⟨?_, ?_, ?_, ?_, ?_, ?_, ?_, ?_, ?_, ?_, ?_, by omega, ?_⟩
 ·unfold D_spec_ContainsVector
  rw [h, Bool.true_and, hx]
  dsimp only
  cases hb : (LA.insS b.2 v).2 with
  | true => exact decide_eq_false fun e => by rw [hl, ← i2, hb] at e; cases e
  | false => exact decide_eq_true (by rw [hl, ← i2]; exact hb)
 ·rw [hx]; exact hin v hr.2 (LA.Span.mem (by simp))
 ·rw [hx]; exact (validB_iff _).2 hP
 ·rw [hR, hv2.1, hr.2.1]
 ·exact if_pos ((validB_iff _).2 hr.1)
 ·rw [hx]
  have e : D_impl_Dimension (b.1, (LA.insS b.2 v).1) = ((List.length (LA.insS b.2 v).1 : Nat) : Int) := if_pos ((validB_iff _).2 hP)
  rw [e]; exact hcast
 ·rw [hx]
  have e : D_impl_FreeColumns (b.1, (LA.insS b.2 v).1) = frC (LA.insS b.2 v).1 b.1.toNat := if_pos ((validB_iff _).2 hP)
  rw [e, ← hcast]; omega
 ·rw [hR, hl, ← i2, hx]
 ·rw [hR]
  have e : D_spec_ReduceVector b (LA.redS b.2 v) = LA.redS b.2 (LA.redS b.2 v) := if_pos (takesB_of ⟨hr.1, hv2⟩)
  rw [e, redS_idem2 hr.1.2 hr.2]
 ·rw [hx]
  have hw : sameW b (b.1, (LA.insS b.2 v).1) = true := by
   unfold sameW
   rw [if_pos ((validB_iff _).2 hr.1), if_pos ((validB_iff _).2 hP)]
   exact decide_eq_true rfl
  unfold isSubS
  rw [if_pos hw]
  have hall : (b.2.all fun r => D_spec_ContainsVector (b.1, (LA.insS b.2 v).1) r) = true := List.all_eq_true.2 fun r hr' => hin r (hr.1.2.ok r hr') (LA.Span.mem (List.mem_append.2 (Or.inl (List.mem_map.2 ⟨r, hr', rfl⟩))))
  first | exact if_pos hall | exact hall
 ·rw [hx]; exact basP_fit hP
 ·rw [hR]; exact fitV hv2 (by omega)

def basIt (x : T109) (w : Int) : Nat → T109 × T60
 | 0 => (x, newBas w)
 | i + 1 => ((vecD (basIt x w i).1 w).1, (insV (basIt x w i).2 (vecD (basIt x w i).1 w).2).1)
theorem basIt_inv {x : T109} {w : Int} (hx : 0 ≤ x.2.1) (hw : 0 ≤ w ∧ w ≤ 40) : ∀ i, 0 ≤ (basIt x w i).1.2.1 ∧ basP (basIt x w i).2 ∧ (basIt x w i).2.1 = w
 | 0 => by
  have e : newBas w = (w, []) := if_pos (inR_true hw)
  refine ⟨hx, ?_, ?_⟩
  ·show basP (newBas w); rw [e]; exact ⟨hw, LA.RedL.nil _⟩
  ·show (newBas w).1 = w; rw [e]
 | i + 1 => by
  obtain ⟨h1, h2, h3⟩ := basIt_inv hx hw i
  have h4 := insV_P (v := (vecD (basIt x w i).1 w).2) h2
  exact ⟨(vecD_ok h1).1, h4.1, h4.2.trans h3⟩
def basD (x0 : T109) (x1 : Int) : T109 × T60 := ((basIt (belowC x0 5).1 x1 (belowC x0 5).2.toNat).1, (basIt (belowC x0 5).1 x1 (belowC x0 5).2.toNat).2)
abbrev Q_spec_l8Basis := (fun (x0 : T109) (x1 : Int) => 0 ≤ x0.2.1 ∧ (0 ≤ x1 ∧ x1 ≤ 40))
def B_spec_l8Basis : BS := { t := 109, s := s109, dom := [(.int 3)], cod := [s60], pre := fun y x => Q_spec_l8Basis y x.1, upd := fun y x => (basD y x.1).1, g := fun y x => ((basD y x.1).2, ()), dp := false }
def S_spec_l8Basis : Sum := bSum 95 B_spec_l8Basis
def S_spec_l8Basis_tab : List (Nat × Sum) := [(151, S_spec_NewBasis), (73, S_spec_l1Below), (153, S_spec_l5Vector), (152, S_spec_InsertVector)]
theorem S_spec_l8Basis_ok : FnOK Try.prog 95 S_spec_l8Basis := by
 refine at_enterB (B := B_spec_l8Basis) 24 (fun v y x => ⟨[(0, aP 1 0), (1, aI x.1)], [(1, oX 109 [.ro (.u8 5) y.1, cI y.2.1, cI y.2.2]), (2, oP 1 v)]⟩) Try.func95 rfl (by kernel_rfl) (fun v y x => rfl) ?_
 rintro w0 Z0 b0 x0 ⟨x1, u⟩ a w
 revert x0 x1
 intro (x0 : T109) (x1 : Int) hpre hlens0 hlens h
 replace h : At w0 Z0 [b0] 24 ⟨[(0, aP 1 0), (1, aI x1)], [(1, oX 109 [.ro (.u8 5) x0.1, cI x0.2.1, cI x0.2.2]), (2, oP 1 (Value.pointer (some ⟨b0, 0, none⟩)))]⟩ a w := h
 replace hpre : Q_spec_l8Basis x0 x1 := hpre
 have hl1 : List.length x0.1 ≤ 9223372036854775807 := hlens0.1.1
 have hu0 : u8L x0.1 := hlens0.1.2
 have hT : TabOK Try.prog S_spec_l8Basis_tab := (.cons S_spec_NewBasis_ok (.cons S_spec_l1Below_ok (.cons S_spec_l5Vector_ok (.cons S_spec_InsertVector_ok .nil))))
 have hb := below_bd x0 (n := 5) (by decide)
 have hc := below_ok (n := 5) hpre.1
 have hp2 := hpre.2
 refine wp_seq ?_
 refine at_regq [{ ids := [3] }] { ts := [0, 1, 4], os := [1, 2, 3] } [] gamOK hT h (by kernel_rfl) trivial fun a w h => then_normal (wp_seq ?_)
 refine at_regq [{}, { ids := [4] }, { ids := [5] }] { ts := [0, 1, 4, 5], os := [1, 2, 3, 4, 5] } [True] gamOK hT h (by kernel_rfl) ⟨trivial, trivial⟩ fun a w h => then_normal (wp_seq (wp_seq ?_))
 refine at_regq [] { ts := [0, 1, 4, 5, 6], os := [1, 2, 3, 4, 5] } [B_spec_l1Below.pre x0 (5, ())] gamOK hT h (by kernel_rfl) ⟨(by exact hpre.1), trivial⟩ fun a w h => then_normal (wp_block ?_)
 replace h := at_out (σ' := ⟨[(0, aP 1 0), (1, aI x1), (4, aP 3 0), (5, aP 5 0), (6, aI (belowC x0 5).2)], [(1, oX 109 [.ro (.u8 5) (belowC x0 5).1.1, cI (belowC x0 5).1.2.1, cI (belowC x0 5).1.2.2]), (2, oP 1 (Value.pointer (some ⟨b0, 0, none⟩))), (3, oX 60 [cI 0, cN]), (4, oF s27 (newBas x1).2), (5, oX 60 [cI (newBas x1).1, .sl 4])]⟩) { ts := [0, 1, 4, 5, 6], os := [1, 2, 3, 4, 5] } h (by kernel_rfl)
 refine at_loop (fun i : Nat => (⟨[(0, aP 1 0), (1, aI x1), (4, aP 3 0), (5, aP 5 0), (6, aI ((belowC x0 5).2 - ((i : Nat) : Int)))], [(1, oX 109 [.ro (.u8 5) (basIt (belowC x0 5).1 x1 i).1.1, cI (basIt (belowC x0 5).1 x1 i).1.2.1, cI (basIt (belowC x0 5).1 x1 i).1.2.2]), (2, oP 1 (Value.pointer (some ⟨b0, 0, none⟩))), (3, oX 60 [cI 0, cN]), (4, oF s27 (basIt (belowC x0 5).1 x1 i).2.2), (5, oX 60 [cI (basIt (belowC x0 5).1 x1 i).2.1, .sl 4])]⟩ : St)) (fun i => ((i : Nat) : Int) ≤ (belowC x0 5).2) (fun i => (belowC x0 5).2.toNat - i) (0) h (st_congr6 (fun (d0 : List Int) (d1 : Int) (d2 : Int) (d3 : Int) (d4 : List (List Int)) (d5 : Int) => (⟨[(0, aP 1 0), (1, aI x1), (4, aP 3 0), (5, aP 5 0), (6, aI d5)], [(1, oX 109 [.ro (.u8 5) d0, cI d1, cI d2]), (2, oP 1 (Value.pointer (some ⟨b0, 0, none⟩))), (3, oX 60 [cI 0, cN]), (4, oF s27 d4), (5, oX 60 [cI d3, .sl 4])]⟩ : St)) (show ((belowC x0 5).1.1 : List Int) = (basIt (belowC x0 5).1 x1 (0)).1.1 from by first | with_reducible rfl | (first | rfl | omega) | rfl) (show ((belowC x0 5).1.2.1 : Int) = (basIt (belowC x0 5).1 x1 (0)).1.2.1 from by first | with_reducible rfl | (first | rfl | omega) | rfl) (show ((belowC x0 5).1.2.2 : Int) = (basIt (belowC x0 5).1 x1 (0)).1.2.2 from by first | with_reducible rfl | (first | rfl | omega) | rfl) (show ((newBas x1).1 : Int) = (basIt (belowC x0 5).1 x1 (0)).2.1 from by first | with_reducible rfl | (first | rfl | omega) | rfl) (show ((newBas x1).2 : List (List Int)) = (basIt (belowC x0 5).1 x1 (0)).2.2 from by first | with_reducible rfl | (first | rfl | omega) | rfl) (show ((belowC x0 5).2 : Int) = ((belowC x0 5).2 - (((0) : Nat) : Int)) from by first | with_reducible rfl | (first | rfl | omega) | rfl)) (by omega) ?_
 intro i a w hok0 h
 have hbi := basIt_inv hc hp2 i
 refine wp_seq (wp_seq ?_)
 refine at_regq [] { ts := [0, 1, 4, 5, 6, 12], os := [1, 2, 3, 4, 5] } [] gamOK hT h (by kernel_rfl) trivial fun a w h => then_normal ?_
 refine at_test (decide (((belowC x0 5).2 - ((i : Nat) : Int)) > 0)) h (by kernel_rfl) (fun h1 => ?_) (fun h1 => ?_)
 ·replace h1 : ((belowC x0 5).2 - ((i : Nat) : Int)) > 0 := of_decide_eq_true h1
  refine wp_skip (then_normal (wp_seq (wp_block ?_)))
  replace h := at_out (σ' := ⟨[(0, aP 1 0), (1, aI x1), (4, aP 3 0), (5, aP 5 0), (6, aI ((belowC x0 5).2 - ((i : Nat) : Int)))], [(1, oX 109 [.ro (.u8 5) (basIt (belowC x0 5).1 x1 i).1.1, cI (basIt (belowC x0 5).1 x1 i).1.2.1, cI (basIt (belowC x0 5).1 x1 i).1.2.2]), (2, oP 1 (Value.pointer (some ⟨b0, 0, none⟩))), (3, oX 60 [cI 0, cN]), (5, oX 60 [cI (basIt (belowC x0 5).1 x1 i).2.1, .ro s27 (basIt (belowC x0 5).1 x1 i).2.2])]⟩) { fz := [4], ts := [0, 1, 4, 5, 6], os := [1, 2, 3, 5] } h (by kernel_rfl)
  refine at_anyq [{}, {}, {}, { ids := [6], frz := true }, { ids := [7] }, {}, {}, {}, {}] { ts := [0, 1, 4, 5, 6], os := [1, 2, 3, 5, 7] } [B_spec_l5Vector.pre (basIt (belowC x0 5).1 x1 i).1 (x1, ()), Q_spec_InsertVector (basIt (belowC x0 5).1 x1 i).2 (vecD (basIt (belowC x0 5).1 x1 i).1 x1).2] gamOK hT mixed h (by kernel_rfl) ⟨(by exact ⟨hbi.1, by omega⟩), (by (have hvd := vecD_ok (n := x1) hbi.1; exact ⟨basP_fit hbi.2.1, fitV hvd.2 (by omega)⟩)), trivial⟩ fun a w h => in_normal (then_normal ?_)
  refine at_regq [{}, { nw := true }] { ts := [0, 1, 4, 5, 6], os := [1, 2, 3, 5, 7] } [I64 (((belowC x0 5).2 - ((i : Nat) : Int)) - 1)] gamOK hT h (by kernel_rfl) ⟨⟨by first | omega | (simp only [lsA]; omega) | (simp <;> omega), by first | omega | (simp only [lsA]; omega) | (simp <;> omega)⟩, trivial⟩ fun a w h => ?_
  replace h := at_out (σ' := ⟨[(0, aP 1 0), (1, aI x1), (4, aP 3 0), (5, aP 5 0), (6, aI (((belowC x0 5).2 - ((i : Nat) : Int)) - 1))], [(1, oX 109 [.ro (.u8 5) (vecD (basIt (belowC x0 5).1 x1 i).1 x1).1.1, cI (vecD (basIt (belowC x0 5).1 x1 i).1 x1).1.2.1, cI (vecD (basIt (belowC x0 5).1 x1 i).1 x1).1.2.2]), (2, oP 1 (Value.pointer (some ⟨b0, 0, none⟩))), (3, oX 60 [cI 0, cN]), (4, oF s27 (insV (basIt (belowC x0 5).1 x1 i).2 (vecD (basIt (belowC x0 5).1 x1 i).1 x1).2).1.2), (5, oX 60 [cI (insV (basIt (belowC x0 5).1 x1 i).2 (vecD (basIt (belowC x0 5).1 x1 i).1 x1).2).1.1, .sl 4])]⟩) { ts := [0, 1, 4, 5, 6], os := [1, 2, 3, 7, 5], rn := [(7, 4)] } h (by kernel_rfl)
  exact ⟨i + 1, at_eq h (st_congr6 (fun (d0 : List Int) (d1 : Int) (d2 : Int) (d3 : Int) (d4 : List (List Int)) (d5 : Int) => (⟨[(0, aP 1 0), (1, aI x1), (4, aP 3 0), (5, aP 5 0), (6, aI d5)], [(1, oX 109 [.ro (.u8 5) d0, cI d1, cI d2]), (2, oP 1 (Value.pointer (some ⟨b0, 0, none⟩))), (3, oX 60 [cI 0, cN]), (4, oF s27 d4), (5, oX 60 [cI d3, .sl 4])]⟩ : St)) (show ((vecD (basIt (belowC x0 5).1 x1 i).1 x1).1.1 : List Int) = (basIt (belowC x0 5).1 x1 (i + 1)).1.1 from by first | with_reducible rfl | (rfl) | rfl) (show ((vecD (basIt (belowC x0 5).1 x1 i).1 x1).1.2.1 : Int) = (basIt (belowC x0 5).1 x1 (i + 1)).1.2.1 from by first | with_reducible rfl | (rfl) | rfl) (show ((vecD (basIt (belowC x0 5).1 x1 i).1 x1).1.2.2 : Int) = (basIt (belowC x0 5).1 x1 (i + 1)).1.2.2 from by first | with_reducible rfl | (rfl) | rfl) (show ((insV (basIt (belowC x0 5).1 x1 i).2 (vecD (basIt (belowC x0 5).1 x1 i).1 x1).2).1.1 : Int) = (basIt (belowC x0 5).1 x1 (i + 1)).2.1 from by first | with_reducible rfl | (rfl) | rfl) (show ((insV (basIt (belowC x0 5).1 x1 i).2 (vecD (basIt (belowC x0 5).1 x1 i).1 x1).2).1.2 : List (List Int)) = (basIt (belowC x0 5).1 x1 (i + 1)).2.2 from by first | with_reducible rfl | (rfl) | rfl) (show (((belowC x0 5).2 - ((i : Nat) : Int)) - 1 : Int) = ((belowC x0 5).2 - (((i + 1) : Nat) : Int)) from by first | with_reducible rfl | (omega) | rfl)), (by omega), (by omega)⟩
 ·replace h1 : ¬ (((belowC x0 5).2 - ((i : Nat) : Int)) > 0) := of_decide_eq_false h1
  refine wp_exit (then_exit ?_)
  replace h := at_out (σ' := ⟨[(4, aP 3 0), (5, aP 5 0)], [(1, oX 109 [.ro (.u8 5) (basIt (belowC x0 5).1 x1 i).1.1, cI (basIt (belowC x0 5).1 x1 i).1.2.1, cI (basIt (belowC x0 5).1 x1 i).1.2.2]), (2, oP 1 (Value.pointer (some ⟨b0, 0, none⟩))), (3, oX 60 [cI 0, cN]), (4, oF s27 (basIt (belowC x0 5).1 x1 i).2.2), (5, oX 60 [cI (basIt (belowC x0 5).1 x1 i).2.1, .sl 4])]⟩) { ts := [4, 5], os := [1, 2, 3, 4, 5] } h (by kernel_rfl)
  replace h := at_eq (σ' := ⟨[(4, aP 3 0), (5, aP 5 0)], [(1, oX 109 [.ro (.u8 5) (basIt (belowC x0 5).1 x1 (belowC x0 5).2.toNat).1.1, cI (basIt (belowC x0 5).1 x1 (belowC x0 5).2.toNat).1.2.1, cI (basIt (belowC x0 5).1 x1 (belowC x0 5).2.toNat).1.2.2]), (2, oP 1 (Value.pointer (some ⟨b0, 0, none⟩))), (3, oX 60 [cI 0, cN]), (4, oF s27 (basIt (belowC x0 5).1 x1 (belowC x0 5).2.toNat).2.2), (5, oX 60 [cI (basIt (belowC x0 5).1 x1 (belowC x0 5).2.toNat).2.1, .sl 4])]⟩) h (st_congr5 (fun (d0 : List Int) (d1 : Int) (d2 : Int) (d3 : Int) (d4 : List (List Int)) => (⟨[(4, aP 3 0), (5, aP 5 0)], [(1, oX 109 [.ro (.u8 5) d0, cI d1, cI d2]), (2, oP 1 (Value.pointer (some ⟨b0, 0, none⟩))), (3, oX 60 [cI 0, cN]), (4, oF s27 d4), (5, oX 60 [cI d3, .sl 4])]⟩ : St)) (show ((basIt (belowC x0 5).1 x1 i).1.1 : List Int) = (basIt (belowC x0 5).1 x1 (belowC x0 5).2.toNat).1.1 from by first | with_reducible rfl | (rw [show (belowC x0 5).2.toNat = i by omega]) | rfl) (show ((basIt (belowC x0 5).1 x1 i).1.2.1 : Int) = (basIt (belowC x0 5).1 x1 (belowC x0 5).2.toNat).1.2.1 from by first | with_reducible rfl | (rw [show (belowC x0 5).2.toNat = i by omega]) | rfl) (show ((basIt (belowC x0 5).1 x1 i).1.2.2 : Int) = (basIt (belowC x0 5).1 x1 (belowC x0 5).2.toNat).1.2.2 from by first | with_reducible rfl | (rw [show (belowC x0 5).2.toNat = i by omega]) | rfl) (show ((basIt (belowC x0 5).1 x1 i).2.1 : Int) = (basIt (belowC x0 5).1 x1 (belowC x0 5).2.toNat).2.1 from by first | with_reducible rfl | (rw [show (belowC x0 5).2.toNat = i by omega]) | rfl) (show ((basIt (belowC x0 5).1 x1 i).2.2 : List (List Int)) = (basIt (belowC x0 5).1 x1 (belowC x0 5).2.toNat).2.2 from by first | with_reducible rfl | (rw [show (belowC x0 5).2.toNat = i by omega]) | rfl))
  refine then_exit (in_hit (then_normal (wp_seq ?_)))
  refine at_regq [] { ts := [4], os := [1, 2, 3, 4] } [] gamOK hT h (by kernel_rfl) trivial fun a w h => then_normal (wp_ret ?_)
  have hr2 : (((basIt (belowC x0 5).1 x1 (belowC x0 5).2.toNat).1, (basIt (belowC x0 5).1 x1 (belowC x0 5).2.toNat).2) : T109 × T60) = basD x0 x1 := by rfl
  exact at_returnB (B := B_spec_l8Basis) (c0 := x0) (x := (x1, ())) ((basIt (belowC x0 5).1 x1 (belowC x0 5).2.toNat).1) ((basIt (belowC x0 5).1 x1 (belowC x0 5).2.toNat).2, ()) [(Value.pointer (some ⟨b0, 0, none⟩)) = (Value.pointer (some ⟨b0, 0, none⟩))] h (by kernel_rfl) ⟨rfl, trivial⟩ (congrArg (a₁ := ((basIt (belowC x0 5).1 x1 (belowC x0 5).2.toNat).1, (basIt (belowC x0 5).1 x1 (belowC x0 5).2.toNat).2)) (a₂ := basD x0 x1) (fun (z : T109 × T60) => z.1) hr2) (congrArg (a₁ := ((basIt (belowC x0 5).1 x1 (belowC x0 5).2.toNat).1, (basIt (belowC x0 5).1 x1 (belowC x0 5).2.toNat).2)) (a₂ := basD x0 x1) (fun (z : T109 × T60) => (z.2, ())) hr2)
theorem basD_ok {x : T109} {w : Int} (h : 0 ≤ x.2.1) (hw : 0 ≤ w ∧ w ≤ 40) : 0 ≤ (basD x w).1.2.1 ∧ basP (basD x w).2 ∧ (basD x w).2.1 = w := basIt_inv (below_ok (n := 5) h) hw _

@[irreducible]
def anyBs (x0 : T109) (x1 : Int) : T109 × T60 := (if (belowC (basD x0 x1).1 10).2 = 0 then ((pickC (belowC (basD x0 x1).1 10).1 ([(-1), (basD x0 x1).2.1 + 1, 41])).1, ((pickC (belowC (basD x0 x1).1 10).1 ([(-1), (basD x0 x1).2.1 + 1, 41])).2, (basD x0 x1).2.2)) else (if (belowC (basD x0 x1).1 10).2 = 1 then ((vecD (belowC (basD x0 x1).1 10).1 x1).1, ((basD x0 x1).2.1, ((basD x0 x1).2.2 ++ ([(vecD (belowC (basD x0 x1).1 10).1 x1).2])))) else ((belowC (basD x0 x1).1 10).1, (basD x0 x1).2)))
abbrev Q_spec_l8Any := (fun (x0 : T109) (x1 : Int) => 0 ≤ x0.2.1 ∧ (0 ≤ x1 ∧ x1 ≤ 40))
def B_spec_l8Any : BS := { t := 109, s := s109, dom := [(.int 3)], cod := [s60], pre := fun y x => Q_spec_l8Any y x.1, upd := fun y x => (anyBs y x.1).1, g := fun y x => ((anyBs y x.1).2, ()), dp := false }
def S_spec_l8Any : Sum := bSum 132 B_spec_l8Any
def S_spec_l8Any_tab : List (Nat × Sum) := [(95, S_spec_l8Basis), (73, S_spec_l1Below), (116, S_spec_l1Int), (153, S_spec_l5Vector)]
theorem S_spec_l8Any_ok : FnOK Try.prog 132 S_spec_l8Any := by
 refine at_enterB (B := B_spec_l8Any) 31 (fun v y x => ⟨[(0, aP 1 0), (1, aI x.1)], [(1, oX 109 [.ro (.u8 5) y.1, cI y.2.1, cI y.2.2]), (2, oP 1 v)]⟩) Try.func132 rfl (by kernel_rfl) (fun v y x => rfl) ?_
 rintro w0 Z0 b0 x0 ⟨x1, u⟩ a w
 revert x0 x1
 intro (x0 : T109) (x1 : Int) hpre hlens0 hlens h
 replace h : At w0 Z0 [b0] 31 ⟨[(0, aP 1 0), (1, aI x1)], [(1, oX 109 [.ro (.u8 5) x0.1, cI x0.2.1, cI x0.2.2]), (2, oP 1 (Value.pointer (some ⟨b0, 0, none⟩)))]⟩ a w := h
 replace hpre : Q_spec_l8Any x0 x1 := hpre
 have hl1 : List.length x0.1 ≤ 9223372036854775807 := hlens0.1.1
 have hu0 : u8L x0.1 := hlens0.1.2
 have hT : TabOK Try.prog S_spec_l8Any_tab := (.cons S_spec_l8Basis_ok (.cons S_spec_l1Below_ok (.cons S_spec_l1Int_ok (.cons S_spec_l5Vector_ok .nil))))
 have hp2 := hpre.2
 have hbo := basD_ok (w := x1) hpre.1 hp2
 have hb1 := hbo.2.1.1
 have hbl := hbo.2.1.2.len
 have hcb := below_ok (n := 10) hbo.1
 refine wp_seq ?_
 refine at_regq [{ ids := [3] }] { ts := [0, 1, 4], os := [1, 2, 3] } [] gamOK hT h (by kernel_rfl) trivial fun a w h => then_normal (wp_seq ?_)
 refine at_regq [{}, {}, { ids := [4] }, { ids := [5] }] { ts := [0, 1, 4, 5], os := [1, 2, 3, 4, 5] } [B_spec_l8Basis.pre x0 (x1, ())] gamOK hT h (by kernel_rfl) ⟨(by exact hpre), trivial⟩ fun a w h => then_normal (wp_seq (wp_seq ?_))
 refine at_regq [] { ts := [0, 1, 4, 5, 10], os := [1, 2, 3, 4, 5] } [B_spec_l1Below.pre (basD x0 x1).1 (10, ())] gamOK hT h (by kernel_rfl) ⟨(by exact (basD_ok hpre.1 (by omega)).1), trivial⟩ fun a w h => then_normal (wp_block (wp_seq ?_))
 refine at_regq [] { ts := [0, 1, 4, 5, 10, 11], os := [1, 2, 3, 4, 5] } [] gamOK hT h (by kernel_rfl) trivial fun a w h => then_normal ?_
 refine at_test (decide ((belowC (basD x0 x1).1 10).2 = 0)) h (by kernel_rfl) (fun h1 => ?_) (fun h1 => ?_)
 ·replace h1 : (belowC (basD x0 x1).1 10).2 = 0 := of_decide_eq_true h1
  refine at_regq [{}, {}, {}, { nw := true }, { ids := [6], frz := true, dp := false }] { ts := [4, 5], os := [1, 2, 3, 4, 5] } [I64 ((basD x0 x1).2.1 + 1), B_spec_l1Int.pre (belowC (basD x0 x1).1 10).1 ([(-1), (basD x0 x1).2.1 + 1, 41], ())] gamOK hT h (by kernel_rfl) ⟨⟨by first | omega | (simp only [lsA]; omega) | (simp <;> omega), by first | omega | (simp only [lsA]; omega) | (simp <;> omega)⟩, (by exact ⟨(below_ok (basD_ok hpre.1 (by omega)).1), by simp, by simp⟩), trivial⟩ fun a w h => in_normal (then_normal (wp_seq ?_))
  refine at_regq [] { ts := [4], os := [1, 2, 3, 4] } [] gamOK hT h (by kernel_rfl) trivial fun a w h => then_normal (wp_ret ?_)
  have hr2 : (((pickC (belowC (basD x0 x1).1 10).1 ([(-1), (basD x0 x1).2.1 + 1, 41])).1, ((pickC (belowC (basD x0 x1).1 10).1 ([(-1), (basD x0 x1).2.1 + 1, 41])).2, (basD x0 x1).2.2)) : T109 × T60) = anyBs x0 x1 := by (unfold anyBs; rw [if_pos h1])
  exact at_returnB (B := B_spec_l8Any) (c0 := x0) (x := (x1, ())) ((pickC (belowC (basD x0 x1).1 10).1 ([(-1), (basD x0 x1).2.1 + 1, 41])).1) (((pickC (belowC (basD x0 x1).1 10).1 ([(-1), (basD x0 x1).2.1 + 1, 41])).2, (basD x0 x1).2.2), ()) [(Value.pointer (some ⟨b0, 0, none⟩)) = (Value.pointer (some ⟨b0, 0, none⟩))] h (by kernel_rfl) ⟨rfl, trivial⟩ (congrArg (a₁ := ((pickC (belowC (basD x0 x1).1 10).1 ([(-1), (basD x0 x1).2.1 + 1, 41])).1, ((pickC (belowC (basD x0 x1).1 10).1 ([(-1), (basD x0 x1).2.1 + 1, 41])).2, (basD x0 x1).2.2))) (a₂ := anyBs x0 x1) (fun (z : T109 × T60) => z.1) hr2) (congrArg (a₁ := ((pickC (belowC (basD x0 x1).1 10).1 ([(-1), (basD x0 x1).2.1 + 1, 41])).1, ((pickC (belowC (basD x0 x1).1 10).1 ([(-1), (basD x0 x1).2.1 + 1, 41])).2, (basD x0 x1).2.2))) (a₂ := anyBs x0 x1) (fun (z : T109 × T60) => (z.2, ())) hr2)
 ·replace h1 : ¬ ((belowC (basD x0 x1).1 10).2 = 0) := of_decide_eq_false h1
  refine wp_seq ?_
  refine at_regq [] { ts := [0, 1, 4, 5, 20], os := [1, 2, 3, 4, 5] } [] gamOK hT h (by kernel_rfl) trivial fun a w h => then_normal ?_
  refine at_test (decide ((belowC (basD x0 x1).1 10).2 = 1)) h (by kernel_rfl) (fun h3 => ?_) (fun h3 => ?_)
  ·replace h3 : (belowC (basD x0 x1).1 10).2 = 1 := of_decide_eq_true h3
   refine at_anyq [{}, {}, {}, {}, { ids := [7], frz := true }, { ids := [8], dp := false }, { ids := [9], dp := false }, {}, {}] { ts := [4, 5], os := [1, 2, 3, 5, 9] } [B_spec_l5Vector.pre (belowC (basD x0 x1).1 10).1 (x1, ()), (List.length (basD x0 x1).2.2 + List.length ([(vecD (belowC (basD x0 x1).1 10).1 x1).2])) * 24 ≤ 140737488355328] gamOK hT mixed h (by kernel_rfl) ⟨(by exact ⟨(below_ok (basD_ok hpre.1 (by omega)).1), by omega⟩), (by first | omega | (simp only [lsA]; omega) | (simp <;> omega)), trivial⟩ fun a w h => in_normal (then_normal (wp_seq ?_))
   refine at_regq [] { ts := [4], os := [1, 2, 3, 9] } [] gamOK hT h (by kernel_rfl) trivial fun a w h => then_normal (wp_ret ?_)
   have hr4 : (((vecD (belowC (basD x0 x1).1 10).1 x1).1, ((basD x0 x1).2.1, ((basD x0 x1).2.2 ++ ([(vecD (belowC (basD x0 x1).1 10).1 x1).2])))) : T109 × T60) = anyBs x0 x1 := by (unfold anyBs; rw [if_neg h1, if_pos h3])
   exact at_returnB (B := B_spec_l8Any) (c0 := x0) (x := (x1, ())) ((vecD (belowC (basD x0 x1).1 10).1 x1).1) (((basD x0 x1).2.1, ((basD x0 x1).2.2 ++ ([(vecD (belowC (basD x0 x1).1 10).1 x1).2]))), ()) [(Value.pointer (some ⟨b0, 0, none⟩)) = (Value.pointer (some ⟨b0, 0, none⟩))] h (by kernel_rfl) ⟨rfl, trivial⟩ (congrArg (a₁ := ((vecD (belowC (basD x0 x1).1 10).1 x1).1, ((basD x0 x1).2.1, ((basD x0 x1).2.2 ++ ([(vecD (belowC (basD x0 x1).1 10).1 x1).2]))))) (a₂ := anyBs x0 x1) (fun (z : T109 × T60) => z.1) hr4) (congrArg (a₁ := ((vecD (belowC (basD x0 x1).1 10).1 x1).1, ((basD x0 x1).2.1, ((basD x0 x1).2.2 ++ ([(vecD (belowC (basD x0 x1).1 10).1 x1).2]))))) (a₂ := anyBs x0 x1) (fun (z : T109 × T60) => (z.2, ())) hr4)
  ·replace h3 : ¬ ((belowC (basD x0 x1).1 10).2 = 1) := of_decide_eq_false h3
   refine wp_skip (in_normal (then_normal (wp_seq ?_)))
   refine at_regq [] { ts := [4], os := [1, 2, 3, 4] } [] gamOK hT h (by kernel_rfl) trivial fun a w h => then_normal (wp_ret ?_)
   have hr5 : (((belowC (basD x0 x1).1 10).1, (basD x0 x1).2) : T109 × T60) = anyBs x0 x1 := by (unfold anyBs; rw [if_neg h1, if_neg h3])
   exact at_returnB (B := B_spec_l8Any) (c0 := x0) (x := (x1, ())) ((belowC (basD x0 x1).1 10).1) ((basD x0 x1).2, ()) [(Value.pointer (some ⟨b0, 0, none⟩)) = (Value.pointer (some ⟨b0, 0, none⟩))] h (by kernel_rfl) ⟨rfl, trivial⟩ (congrArg (a₁ := ((belowC (basD x0 x1).1 10).1, (basD x0 x1).2)) (a₂ := anyBs x0 x1) (fun (z : T109 × T60) => z.1) hr5) (congrArg (a₁ := ((belowC (basD x0 x1).1 10).1, (basD x0 x1).2)) (a₂ := anyBs x0 x1) (fun (z : T109 × T60) => (z.2, ())) hr5)
theorem anyBs_ok {x : T109} {w : Int} (h : 0 ≤ x.2.1) (hw : 0 ≤ w ∧ w ≤ 40) : 0 ≤ (anyBs x w).1.2.1 ∧ List.length (anyBs x w).2.2 ≤ 41 ∧ ∀ r ∈ (anyBs x w).2.2, List.length r ≤ 40 := by
 have hbo := basD_ok (w := w) h hw
 have hbl := hbo.2.1.2.len
 have hb1 := hbo.2.1.1
 have hcb := below_ok (n := 10) hbo.1
 have hvd := vecD_ok (n := w) hcb
 have hrow : ∀ r ∈ (basD x w).2.2, List.length r ≤ 40 := fun r hr => by have := (hbo.2.1.2.ok r hr).1; omega
 unfold anyBs
 (repeat' split) <;> refine ⟨?_, ?_, ?_⟩ <;> first
  | exact pickC_ok hcb
  | exact hvd.1
  | exact hcb
  | exact hrow
  | (intro r hr
     rcases List.mem_append.1 hr with hr | hr
     ·exact hrow r hr
     ·rw [List.mem_singleton.1 hr]; have := hvd.2.1; omega)
  | (simp; omega)
  | (dsimp only; omega)
theorem anyBs_fit {x : T109} {w : Int} (h : 0 ≤ x.2.1) (hw : 0 ≤ w ∧ w ≤ 40) : Sh.fit s60 (anyBs x w).2 := ⟨trivial, ⟨Nat.le_trans (anyBs_ok h hw).2.1 (by decide), fun r hr => ⟨Nat.le_trans ((anyBs_ok h hw).2.2 r hr) (by decide), fun _ _ => trivial⟩⟩⟩

@[irreducible]
def pairB (x0 : (List Int)) : T60 × (List Int) := (if ((List.length (anyBs (belowC (newC x0) 5).1 (belowC (newC x0) 5).2).2.2 : Nat) : Int) > 0 then (if (onceC (anyBs (belowC (newC x0) 5).1 (belowC (newC x0) 5).2).1 3).2 = true then ((anyBs (belowC (newC x0) 5).1 (belowC (newC x0) 5).2).2, (scaleV ((anyBs (belowC (newC x0) 5).1 (belowC (newC x0) 5).2).2.2.getD (((belowC (onceC (anyBs (belowC (newC x0) 5).1 (belowC (newC x0) 5).2).1 3).1 ((List.length (anyBs (belowC (newC x0) 5).1 (belowC (newC x0) 5).2).2.2 : Nat) : Int)).2).toNat) []) (elemC (belowC (onceC (anyBs (belowC (newC x0) 5).1 (belowC (newC x0) 5).2).1 3).1 ((List.length (anyBs (belowC (newC x0) 5).1 (belowC (newC x0) 5).2).2.2 : Nat) : Int)).1).2)) else ((anyBs (belowC (newC x0) 5).1 (belowC (newC x0) 5).2).2, (anyV (onceC (anyBs (belowC (newC x0) 5).1 (belowC (newC x0) 5).2).1 3).1 (belowC (newC x0) 5).2).2)) else ((anyBs (belowC (newC x0) 5).1 (belowC (newC x0) 5).2).2, (anyV (anyBs (belowC (newC x0) 5).1 (belowC (newC x0) 5).2).1 (belowC (newC x0) 5).2).2))
abbrev Q_spec_l8Pair := (fun (x0 : (List Int)) => Sh.fit s22 x0)
def S_spec_l8Pair : Sum := { fid := 80, dom := [s22], cod := [s60, s27], dp := false, fz := false, pre := fun x => Q_spec_l8Pair x.1, g := fun x => ((pairB x.1).1, ((pairB x.1).2, ())) }
def S_spec_l8Pair_tab : List (Nat × Sum) := [(46, S_spec_l1New), (73, S_spec_l1Below), (132, S_spec_l8Any), (121, S_spec_l1Once), (134, S_spec_l4Element), (133, S_spec_ScaleVector), (135, S_spec_l5Any)]
theorem S_spec_l8Pair_ok : FnOK Try.prog 80 S_spec_l8Pair := by
 refine at_enter 39 (fun x => ⟨[(0, aF (.u8 5) x.1)], []⟩) Try.func80 rfl (by kernel_rfl) (fun x => rfl) ?_
 rintro w0 Z0 ⟨x0, u⟩ a w
 revert x0
 intro (x0 : (List Int)) hpre hlens h
 replace hpre : Q_spec_l8Pair x0 := hpre
 have hu0 : u8L x0 := hlens.1.2
 have hT : TabOK Try.prog S_spec_l8Pair_tab := (.cons S_spec_l1New_ok (.cons S_spec_l1Below_ok (.cons S_spec_l8Any_ok (.cons S_spec_l1Once_ok (.cons S_spec_l4Element_ok (.cons S_spec_ScaleVector_ok (.cons S_spec_l5Any_ok .nil)))))))
 have hf0 : Sh.fit s22 x0 := hpre
 have hn0_1 : List.length x0 ≤ 1073741824 := hf0.1
 have hb5 := below_bd (newC x0) (n := 5) (by decide)
 have hc5 := below_ok (n := 5) (x := newC x0) (Int.le_refl 0)
 have hao := anyBs_ok hc5 (w := (belowC (newC x0) 5).2) (by omega)
 have haf := anyBs_fit hc5 (w := (belowC (newC x0) 5).2) (by omega)
 have hal := hao.2.1
 have hoc := once_ok (n := 3) hao.1
 refine wp_seq ?_
 refine at_regq [{ ids := [1] }] { ts := [0, 2, 3], os := [1] } [] gamOK hT h (by kernel_rfl) trivial fun a w h => then_normal (wp_seq ?_)
 refine at_regq [{}, { ids := [2] }] { ts := [2, 3, 4], os := [1, 2] } [B_spec_l1New.pre (x0, ())] gamOK hT h (by kernel_rfl) ⟨(by exact hf0), trivial⟩ fun a w h => then_normal (wp_seq ?_)
 refine at_regq [] { ts := [2, 3, 4, 5], os := [1, 2] } [B_spec_l1Below.pre (newC x0) (5, ())] gamOK hT h (by kernel_rfl) ⟨(by first | exact Int.le_refl 0 | exact (Int.le_refl 0)), trivial⟩ fun a w h => then_normal (wp_seq ?_)
 refine at_regq [{}, {}, { ids := [3] }, { ids := [4] }] { ts := [2, 3, 4, 5, 6], os := [1, 2, 3, 4] } [B_spec_l8Any.pre (belowC (newC x0) 5).1 ((belowC (newC x0) 5).2, ())] gamOK hT h (by kernel_rfl) ⟨(by exact ⟨(below_ok (Int.le_refl 0)), by omega⟩), trivial⟩ fun a w h => then_normal (wp_seq (wp_seq ?_))
 by_cases h1 : ((List.length (anyBs (belowC (newC x0) 5).1 (belowC (newC x0) 5).2).2.2 : Nat) : Int) > 0
 ·refine at_regq [{}, {}, {}, { hint := some (aB true) }] { ts := [2, 3, 4, 5, 6, 21], os := [1, 2, 3, 4] } [(AV.p (.c (.v (.bool (decide (((List.length (anyBs (belowC (newC x0) 5).1 (belowC (newC x0) 5).2).2.2 : Nat) : Int) > 0))))) = AV.p (.c (.v (.bool true)))), B_spec_l1Once.pre (anyBs (belowC (newC x0) 5).1 (belowC (newC x0) 5).2).1 (3, ())] gamOK hT h (by kernel_rfl) ⟨hint_bool (decide_eq_true h1), (by first | exact Int.le_refl 0 | exact (anyBs_ok (below_ok (Int.le_refl 0)) (by omega)).1), trivial⟩ fun a w h => then_normal ?_
  refine at_test ((onceC (anyBs (belowC (newC x0) 5).1 (belowC (newC x0) 5).2).1 3).2) h (by kernel_rfl) (fun h2 => ?_) (fun h2 => ?_)
  ·have hbz := below_bd (onceC (anyBs (belowC (newC x0) 5).1 (belowC (newC x0) 5).2).1 3).1 (n := ((List.length (anyBs (belowC (newC x0) 5).1 (belowC (newC x0) 5).2).2.2 : Nat) : Int)) (by omega)
   refine wp_seq ?_
   refine at_anyq [{}, {}, {}, {}, {}, {}, {}, {}, {}, {}, {}, {}, { ids := [5] }, {}, {}] { ts := [2, 3, 4, 5, 6], os := [1, 2, 3, 4, 5] } [B_spec_l1Below.pre (onceC (anyBs (belowC (newC x0) 5).1 (belowC (newC x0) 5).2).1 3).1 (((List.length (anyBs (belowC (newC x0) 5).1 (belowC (newC x0) 5).2).2.2 : Nat) : Int), ()), (0 : Int) ≤ (belowC (onceC (anyBs (belowC (newC x0) 5).1 (belowC (newC x0) 5).2).1 3).1 ((List.length (anyBs (belowC (newC x0) 5).1 (belowC (newC x0) 5).2).2.2 : Nat) : Int)).2 ∧ (belowC (onceC (anyBs (belowC (newC x0) 5).1 (belowC (newC x0) 5).2).1 3).1 ((List.length (anyBs (belowC (newC x0) 5).1 (belowC (newC x0) 5).2).2.2 : Nat) : Int)).2 < ((List.length (anyBs (belowC (newC x0) 5).1 (belowC (newC x0) 5).2).2.2 : Nat) : Int), ((belowC (onceC (anyBs (belowC (newC x0) 5).1 (belowC (newC x0) 5).2).1 3).1 ((List.length (anyBs (belowC (newC x0) 5).1 (belowC (newC x0) 5).2).2.2 : Nat) : Int)).2).toNat < List.length (anyBs (belowC (newC x0) 5).1 (belowC (newC x0) 5).2).2.2, B_spec_l4Element.pre (belowC (onceC (anyBs (belowC (newC x0) 5).1 (belowC (newC x0) 5).2).1 3).1 ((List.length (anyBs (belowC (newC x0) 5).1 (belowC (newC x0) 5).2).2.2 : Nat) : Int)).1 (()), Q_spec_ScaleVector ((anyBs (belowC (newC x0) 5).1 (belowC (newC x0) 5).2).2.2.getD (((belowC (onceC (anyBs (belowC (newC x0) 5).1 (belowC (newC x0) 5).2).1 3).1 ((List.length (anyBs (belowC (newC x0) 5).1 (belowC (newC x0) 5).2).2.2 : Nat) : Int)).2).toNat) []) (elemC (belowC (onceC (anyBs (belowC (newC x0) 5).1 (belowC (newC x0) 5).2).1 3).1 ((List.length (anyBs (belowC (newC x0) 5).1 (belowC (newC x0) 5).2).2.2 : Nat) : Int)).1).2] gamOK hT mixed h (by kernel_rfl) ⟨(by first | exact Int.le_refl 0 | exact (once_ok (anyBs_ok (below_ok (Int.le_refl 0)) (by omega)).1)), (by refine ⟨?_, ?_⟩ <;> (first | omega | (simp only [lsA]; omega) | (simp <;> omega))), (by first | omega | (simp only [lsA]; omega) | (simp <;> omega)), (by first | exact Int.le_refl 0 | exact (below_ok (once_ok (anyBs_ok (below_ok (Int.le_refl 0)) (by omega)).1))), (by exact Sh.fit_getD haf.2 _), trivial⟩ fun a w h => then_normal (wp_ret (then_ret ?_))
   exact at_return ((anyBs (belowC (newC x0) 5).1 (belowC (newC x0) 5).2).2, ((scaleV ((anyBs (belowC (newC x0) 5).1 (belowC (newC x0) 5).2).2.2.getD (((belowC (onceC (anyBs (belowC (newC x0) 5).1 (belowC (newC x0) 5).2).1 3).1 ((List.length (anyBs (belowC (newC x0) 5).1 (belowC (newC x0) 5).2).2.2 : Nat) : Int)).2).toNat) []) (elemC (belowC (onceC (anyBs (belowC (newC x0) 5).1 (belowC (newC x0) 5).2).1 3).1 ((List.length (anyBs (belowC (newC x0) 5).1 (belowC (newC x0) 5).2).2.2 : Nat) : Int)).1).2), ())) [] h (by kernel_rfl) trivial (congrArg (fun z => (z.1, z.2, ())) (show (((anyBs (belowC (newC x0) 5).1 (belowC (newC x0) 5).2).2, (scaleV ((anyBs (belowC (newC x0) 5).1 (belowC (newC x0) 5).2).2.2.getD (((belowC (onceC (anyBs (belowC (newC x0) 5).1 (belowC (newC x0) 5).2).1 3).1 ((List.length (anyBs (belowC (newC x0) 5).1 (belowC (newC x0) 5).2).2.2 : Nat) : Int)).2).toNat) []) (elemC (belowC (onceC (anyBs (belowC (newC x0) 5).1 (belowC (newC x0) 5).2).1 3).1 ((List.length (anyBs (belowC (newC x0) 5).1 (belowC (newC x0) 5).2).2.2 : Nat) : Int)).1).2))) = pairB x0 from by (unfold pairB; rw [if_pos h1, if_pos h2])))
  ·refine wp_skip (then_normal (wp_seq ?_))
   refine at_anyq [{}, {}, {}, { ids := [6] }, {}, {}] { ts := [2, 3], os := [1, 3, 6] } [B_spec_l5Any.pre (onceC (anyBs (belowC (newC x0) 5).1 (belowC (newC x0) 5).2).1 3).1 ((belowC (newC x0) 5).2, ())] gamOK hT mixed h (by kernel_rfl) ⟨(by exact ⟨(once_ok (anyBs_ok (below_ok (Int.le_refl 0)) (by omega)).1), by omega⟩), trivial⟩ fun a w h => then_normal (wp_ret ?_)
   exact at_return ((anyBs (belowC (newC x0) 5).1 (belowC (newC x0) 5).2).2, ((anyV (onceC (anyBs (belowC (newC x0) 5).1 (belowC (newC x0) 5).2).1 3).1 (belowC (newC x0) 5).2).2, ())) [] h (by kernel_rfl) trivial (congrArg (fun z => (z.1, z.2, ())) (show (((anyBs (belowC (newC x0) 5).1 (belowC (newC x0) 5).2).2, (anyV (onceC (anyBs (belowC (newC x0) 5).1 (belowC (newC x0) 5).2).1 3).1 (belowC (newC x0) 5).2).2)) = pairB x0 from by (unfold pairB; rw [if_pos h1, if_neg (neT h2)])))
 ·refine at_regq [{}, {}, {}, { hint := some (aB false) }] { ts := [2, 3, 4, 5, 6, 21], os := [1, 2, 3, 4] } [(AV.p (.c (.v (.bool (decide (((List.length (anyBs (belowC (newC x0) 5).1 (belowC (newC x0) 5).2).2.2 : Nat) : Int) > 0))))) = AV.p (.c (.v (.bool false))))] gamOK hT h (by kernel_rfl) ⟨hint_bool (decide_eq_false h1), trivial⟩ fun a w h => then_normal ?_
  refine at_test false h (by kernel_rfl) (fun hh => nomatch hh) (fun hh => ?_)
  refine wp_skip (then_normal (wp_seq ?_))
  refine at_anyq [{}, {}, {}, { ids := [5] }, {}, {}] { ts := [2, 3], os := [1, 3, 5] } [B_spec_l5Any.pre (anyBs (belowC (newC x0) 5).1 (belowC (newC x0) 5).2).1 ((belowC (newC x0) 5).2, ())] gamOK hT mixed h (by kernel_rfl) ⟨(by exact ⟨(anyBs_ok (below_ok (Int.le_refl 0)) (by omega)).1, by omega⟩), trivial⟩ fun a w h => then_normal (wp_ret ?_)
  exact at_return ((anyBs (belowC (newC x0) 5).1 (belowC (newC x0) 5).2).2, ((anyV (anyBs (belowC (newC x0) 5).1 (belowC (newC x0) 5).2).1 (belowC (newC x0) 5).2).2, ())) [] h (by kernel_rfl) trivial (congrArg (fun z => (z.1, z.2, ())) (show (((anyBs (belowC (newC x0) 5).1 (belowC (newC x0) 5).2).2, (anyV (anyBs (belowC (newC x0) 5).1 (belowC (newC x0) 5).2).1 (belowC (newC x0) 5).2).2)) = pairB x0 from by (unfold pairB; rw [if_neg h1])))
theorem pairB_fit (x : List Int) : Sh.fit s60 (pairB x).1 ∧ Sh.fit s27 (pairB x).2 := by
 have hb5 := below_bd (newC x) (n := 5) (by decide)
 have hc5 := below_ok (n := 5) (x := newC x) (Int.le_refl 0)
 have hw : 0 ≤ (belowC (newC x) 5).2 ∧ (belowC (newC x) 5).2 ≤ 40 := by omega
 have hao := anyBs_ok hc5 hw
 have haf := anyBs_fit hc5 hw
 have hr : ∀ j : Nat, List.length ((anyBs (belowC (newC x) 5).1 (belowC (newC x) 5).2).2.2.getD j []) ≤ 40 := fun j => by
  by_cases hj : j < List.length (anyBs (belowC (newC x) 5).1 (belowC (newC x) 5).2).2.2
  ·exact hao.2.2 _ (LA.getD_in hj)
  ·rw [List.getD_eq_getElem?_getD, List.getElem?_eq_none (by omega)]; decide
 have hv := anyV_ok (n := (belowC (newC x) 5).2) hao.1 hw.2
 have hv2 := anyV_ok (n := (belowC (newC x) 5).2) (once_ok (n := 3) hao.1) hw.2
 unfold pairB
 (repeat' split) <;> first
  | exact ⟨haf, Sh.fit_len rfl (Nat.le_trans hv.2 (by decide))⟩
  | exact ⟨haf, Sh.fit_len rfl (Nat.le_trans hv2.2 (by decide))⟩
  | exact ⟨haf, Sh.fit_len rfl (Nat.le_trans (scaleV_len _ _) (Nat.le_trans (hr _) (by decide)))⟩

abbrev Q_spec_DrawInsertVector := (fun (x0 : (List Int)) => Sh.fit s22 x0)
def S_spec_DrawInsertVector : Sum := { fid := 28, dom := [s22], cod := [s60, s27], dp := false, fz := false, pre := fun x => Q_spec_DrawInsertVector x.1, g := fun x => ((pairB x.1).1, ((pairB x.1).2, ())) }
def S_spec_DrawInsertVector_tab : List (Nat × Sum) := [(80, S_spec_l8Pair)]
theorem S_spec_DrawInsertVector_ok : FnOK Try.prog 28 S_spec_DrawInsertVector := by
 refine at_enter 8 (fun x => ⟨[(0, aF (.u8 5) x.1)], []⟩) Try.func28 rfl (by kernel_rfl) (fun x => rfl) ?_
 rintro w0 Z0 ⟨x0, u⟩ a w
 revert x0
 intro (x0 : (List Int)) hpre hlens h
 replace hpre : Q_spec_DrawInsertVector x0 := hpre
 have hu0 : u8L x0 := hlens.1.2
 have hT : TabOK Try.prog S_spec_DrawInsertVector_tab := (.cons S_spec_l8Pair_ok .nil)
 have hf0 : Sh.fit s22 x0 := hpre
 have hn0_1 : List.length x0 ≤ 1073741824 := hf0.1
 refine wp_seq ?_
 refine at_regq [{ ids := [1] }] { ts := [0, 2, 3], os := [1] } [] gamOK hT h (by kernel_rfl) trivial fun a w h => then_normal (wp_seq ?_)
 refine at_regq [{}, { ids := [2, 3] }] { ts := [2, 3], os := [1, 2, 3] } [Q_spec_l8Pair x0] gamOK hT h (by kernel_rfl) ⟨(by exact hf0), trivial⟩ fun a w h => then_normal (wp_ret ?_)
 exact at_return ((pairB x0).1, ((pairB x0).2, ())) [] h (by kernel_rfl) trivial (congrArg (fun z => (z.1, z.2, ())) (show (((pairB x0).1, (pairB x0).2)) = pairB x0 from by first | rfl | (unfold pairB; rfl; done) | (unfold pairB; simp_all)))

def D_laws_FnBases := (fun (_ : List Int) => true)
abbrev Q_laws_FnBases := (fun (x0 : List Int) => Sh.i64 s22 x0)
def S_laws_FnBases : Sum := { fid := 6, dom := [s22], cod := [(.bool 4)], dp := true, fz := false, pre := fun x => Q_laws_FnBases x.1, g := fun x => ((D_laws_FnBases x.1), ()) }
def S_laws_FnBases_tab : List (Nat × Sum) := [(8, S_laws_big), (28, S_spec_DrawInsertVector), (29, S_impl_InsertVector), (30, S_spec_IsValidBasis), (32, S_impl_EqualBases), (33, S_impl_ContainsVector), (31, S_spec_IsValidVector), (34, S_impl_ReduceVector), (35, S_impl_IsValidBasis), (36, S_impl_Dimension), (37, S_impl_FreeColumns), (38, S_impl_LeadingIndex), (39, S_laws_sameInts), (40, S_spec_IsSubspace)]
theorem S_laws_FnBases_ok : FnOK Try.prog 6 S_laws_FnBases := by
 refine at_enter 115 (fun x => ⟨[(0, aF (.u8 5) x.1)], []⟩) Try.func6 rfl (by kernel_rfl) (fun x => rfl) ?_
 rintro w0 Z0 ⟨x0, u⟩ a w
 revert x0
 intro (x0 : (List Int)) hpre hlens h
 replace hpre : Q_laws_FnBases x0 := hpre
 have hl1 : List.length x0 ≤ 9223372036854775807 := hlens.1.1
 have hu0 : u8L x0 := hlens.1.2
 have hT : TabOK Try.prog S_laws_FnBases_tab := (.cons S_laws_big_ok (.cons S_spec_DrawInsertVector_ok (.cons S_impl_InsertVector_ok (.cons S_spec_IsValidBasis_ok (.cons S_impl_EqualBases_ok (.cons S_impl_ContainsVector_ok (.cons S_spec_IsValidVector_ok (.cons S_impl_ReduceVector_ok (.cons S_impl_IsValidBasis_ok (.cons S_impl_Dimension_ok (.cons S_impl_FreeColumns_ok (.cons S_impl_LeadingIndex_ok (.cons S_laws_sameInts_ok (.cons S_spec_IsSubspace_ok .nil))))))))))))))
 refine wp_seq ?_
 refine at_regq [] { ts := [0, 2], os := [] } [] gamOK hT h (by kernel_rfl) trivial fun a w h => then_normal (wp_seq (wp_seq ?_))
 refine at_regq [] { ts := [0, 2, 10], os := [] } [True] gamOK hT h (by kernel_rfl) ⟨trivial, trivial⟩ fun a w h => then_normal ?_
 refine at_test ((bigF x0)) h (by kernel_rfl) (fun h1 => ?_) (fun h1 => ?_)
 ·refine wp_seq ?_
  refine at_regq [] { ts := [0, 2], os := [] } [] gamOK hT h (by kernel_rfl) trivial fun a w h => then_normal (wp_ret (then_ret ?_))
  exact at_return (true, ()) [] h (by kernel_rfl) trivial (congrArg (fun z => (z, ())) (show (true) = D_laws_FnBases x0 from by unfold D_laws_FnBases; rfl))
 ·have hbz : List.length x0 ≤ 1048576 := big_f h1
  have hd := pairB_fit x0
  refine wp_skip (then_normal (wp_seq ?_))
  refine at_regq [{}, { ids := [1, 2] }, {}, {}, {}, { ids := [3] }] { ts := [2, 3, 4], os := [1, 2, 3] } [Q_spec_DrawInsertVector x0] gamOK hT h (by kernel_rfl) ⟨(by exact (Sh.fit_len (t := 22) (s := (.u8 5)) rfl (by omega))), trivial⟩ fun a w h => then_normal (wp_seq ?_)
  refine at_regq [{}, {}, { ids := [4] }, {}, {}, {}, { ids := [5] }] { ts := [2, 3, 4, 5, 6], os := [1, 2, 3, 4, 5] } [Q_impl_InsertVector (pairB x0).1 (pairB x0).2] gamOK hT h (by kernel_rfl) ⟨(by exact ⟨hd.1, hd.2⟩), trivial⟩ fun a w h => then_normal (wp_seq (wp_seq ?_))
  rcases Bool.eq_false_or_eq_true (!(validBS (pairB x0).1)) with h2 | h2
  ·have hzh2 : (validBS (pairB x0).1) = false := notT h2
   refine at_regq [{}, {}, { hint := some (aB true) }] { ts := [2, 3, 4, 5, 6, 36], os := [1, 2, 3, 4, 5] } [Q_spec_IsValidBasis (pairB x0).1, (AV.p (.c (.v (.bool (!(validBS (pairB x0).1))))) = AV.p (.c (.v (.bool true))))] gamOK hT h (by kernel_rfl) ⟨(by exact hd.1), hint_bool (h2), trivial⟩ fun a w h => then_normal ?_
   refine at_test true h (by kernel_rfl) (fun hh => ?_) (fun hh => nomatch hh)
   refine wp_seq ?_
   rcases Bool.eq_false_or_eq_true (!(insV (pairB x0).1 (pairB x0).2).2) with h3 | h3
   ·have hzh3 : (insV (pairB x0).1 (pairB x0).2).2 = false := notT h3
    rcases Bool.eq_false_or_eq_true (((Sh.eqB s60) (insV (pairB x0).1 (pairB x0).2).1 (pairB x0).1)) with h4 | h4
    ·refine at_regq [{}, { hint := some (aB true) }, {}, {}, {}, { hint := some (aB true) }] { ts := [2, 3, 4, 5, 6], os := [1, 2, 3, 4, 5] } [(AV.p (.c (.v (.bool (!(insV (pairB x0).1 (pairB x0).2).2)))) = AV.p (.c (.v (.bool true)))), True, (AV.p (.c (.v (.bool (((Sh.eqB s60) (insV (pairB x0).1 (pairB x0).2).1 (pairB x0).1))))) = AV.p (.c (.v (.bool true)))), Q_impl_ContainsVector (pairB x0).1 (pairB x0).2] gamOK hT h (by kernel_rfl) ⟨hint_bool (h3), trivial, hint_bool (h4), (by exact ⟨hd.1, hd.2⟩), trivial⟩ fun a w h => then_normal (wp_ret (then_ret ?_))
     exact at_return (!(D_spec_ContainsVector (pairB x0).1 (pairB x0).2), ()) [] h (by kernel_rfl) trivial (congrArg (fun z => (z, ())) (show (!(D_spec_ContainsVector (pairB x0).1 (pairB x0).2)) = D_laws_FnBases x0 from by unfold D_laws_FnBases; (have ht : takesB (pairB x0).1 (pairB x0).2 = false := by (unfold takesB; simp_all [validBS_eq])); obtain ⟨hn1, hn2⟩ := bas_no ht; first | (rw [hn2]; rfl) | (simp_all [Sh.eqB_self]; done)))
    ·refine at_regq [{}, { hint := some (aB true) }, {}, {}, {}, { hint := some (aB false) }] { ts := [2, 3, 4, 5, 6], os := [1, 2, 3, 4, 5] } [(AV.p (.c (.v (.bool (!(insV (pairB x0).1 (pairB x0).2).2)))) = AV.p (.c (.v (.bool true)))), True, (AV.p (.c (.v (.bool (((Sh.eqB s60) (insV (pairB x0).1 (pairB x0).2).1 (pairB x0).1))))) = AV.p (.c (.v (.bool false))))] gamOK hT h (by kernel_rfl) ⟨hint_bool (h3), trivial, hint_bool (h4), trivial⟩ fun a w h => then_normal (wp_ret (then_ret ?_))
     exact at_return (false, ()) [] h (by kernel_rfl) trivial (congrArg (fun z => (z, ())) (show (false) = D_laws_FnBases x0 from by unfold D_laws_FnBases; (have ht : takesB (pairB x0).1 (pairB x0).2 = false := by (unfold takesB; simp_all [validBS_eq])); obtain ⟨hn1, hn2⟩ := bas_no ht; first | (rw [hn2]; rfl) | (simp_all [Sh.eqB_self]; done)))
   ·have hzh3 : (insV (pairB x0).1 (pairB x0).2).2 = true := notF h3
    refine at_regq [{}, { hint := some (aB false) }] { ts := [2, 3, 4, 5, 6], os := [1, 2, 3, 4, 5] } [(AV.p (.c (.v (.bool (!(insV (pairB x0).1 (pairB x0).2).2)))) = AV.p (.c (.v (.bool false))))] gamOK hT h (by kernel_rfl) ⟨hint_bool (h3), trivial⟩ fun a w h => then_normal (wp_ret (then_ret ?_))
    exact at_return (false, ()) [] h (by kernel_rfl) trivial (congrArg (fun z => (z, ())) (show (false) = D_laws_FnBases x0 from by unfold D_laws_FnBases; (have ht : takesB (pairB x0).1 (pairB x0).2 = false := by (unfold takesB; simp_all [validBS_eq])); obtain ⟨hn1, hn2⟩ := bas_no ht; first | (rw [hn2]; rfl) | (simp_all [Sh.eqB_self]; done)))
  ·have hzh2 : (validBS (pairB x0).1) = true := notF h2
   have hvh2 := validBS_t (notF h2)
   rcases Bool.eq_false_or_eq_true (!(validV (pairB x0).2)) with h5 | h5
   ·have hzh5 : (validV (pairB x0).2) = false := notT h5
    refine at_regq [{}, {}, { hint := some (aB false) }, {}, {}, {}, { hint := some (aB true) }] { ts := [2, 3, 4, 5, 6, 36], os := [1, 2, 3, 4, 5] } [Q_spec_IsValidBasis (pairB x0).1, (AV.p (.c (.v (.bool (!(validBS (pairB x0).1))))) = AV.p (.c (.v (.bool false)))), Q_spec_IsValidVector (pairB x0).2, (AV.p (.c (.v (.bool (!(validV (pairB x0).2))))) = AV.p (.c (.v (.bool true))))] gamOK hT h (by kernel_rfl) ⟨(by exact hd.1), hint_bool (h2), (by exact hd.2), hint_bool (h5), trivial⟩ fun a w h => then_normal ?_
    refine at_test true h (by kernel_rfl) (fun hh => ?_) (fun hh => nomatch hh)
    refine wp_seq ?_
    rcases Bool.eq_false_or_eq_true (!(insV (pairB x0).1 (pairB x0).2).2) with h6 | h6
    ·have hzh6 : (insV (pairB x0).1 (pairB x0).2).2 = false := notT h6
     rcases Bool.eq_false_or_eq_true (((Sh.eqB s60) (insV (pairB x0).1 (pairB x0).2).1 (pairB x0).1)) with h7 | h7
     ·refine at_regq [{}, { hint := some (aB true) }, {}, {}, {}, { hint := some (aB true) }] { ts := [2, 3, 4, 5, 6], os := [1, 2, 3, 4, 5] } [(AV.p (.c (.v (.bool (!(insV (pairB x0).1 (pairB x0).2).2)))) = AV.p (.c (.v (.bool true)))), True, (AV.p (.c (.v (.bool (((Sh.eqB s60) (insV (pairB x0).1 (pairB x0).2).1 (pairB x0).1))))) = AV.p (.c (.v (.bool true)))), Q_impl_ContainsVector (pairB x0).1 (pairB x0).2] gamOK hT h (by kernel_rfl) ⟨hint_bool (h6), trivial, hint_bool (h7), (by exact ⟨hd.1, hd.2⟩), trivial⟩ fun a w h => then_normal (wp_ret (then_ret ?_))
      exact at_return (!(D_spec_ContainsVector (pairB x0).1 (pairB x0).2), ()) [] h (by kernel_rfl) trivial (congrArg (fun z => (z, ())) (show (!(D_spec_ContainsVector (pairB x0).1 (pairB x0).2)) = D_laws_FnBases x0 from by unfold D_laws_FnBases; (have ht : takesB (pairB x0).1 (pairB x0).2 = false := by (unfold takesB; simp_all [validBS_eq])); obtain ⟨hn1, hn2⟩ := bas_no ht; first | (rw [hn2]; rfl) | (simp_all [Sh.eqB_self]; done)))
     ·refine at_regq [{}, { hint := some (aB true) }, {}, {}, {}, { hint := some (aB false) }] { ts := [2, 3, 4, 5, 6], os := [1, 2, 3, 4, 5] } [(AV.p (.c (.v (.bool (!(insV (pairB x0).1 (pairB x0).2).2)))) = AV.p (.c (.v (.bool true)))), True, (AV.p (.c (.v (.bool (((Sh.eqB s60) (insV (pairB x0).1 (pairB x0).2).1 (pairB x0).1))))) = AV.p (.c (.v (.bool false))))] gamOK hT h (by kernel_rfl) ⟨hint_bool (h6), trivial, hint_bool (h7), trivial⟩ fun a w h => then_normal (wp_ret (then_ret ?_))
      exact at_return (false, ()) [] h (by kernel_rfl) trivial (congrArg (fun z => (z, ())) (show (false) = D_laws_FnBases x0 from by unfold D_laws_FnBases; (have ht : takesB (pairB x0).1 (pairB x0).2 = false := by (unfold takesB; simp_all [validBS_eq])); obtain ⟨hn1, hn2⟩ := bas_no ht; first | (rw [hn2]; rfl) | (simp_all [Sh.eqB_self]; done)))
    ·have hzh6 : (insV (pairB x0).1 (pairB x0).2).2 = true := notF h6
     refine at_regq [{}, { hint := some (aB false) }] { ts := [2, 3, 4, 5, 6], os := [1, 2, 3, 4, 5] } [(AV.p (.c (.v (.bool (!(insV (pairB x0).1 (pairB x0).2).2)))) = AV.p (.c (.v (.bool false))))] gamOK hT h (by kernel_rfl) ⟨hint_bool (h6), trivial⟩ fun a w h => then_normal (wp_ret (then_ret ?_))
     exact at_return (false, ()) [] h (by kernel_rfl) trivial (congrArg (fun z => (z, ())) (show (false) = D_laws_FnBases x0 from by unfold D_laws_FnBases; (have ht : takesB (pairB x0).1 (pairB x0).2 = false := by (unfold takesB; simp_all [validBS_eq])); obtain ⟨hn1, hn2⟩ := bas_no ht; first | (rw [hn2]; rfl) | (simp_all [Sh.eqB_self]; done)))
   ·have hzh5 : (validV (pairB x0).2) = true := notF h5
    have hvh5 := validV_t (notF h5)
    refine at_regq [{}, {}, { hint := some (aB false) }, {}, {}, {}, { hint := some (aB false) }] { ts := [2, 3, 4, 5, 6, 36], os := [1, 2, 3, 4, 5] } [Q_spec_IsValidBasis (pairB x0).1, (AV.p (.c (.v (.bool (!(validBS (pairB x0).1))))) = AV.p (.c (.v (.bool false)))), Q_spec_IsValidVector (pairB x0).2, (AV.p (.c (.v (.bool (!(validV (pairB x0).2))))) = AV.p (.c (.v (.bool false))))] gamOK hT h (by kernel_rfl) ⟨(by exact hd.1), hint_bool (h2), (by exact hd.2), hint_bool (h5), trivial⟩ fun a w h => then_normal ?_
    refine at_test (!decide (((List.length (pairB x0).2 : Nat) : Int) = (pairB x0).1.1)) h (by kernel_rfl) (fun h8 => ?_) (fun h8 => ?_)
    ·replace h8 : ¬ (((List.length (pairB x0).2 : Nat) : Int) = (pairB x0).1.1) := of_decide_eq_false (notT h8)
     refine wp_seq ?_
     rcases Bool.eq_false_or_eq_true (!(insV (pairB x0).1 (pairB x0).2).2) with h9 | h9
     ·have hzh9 : (insV (pairB x0).1 (pairB x0).2).2 = false := notT h9
      rcases Bool.eq_false_or_eq_true (((Sh.eqB s60) (insV (pairB x0).1 (pairB x0).2).1 (pairB x0).1)) with h10 | h10
      ·refine at_regq [{}, { hint := some (aB true) }, {}, {}, {}, { hint := some (aB true) }] { ts := [2, 3, 4, 5, 6], os := [1, 2, 3, 4, 5] } [(AV.p (.c (.v (.bool (!(insV (pairB x0).1 (pairB x0).2).2)))) = AV.p (.c (.v (.bool true)))), True, (AV.p (.c (.v (.bool (((Sh.eqB s60) (insV (pairB x0).1 (pairB x0).2).1 (pairB x0).1))))) = AV.p (.c (.v (.bool true)))), Q_impl_ContainsVector (pairB x0).1 (pairB x0).2] gamOK hT h (by kernel_rfl) ⟨hint_bool (h9), trivial, hint_bool (h10), (by exact ⟨hd.1, hd.2⟩), trivial⟩ fun a w h => then_normal (wp_ret (then_ret ?_))
       exact at_return (!(D_spec_ContainsVector (pairB x0).1 (pairB x0).2), ()) [] h (by kernel_rfl) trivial (congrArg (fun z => (z, ())) (show (!(D_spec_ContainsVector (pairB x0).1 (pairB x0).2)) = D_laws_FnBases x0 from by unfold D_laws_FnBases; (have ht : takesB (pairB x0).1 (pairB x0).2 = false := by (unfold takesB; simp_all [validBS_eq])); obtain ⟨hn1, hn2⟩ := bas_no ht; first | (rw [hn2]; rfl) | (simp_all [Sh.eqB_self]; done)))
      ·refine at_regq [{}, { hint := some (aB true) }, {}, {}, {}, { hint := some (aB false) }] { ts := [2, 3, 4, 5, 6], os := [1, 2, 3, 4, 5] } [(AV.p (.c (.v (.bool (!(insV (pairB x0).1 (pairB x0).2).2)))) = AV.p (.c (.v (.bool true)))), True, (AV.p (.c (.v (.bool (((Sh.eqB s60) (insV (pairB x0).1 (pairB x0).2).1 (pairB x0).1))))) = AV.p (.c (.v (.bool false))))] gamOK hT h (by kernel_rfl) ⟨hint_bool (h9), trivial, hint_bool (h10), trivial⟩ fun a w h => then_normal (wp_ret (then_ret ?_))
       exact at_return (false, ()) [] h (by kernel_rfl) trivial (congrArg (fun z => (z, ())) (show (false) = D_laws_FnBases x0 from by unfold D_laws_FnBases; (have ht : takesB (pairB x0).1 (pairB x0).2 = false := by (unfold takesB; simp_all [validBS_eq])); obtain ⟨hn1, hn2⟩ := bas_no ht; first | (rw [hn2]; rfl) | (simp_all [Sh.eqB_self]; done)))
     ·have hzh9 : (insV (pairB x0).1 (pairB x0).2).2 = true := notF h9
      refine at_regq [{}, { hint := some (aB false) }] { ts := [2, 3, 4, 5, 6], os := [1, 2, 3, 4, 5] } [(AV.p (.c (.v (.bool (!(insV (pairB x0).1 (pairB x0).2).2)))) = AV.p (.c (.v (.bool false))))] gamOK hT h (by kernel_rfl) ⟨hint_bool (h9), trivial⟩ fun a w h => then_normal (wp_ret (then_ret ?_))
      exact at_return (false, ()) [] h (by kernel_rfl) trivial (congrArg (fun z => (z, ())) (show (false) = D_laws_FnBases x0 from by unfold D_laws_FnBases; (have ht : takesB (pairB x0).1 (pairB x0).2 = false := by (unfold takesB; simp_all [validBS_eq])); obtain ⟨hn1, hn2⟩ := bas_no ht; first | (rw [hn2]; rfl) | (simp_all [Sh.eqB_self]; done)))
    ·replace h8 : ((List.length (pairB x0).2 : Nat) : Int) = (pairB x0).1.1 := of_decide_eq_true (notF h8)
     have ht : takesB (pairB x0).1 (pairB x0).2 = true := by (unfold takesB; simp_all [validBS_eq])
     have hB := bas_yes ht
     have hv0 := (takesB_t ht).2.1
     have hs40 := hB.sml
     have hq1 := (takesB_t ht).1.1
     have hdm := hB.dm
     refine wp_skip (then_normal (wp_seq ?_))
     refine at_regq [{}, {}, { ids := [6] }] { ts := [2, 3, 4, 5, 6, 7], os := [1, 2, 3, 4, 5, 6] } [Q_impl_ReduceVector (pairB x0).1 (pairB x0).2] gamOK hT h (by kernel_rfl) ⟨(by first | exact hd | exact ⟨hd.1, redV_fit _ _⟩), trivial⟩ fun a w h => then_normal (wp_seq (wp_seq ?_))
     rcases Bool.eq_false_or_eq_true (((insV (pairB x0).1 (pairB x0).2).2 == (D_spec_ContainsVector (pairB x0).1 (pairB x0).2))) with h11 | h11
     ·refine at_regq [{}, {}, {}, {}, { hint := some (aB true) }] { ts := [2, 3, 5, 6, 7, 75], os := [1, 3, 4, 5, 6] } [Q_impl_ContainsVector (pairB x0).1 (pairB x0).2, (AV.p (.c (.v (.bool (((insV (pairB x0).1 (pairB x0).2).2 == (D_spec_ContainsVector (pairB x0).1 (pairB x0).2)))))) = AV.p (.c (.v (.bool true))))] gamOK hT h (by kernel_rfl) ⟨(by exact ⟨hd.1, hd.2⟩), hint_bool (h11), trivial⟩ fun a w h => then_normal ?_
      refine at_test true h (by kernel_rfl) (fun hh => ?_) (fun hh => nomatch hh)
      refine wp_seq ?_
      refine at_regq [] { ts := [2, 3, 5, 6, 7], os := [1, 3, 4, 5, 6] } [] gamOK hT h (by kernel_rfl) trivial fun a w h => then_normal (wp_ret (then_ret ?_))
      exact at_return (false, ()) [] h (by kernel_rfl) trivial (congrArg (fun z => (z, ())) (show (false) = D_laws_FnBases x0 from by unfold D_laws_FnBases; (exfalso; obtain ⟨b1, b2, b3, b4, b5, b6, b7, b8, b9, b10, b11, b12, b13⟩ := hB; first | contradiction | (simp_all [Sh.eqB_self]; done) | (simp_all [Sh.eqB_self]; omega) | omega)))
     ·rcases Bool.eq_false_or_eq_true (!(D_spec_ContainsVector (insV (pairB x0).1 (pairB x0).2).1 (pairB x0).2)) with h12 | h12
      ·have hzh12 : (D_spec_ContainsVector (insV (pairB x0).1 (pairB x0).2).1 (pairB x0).2) = false := notT h12
       refine at_regq [{}, {}, {}, {}, { hint := some (aB false) }, {}, {}, {}, {}, { hint := some (aB true) }] { ts := [2, 3, 5, 6, 7, 75], os := [1, 3, 4, 5, 6] } [Q_impl_ContainsVector (pairB x0).1 (pairB x0).2, (AV.p (.c (.v (.bool (((insV (pairB x0).1 (pairB x0).2).2 == (D_spec_ContainsVector (pairB x0).1 (pairB x0).2)))))) = AV.p (.c (.v (.bool false)))), Q_impl_ContainsVector (insV (pairB x0).1 (pairB x0).2).1 (pairB x0).2, (AV.p (.c (.v (.bool (!(D_spec_ContainsVector (insV (pairB x0).1 (pairB x0).2).1 (pairB x0).2))))) = AV.p (.c (.v (.bool true))))] gamOK hT h (by kernel_rfl) ⟨(by exact ⟨hd.1, hd.2⟩), hint_bool (h11), (by exact ⟨(insV_fit hd.1), hd.2⟩), hint_bool (h12), trivial⟩ fun a w h => then_normal ?_
       refine at_test true h (by kernel_rfl) (fun hh => ?_) (fun hh => nomatch hh)
       refine wp_seq ?_
       refine at_regq [] { ts := [2, 3, 5, 6, 7], os := [1, 3, 4, 5, 6] } [] gamOK hT h (by kernel_rfl) trivial fun a w h => then_normal (wp_ret (then_ret ?_))
       exact at_return (false, ()) [] h (by kernel_rfl) trivial (congrArg (fun z => (z, ())) (show (false) = D_laws_FnBases x0 from by unfold D_laws_FnBases; (exfalso; obtain ⟨b1, b2, b3, b4, b5, b6, b7, b8, b9, b10, b11, b12, b13⟩ := hB; first | contradiction | (simp_all [Sh.eqB_self]; done) | (simp_all [Sh.eqB_self]; omega) | omega)))
      ·have hzh12 : (D_spec_ContainsVector (insV (pairB x0).1 (pairB x0).2).1 (pairB x0).2) = true := notF h12
       rcases Bool.eq_false_or_eq_true (!(validB (insV (pairB x0).1 (pairB x0).2).1)) with h13 | h13
       ·have hzh13 : (validB (insV (pairB x0).1 (pairB x0).2).1) = false := notT h13
        refine at_regq [{}, {}, {}, {}, { hint := some (aB false) }, {}, {}, {}, {}, { hint := some (aB false) }, {}, {}, {}, {}, { hint := some (aB true) }] { ts := [2, 3, 5, 6, 7, 75], os := [1, 3, 4, 5, 6] } [Q_impl_ContainsVector (pairB x0).1 (pairB x0).2, (AV.p (.c (.v (.bool (((insV (pairB x0).1 (pairB x0).2).2 == (D_spec_ContainsVector (pairB x0).1 (pairB x0).2)))))) = AV.p (.c (.v (.bool false)))), Q_impl_ContainsVector (insV (pairB x0).1 (pairB x0).2).1 (pairB x0).2, (AV.p (.c (.v (.bool (!(D_spec_ContainsVector (insV (pairB x0).1 (pairB x0).2).1 (pairB x0).2))))) = AV.p (.c (.v (.bool false)))), Q_impl_IsValidBasis (insV (pairB x0).1 (pairB x0).2).1, (AV.p (.c (.v (.bool (!(validB (insV (pairB x0).1 (pairB x0).2).1))))) = AV.p (.c (.v (.bool true))))] gamOK hT h (by kernel_rfl) ⟨(by exact ⟨hd.1, hd.2⟩), hint_bool (h11), (by exact ⟨(insV_fit hd.1), hd.2⟩), hint_bool (h12), (by exact (insV_fit hd.1)), hint_bool (h13), trivial⟩ fun a w h => then_normal ?_
        refine at_test true h (by kernel_rfl) (fun hh => ?_) (fun hh => nomatch hh)
        refine wp_seq ?_
        refine at_regq [] { ts := [2, 3, 5, 6, 7], os := [1, 3, 4, 5, 6] } [] gamOK hT h (by kernel_rfl) trivial fun a w h => then_normal (wp_ret (then_ret ?_))
        exact at_return (false, ()) [] h (by kernel_rfl) trivial (congrArg (fun z => (z, ())) (show (false) = D_laws_FnBases x0 from by unfold D_laws_FnBases; (exfalso; obtain ⟨b1, b2, b3, b4, b5, b6, b7, b8, b9, b10, b11, b12, b13⟩ := hB; first | contradiction | (simp_all [Sh.eqB_self]; done) | (simp_all [Sh.eqB_self]; omega) | omega)))
       ·have hzh13 : (validB (insV (pairB x0).1 (pairB x0).2).1) = true := notF h13
        have hvh13 := validB_t (notF h13)
        refine at_regq [{}, {}, {}, {}, { hint := some (aB false) }, {}, {}, {}, {}, { hint := some (aB false) }, {}, {}, {}, {}, { hint := some (aB false) }] { ts := [2, 3, 5, 6, 7, 75], os := [1, 3, 4, 5, 6] } [Q_impl_ContainsVector (pairB x0).1 (pairB x0).2, (AV.p (.c (.v (.bool (((insV (pairB x0).1 (pairB x0).2).2 == (D_spec_ContainsVector (pairB x0).1 (pairB x0).2)))))) = AV.p (.c (.v (.bool false)))), Q_impl_ContainsVector (insV (pairB x0).1 (pairB x0).2).1 (pairB x0).2, (AV.p (.c (.v (.bool (!(D_spec_ContainsVector (insV (pairB x0).1 (pairB x0).2).1 (pairB x0).2))))) = AV.p (.c (.v (.bool false)))), Q_impl_IsValidBasis (insV (pairB x0).1 (pairB x0).2).1, (AV.p (.c (.v (.bool (!(validB (insV (pairB x0).1 (pairB x0).2).1))))) = AV.p (.c (.v (.bool false))))] gamOK hT h (by kernel_rfl) ⟨(by exact ⟨hd.1, hd.2⟩), hint_bool (h11), (by exact ⟨(insV_fit hd.1), hd.2⟩), hint_bool (h12), (by exact (insV_fit hd.1)), hint_bool (h13), trivial⟩ fun a w h => then_normal ?_
        refine at_test (!decide (((List.length (D_spec_ReduceVector (pairB x0).1 (pairB x0).2) : Nat) : Int) = ((List.length (pairB x0).2 : Nat) : Int))) h (by kernel_rfl) (fun h14 => ?_) (fun h14 => ?_)
        ·replace h14 : ¬ (((List.length (D_spec_ReduceVector (pairB x0).1 (pairB x0).2) : Nat) : Int) = ((List.length (pairB x0).2 : Nat) : Int)) := of_decide_eq_false (notT h14)
         refine wp_seq ?_
         refine at_regq [] { ts := [2, 3, 5, 6, 7], os := [1, 3, 4, 5, 6] } [] gamOK hT h (by kernel_rfl) trivial fun a w h => then_normal (wp_ret (then_ret ?_))
         exact at_return (false, ()) [] h (by kernel_rfl) trivial (congrArg (fun z => (z, ())) (show (false) = D_laws_FnBases x0 from by unfold D_laws_FnBases; (exfalso; obtain ⟨b1, b2, b3, b4, b5, b6, b7, b8, b9, b10, b11, b12, b13⟩ := hB; first | contradiction | (simp_all [Sh.eqB_self]; done) | (simp_all [Sh.eqB_self]; omega) | omega)))
        ·replace h14 : ((List.length (D_spec_ReduceVector (pairB x0).1 (pairB x0).2) : Nat) : Int) = ((List.length (pairB x0).2 : Nat) : Int) := of_decide_eq_true (notF h14)
         refine wp_skip (then_normal (wp_seq ?_))
         refine at_regq [] { ts := [2, 3, 5, 6, 7, 8], os := [1, 3, 4, 5, 6] } [Q_impl_Dimension (pairB x0).1] gamOK hT h (by kernel_rfl) ⟨(by exact hd.1), trivial⟩ fun a w h => then_normal (wp_seq (wp_seq ?_))
         refine at_regq [] { ts := [2, 3, 5, 6, 7, 8, 78], os := [1, 3, 4, 5, 6] } [] gamOK hT h (by kernel_rfl) trivial fun a w h => then_normal ?_
         refine at_test ((insV (pairB x0).1 (pairB x0).2).2) h (by kernel_rfl) (fun h15 => ?_) (fun h15 => ?_)
         ·refine at_regq [{}, { nw := true }] { ts := [2, 3, 5, 6, 7, 8], os := [1, 3, 4, 5, 6] } [I64 ((D_impl_Dimension (pairB x0).1) + 1)] gamOK hT h (by kernel_rfl) ⟨⟨by first | omega | (simp only [lsA]; omega) | (simp <;> omega), by first | omega | (simp only [lsA]; omega) | (simp <;> omega)⟩, trivial⟩ fun a w h => then_normal (wp_seq ?_)
          by_cases h16 : (D_impl_Dimension (insV (pairB x0).1 (pairB x0).2).1) = (D_impl_Dimension (pairB x0).1) + 1
          ·by_cases h17 : ((List.length (D_impl_FreeColumns (insV (pairB x0).1 (pairB x0).2).1) : Nat) : Int) = (pairB x0).1.1 - ((D_impl_Dimension (pairB x0).1) + 1)
           ·rcases Bool.eq_false_or_eq_true (((decide ((LA.leadS (D_spec_ReduceVector (pairB x0).1 (pairB x0).2)) < 0)) == false)) with h18 | h18
            ·rcases Bool.eq_false_or_eq_true (((Sh.eqB s27) (D_spec_ReduceVector (pairB x0).1 (D_spec_ReduceVector (pairB x0).1 (pairB x0).2)) (D_spec_ReduceVector (pairB x0).1 (pairB x0).2))) with h19 | h19
             ·refine at_anyq [{}, {}, {}, { hint := some (aB true) }, {}, {}, { ids := [7] }, {}, {}, {}, {}, { nw := true }, { hint := some (aB true) }, {}, {}, {}, {}, {}, { hint := some (aB true) }, {}, { hint := some (aB true) }, {}, {}, {}, {}, { ids := [8] }, {}, { hint := some (aB true) }, {}, {}, {}, {}, {}, {}, {}] { ts := [2], os := [] } [Q_impl_Dimension (insV (pairB x0).1 (pairB x0).2).1, (AV.p (.c (.v (.bool (decide ((D_impl_Dimension (insV (pairB x0).1 (pairB x0).2).1) = (D_impl_Dimension (pairB x0).1) + 1))))) = AV.p (.c (.v (.bool true)))), Q_impl_FreeColumns (insV (pairB x0).1 (pairB x0).2).1, I64 ((pairB x0).1.1 - ((D_impl_Dimension (pairB x0).1) + 1)), (AV.p (.c (.v (.bool (decide (((List.length (D_impl_FreeColumns (insV (pairB x0).1 (pairB x0).2).1) : Nat) : Int) = (pairB x0).1.1 - ((D_impl_Dimension (pairB x0).1) + 1)))))) = AV.p (.c (.v (.bool true)))), Q_impl_LeadingIndex (D_spec_ReduceVector (pairB x0).1 (pairB x0).2), (AV.p (.c (.v (.bool ((insV (pairB x0).1 (pairB x0).2).2)))) = AV.p (.c (.v (.bool true)))), (AV.p (.c (.v (.bool (((decide ((LA.leadS (D_spec_ReduceVector (pairB x0).1 (pairB x0).2)) < 0)) == false))))) = AV.p (.c (.v (.bool true)))), Q_impl_ReduceVector (pairB x0).1 (D_spec_ReduceVector (pairB x0).1 (pairB x0).2), True, (AV.p (.c (.v (.bool (((Sh.eqB s27) (D_spec_ReduceVector (pairB x0).1 (D_spec_ReduceVector (pairB x0).1 (pairB x0).2)) (D_spec_ReduceVector (pairB x0).1 (pairB x0).2)))))) = AV.p (.c (.v (.bool true)))), Q_spec_IsSubspace (pairB x0).1 (insV (pairB x0).1 (pairB x0).2).1] gamOK hT mixed h (by kernel_rfl) ⟨(by exact (insV_fit hd.1)), hint_bool (decide_eq_true h16), (by exact (insV_fit hd.1)), ⟨by first | omega | (simp only [lsA]; omega) | (simp <;> omega), by first | omega | (simp only [lsA]; omega) | (simp <;> omega)⟩, hint_bool (decide_eq_true h17), (by exact redV_fit _ _), hint_bool (h15), hint_bool (h18), (by first | exact hd | exact ⟨hd.1, redV_fit _ _⟩), trivial, hint_bool (h19), (by exact ⟨hd.1, (insV_fit hd.1)⟩), trivial⟩ fun a w h => then_normal (wp_ret ?_)
              exact at_return ((isSubS (pairB x0).1 (insV (pairB x0).1 (pairB x0).2).1), ()) [] h (by kernel_rfl) trivial (congrArg (fun z => (z, ())) (show ((isSubS (pairB x0).1 (insV (pairB x0).1 (pairB x0).2).1)) = D_laws_FnBases x0 from by unfold D_laws_FnBases; (first | exact hB.sub | (obtain ⟨b1, b2, b3, b4, b5, b6, b7, b8, b9, b10, b11, b12, b13⟩ := hB; simp_all))))
             ·refine at_anyq [{}, {}, {}, { hint := some (aB true) }, {}, {}, { ids := [7] }, {}, {}, {}, {}, { nw := true }, { hint := some (aB true) }, {}, {}, {}, {}, {}, { hint := some (aB true) }, {}, { hint := some (aB true) }, {}, {}, {}, {}, { ids := [8] }, {}, { hint := some (aB false) }, {}, {}, {}, {}, {}, {}, {}] { ts := [2], os := [] } [Q_impl_Dimension (insV (pairB x0).1 (pairB x0).2).1, (AV.p (.c (.v (.bool (decide ((D_impl_Dimension (insV (pairB x0).1 (pairB x0).2).1) = (D_impl_Dimension (pairB x0).1) + 1))))) = AV.p (.c (.v (.bool true)))), Q_impl_FreeColumns (insV (pairB x0).1 (pairB x0).2).1, I64 ((pairB x0).1.1 - ((D_impl_Dimension (pairB x0).1) + 1)), (AV.p (.c (.v (.bool (decide (((List.length (D_impl_FreeColumns (insV (pairB x0).1 (pairB x0).2).1) : Nat) : Int) = (pairB x0).1.1 - ((D_impl_Dimension (pairB x0).1) + 1)))))) = AV.p (.c (.v (.bool true)))), Q_impl_LeadingIndex (D_spec_ReduceVector (pairB x0).1 (pairB x0).2), (AV.p (.c (.v (.bool ((insV (pairB x0).1 (pairB x0).2).2)))) = AV.p (.c (.v (.bool true)))), (AV.p (.c (.v (.bool (((decide ((LA.leadS (D_spec_ReduceVector (pairB x0).1 (pairB x0).2)) < 0)) == false))))) = AV.p (.c (.v (.bool true)))), Q_impl_ReduceVector (pairB x0).1 (D_spec_ReduceVector (pairB x0).1 (pairB x0).2), True, (AV.p (.c (.v (.bool (((Sh.eqB s27) (D_spec_ReduceVector (pairB x0).1 (D_spec_ReduceVector (pairB x0).1 (pairB x0).2)) (D_spec_ReduceVector (pairB x0).1 (pairB x0).2)))))) = AV.p (.c (.v (.bool false))))] gamOK hT mixed h (by kernel_rfl) ⟨(by exact (insV_fit hd.1)), hint_bool (decide_eq_true h16), (by exact (insV_fit hd.1)), ⟨by first | omega | (simp only [lsA]; omega) | (simp <;> omega), by first | omega | (simp only [lsA]; omega) | (simp <;> omega)⟩, hint_bool (decide_eq_true h17), (by exact redV_fit _ _), hint_bool (h15), hint_bool (h18), (by first | exact hd | exact ⟨hd.1, redV_fit _ _⟩), trivial, hint_bool (h19), trivial⟩ fun a w h => then_normal (wp_ret ?_)
              exact at_return (false, ()) [] h (by kernel_rfl) trivial (congrArg (fun z => (z, ())) (show (false) = D_laws_FnBases x0 from by unfold D_laws_FnBases; (exfalso; obtain ⟨b1, b2, b3, b4, b5, b6, b7, b8, b9, b10, b11, b12, b13⟩ := hB; first | contradiction | (simp_all [Sh.eqB_self]; done) | (simp_all [Sh.eqB_self]; omega) | omega)))
            ·refine at_anyq [{}, {}, {}, { hint := some (aB true) }, {}, {}, { ids := [7] }, {}, {}, {}, {}, { nw := true }, { hint := some (aB true) }, {}, {}, {}, {}, {}, { hint := some (aB true) }, {}, { hint := some (aB false) }, {}, {}, {}, {}, {}, {}, {}, {}, {}, {}, {}, {}, {}, {}] { ts := [2], os := [] } [Q_impl_Dimension (insV (pairB x0).1 (pairB x0).2).1, (AV.p (.c (.v (.bool (decide ((D_impl_Dimension (insV (pairB x0).1 (pairB x0).2).1) = (D_impl_Dimension (pairB x0).1) + 1))))) = AV.p (.c (.v (.bool true)))), Q_impl_FreeColumns (insV (pairB x0).1 (pairB x0).2).1, I64 ((pairB x0).1.1 - ((D_impl_Dimension (pairB x0).1) + 1)), (AV.p (.c (.v (.bool (decide (((List.length (D_impl_FreeColumns (insV (pairB x0).1 (pairB x0).2).1) : Nat) : Int) = (pairB x0).1.1 - ((D_impl_Dimension (pairB x0).1) + 1)))))) = AV.p (.c (.v (.bool true)))), Q_impl_LeadingIndex (D_spec_ReduceVector (pairB x0).1 (pairB x0).2), (AV.p (.c (.v (.bool ((insV (pairB x0).1 (pairB x0).2).2)))) = AV.p (.c (.v (.bool true)))), (AV.p (.c (.v (.bool (((decide ((LA.leadS (D_spec_ReduceVector (pairB x0).1 (pairB x0).2)) < 0)) == false))))) = AV.p (.c (.v (.bool false))))] gamOK hT mixed h (by kernel_rfl) ⟨(by exact (insV_fit hd.1)), hint_bool (decide_eq_true h16), (by exact (insV_fit hd.1)), ⟨by first | omega | (simp only [lsA]; omega) | (simp <;> omega), by first | omega | (simp only [lsA]; omega) | (simp <;> omega)⟩, hint_bool (decide_eq_true h17), (by exact redV_fit _ _), hint_bool (h15), hint_bool (h18), trivial⟩ fun a w h => then_normal (wp_ret ?_)
             exact at_return (false, ()) [] h (by kernel_rfl) trivial (congrArg (fun z => (z, ())) (show (false) = D_laws_FnBases x0 from by unfold D_laws_FnBases; (exfalso; obtain ⟨b1, b2, b3, b4, b5, b6, b7, b8, b9, b10, b11, b12, b13⟩ := hB; first | contradiction | (simp_all [Sh.eqB_self]; done) | (simp_all [Sh.eqB_self]; omega) | omega)))
           ·refine at_anyq [{}, {}, {}, { hint := some (aB true) }, {}, {}, { ids := [7] }, {}, {}, {}, {}, { nw := true }, { hint := some (aB false) }, {}, {}, {}, {}, {}, {}, {}, {}, {}, {}, {}, {}, {}, {}, {}, {}, {}, {}, {}, {}, {}, {}] { ts := [2], os := [] } [Q_impl_Dimension (insV (pairB x0).1 (pairB x0).2).1, (AV.p (.c (.v (.bool (decide ((D_impl_Dimension (insV (pairB x0).1 (pairB x0).2).1) = (D_impl_Dimension (pairB x0).1) + 1))))) = AV.p (.c (.v (.bool true)))), Q_impl_FreeColumns (insV (pairB x0).1 (pairB x0).2).1, I64 ((pairB x0).1.1 - ((D_impl_Dimension (pairB x0).1) + 1)), (AV.p (.c (.v (.bool (decide (((List.length (D_impl_FreeColumns (insV (pairB x0).1 (pairB x0).2).1) : Nat) : Int) = (pairB x0).1.1 - ((D_impl_Dimension (pairB x0).1) + 1)))))) = AV.p (.c (.v (.bool false))))] gamOK hT mixed h (by kernel_rfl) ⟨(by exact (insV_fit hd.1)), hint_bool (decide_eq_true h16), (by exact (insV_fit hd.1)), ⟨by first | omega | (simp only [lsA]; omega) | (simp <;> omega), by first | omega | (simp only [lsA]; omega) | (simp <;> omega)⟩, hint_bool (decide_eq_false h17), trivial⟩ fun a w h => then_normal (wp_ret ?_)
            exact at_return (false, ()) [] h (by kernel_rfl) trivial (congrArg (fun z => (z, ())) (show (false) = D_laws_FnBases x0 from by unfold D_laws_FnBases; (exfalso; obtain ⟨b1, b2, b3, b4, b5, b6, b7, b8, b9, b10, b11, b12, b13⟩ := hB; first | contradiction | (simp_all [Sh.eqB_self]; done) | (simp_all [Sh.eqB_self]; omega) | omega)))
          ·refine at_anyq [{}, {}, {}, { hint := some (aB false) }, {}, {}, {}, {}, {}, {}, {}, {}, {}, {}, {}, {}, {}, {}, {}, {}, {}, {}, {}, {}, {}, {}, {}, {}, {}, {}, {}, {}, {}, {}, {}] { ts := [2], os := [] } [Q_impl_Dimension (insV (pairB x0).1 (pairB x0).2).1, (AV.p (.c (.v (.bool (decide ((D_impl_Dimension (insV (pairB x0).1 (pairB x0).2).1) = (D_impl_Dimension (pairB x0).1) + 1))))) = AV.p (.c (.v (.bool false))))] gamOK hT mixed h (by kernel_rfl) ⟨(by exact (insV_fit hd.1)), hint_bool (decide_eq_false h16), trivial⟩ fun a w h => then_normal (wp_ret ?_)
           exact at_return (false, ()) [] h (by kernel_rfl) trivial (congrArg (fun z => (z, ())) (show (false) = D_laws_FnBases x0 from by unfold D_laws_FnBases; (exfalso; obtain ⟨b1, b2, b3, b4, b5, b6, b7, b8, b9, b10, b11, b12, b13⟩ := hB; first | contradiction | (simp_all [Sh.eqB_self]; done) | (simp_all [Sh.eqB_self]; omega) | omega)))
         ·refine wp_skip (then_normal (wp_seq ?_))
          by_cases h20 : (D_impl_Dimension (insV (pairB x0).1 (pairB x0).2).1) = (D_impl_Dimension (pairB x0).1)
          ·by_cases h21 : ((List.length (D_impl_FreeColumns (insV (pairB x0).1 (pairB x0).2).1) : Nat) : Int) = (pairB x0).1.1 - (D_impl_Dimension (pairB x0).1)
           ·rcases Bool.eq_false_or_eq_true (((decide ((LA.leadS (D_spec_ReduceVector (pairB x0).1 (pairB x0).2)) < 0)) == true)) with h22 | h22
            ·rcases Bool.eq_false_or_eq_true (((Sh.eqB s27) (D_spec_ReduceVector (pairB x0).1 (D_spec_ReduceVector (pairB x0).1 (pairB x0).2)) (D_spec_ReduceVector (pairB x0).1 (pairB x0).2))) with h23 | h23
             ·refine at_anyq [{}, {}, {}, { hint := some (aB true) }, {}, {}, { ids := [7] }, {}, {}, {}, {}, { nw := true }, { hint := some (aB true) }, {}, {}, {}, {}, {}, { hint := some (aB false) }, {}, { hint := some (aB true) }, {}, {}, {}, {}, { ids := [8] }, {}, { hint := some (aB true) }, {}, {}, {}, {}, {}, {}, {}] { ts := [2], os := [] } [Q_impl_Dimension (insV (pairB x0).1 (pairB x0).2).1, (AV.p (.c (.v (.bool (decide ((D_impl_Dimension (insV (pairB x0).1 (pairB x0).2).1) = (D_impl_Dimension (pairB x0).1)))))) = AV.p (.c (.v (.bool true)))), Q_impl_FreeColumns (insV (pairB x0).1 (pairB x0).2).1, I64 ((pairB x0).1.1 - (D_impl_Dimension (pairB x0).1)), (AV.p (.c (.v (.bool (decide (((List.length (D_impl_FreeColumns (insV (pairB x0).1 (pairB x0).2).1) : Nat) : Int) = (pairB x0).1.1 - (D_impl_Dimension (pairB x0).1)))))) = AV.p (.c (.v (.bool true)))), Q_impl_LeadingIndex (D_spec_ReduceVector (pairB x0).1 (pairB x0).2), (AV.p (.c (.v (.bool ((insV (pairB x0).1 (pairB x0).2).2)))) = AV.p (.c (.v (.bool false)))), (AV.p (.c (.v (.bool (((decide ((LA.leadS (D_spec_ReduceVector (pairB x0).1 (pairB x0).2)) < 0)) == true))))) = AV.p (.c (.v (.bool true)))), Q_impl_ReduceVector (pairB x0).1 (D_spec_ReduceVector (pairB x0).1 (pairB x0).2), True, (AV.p (.c (.v (.bool (((Sh.eqB s27) (D_spec_ReduceVector (pairB x0).1 (D_spec_ReduceVector (pairB x0).1 (pairB x0).2)) (D_spec_ReduceVector (pairB x0).1 (pairB x0).2)))))) = AV.p (.c (.v (.bool true)))), Q_spec_IsSubspace (pairB x0).1 (insV (pairB x0).1 (pairB x0).2).1] gamOK hT mixed h (by kernel_rfl) ⟨(by exact (insV_fit hd.1)), hint_bool (decide_eq_true h20), (by exact (insV_fit hd.1)), ⟨by first | omega | (simp only [lsA]; omega) | (simp <;> omega), by first | omega | (simp only [lsA]; omega) | (simp <;> omega)⟩, hint_bool (decide_eq_true h21), (by exact redV_fit _ _), hint_bool (h15), hint_bool (h22), (by first | exact hd | exact ⟨hd.1, redV_fit _ _⟩), trivial, hint_bool (h23), (by exact ⟨hd.1, (insV_fit hd.1)⟩), trivial⟩ fun a w h => then_normal (wp_ret ?_)
              exact at_return ((isSubS (pairB x0).1 (insV (pairB x0).1 (pairB x0).2).1), ()) [] h (by kernel_rfl) trivial (congrArg (fun z => (z, ())) (show ((isSubS (pairB x0).1 (insV (pairB x0).1 (pairB x0).2).1)) = D_laws_FnBases x0 from by unfold D_laws_FnBases; (first | exact hB.sub | (obtain ⟨b1, b2, b3, b4, b5, b6, b7, b8, b9, b10, b11, b12, b13⟩ := hB; simp_all))))
             ·refine at_anyq [{}, {}, {}, { hint := some (aB true) }, {}, {}, { ids := [7] }, {}, {}, {}, {}, { nw := true }, { hint := some (aB true) }, {}, {}, {}, {}, {}, { hint := some (aB false) }, {}, { hint := some (aB true) }, {}, {}, {}, {}, { ids := [8] }, {}, { hint := some (aB false) }, {}, {}, {}, {}, {}, {}, {}] { ts := [2], os := [] } [Q_impl_Dimension (insV (pairB x0).1 (pairB x0).2).1, (AV.p (.c (.v (.bool (decide ((D_impl_Dimension (insV (pairB x0).1 (pairB x0).2).1) = (D_impl_Dimension (pairB x0).1)))))) = AV.p (.c (.v (.bool true)))), Q_impl_FreeColumns (insV (pairB x0).1 (pairB x0).2).1, I64 ((pairB x0).1.1 - (D_impl_Dimension (pairB x0).1)), (AV.p (.c (.v (.bool (decide (((List.length (D_impl_FreeColumns (insV (pairB x0).1 (pairB x0).2).1) : Nat) : Int) = (pairB x0).1.1 - (D_impl_Dimension (pairB x0).1)))))) = AV.p (.c (.v (.bool true)))), Q_impl_LeadingIndex (D_spec_ReduceVector (pairB x0).1 (pairB x0).2), (AV.p (.c (.v (.bool ((insV (pairB x0).1 (pairB x0).2).2)))) = AV.p (.c (.v (.bool false)))), (AV.p (.c (.v (.bool (((decide ((LA.leadS (D_spec_ReduceVector (pairB x0).1 (pairB x0).2)) < 0)) == true))))) = AV.p (.c (.v (.bool true)))), Q_impl_ReduceVector (pairB x0).1 (D_spec_ReduceVector (pairB x0).1 (pairB x0).2), True, (AV.p (.c (.v (.bool (((Sh.eqB s27) (D_spec_ReduceVector (pairB x0).1 (D_spec_ReduceVector (pairB x0).1 (pairB x0).2)) (D_spec_ReduceVector (pairB x0).1 (pairB x0).2)))))) = AV.p (.c (.v (.bool false))))] gamOK hT mixed h (by kernel_rfl) ⟨(by exact (insV_fit hd.1)), hint_bool (decide_eq_true h20), (by exact (insV_fit hd.1)), ⟨by first | omega | (simp only [lsA]; omega) | (simp <;> omega), by first | omega | (simp only [lsA]; omega) | (simp <;> omega)⟩, hint_bool (decide_eq_true h21), (by exact redV_fit _ _), hint_bool (h15), hint_bool (h22), (by first | exact hd | exact ⟨hd.1, redV_fit _ _⟩), trivial, hint_bool (h23), trivial⟩ fun a w h => then_normal (wp_ret ?_)
              exact at_return (false, ()) [] h (by kernel_rfl) trivial (congrArg (fun z => (z, ())) (show (false) = D_laws_FnBases x0 from by unfold D_laws_FnBases; (exfalso; obtain ⟨b1, b2, b3, b4, b5, b6, b7, b8, b9, b10, b11, b12, b13⟩ := hB; first | contradiction | (simp_all [Sh.eqB_self]; done) | (simp_all [Sh.eqB_self]; omega) | omega)))
            ·refine at_anyq [{}, {}, {}, { hint := some (aB true) }, {}, {}, { ids := [7] }, {}, {}, {}, {}, { nw := true }, { hint := some (aB true) }, {}, {}, {}, {}, {}, { hint := some (aB false) }, {}, { hint := some (aB false) }, {}, {}, {}, {}, {}, {}, {}, {}, {}, {}, {}, {}, {}, {}] { ts := [2], os := [] } [Q_impl_Dimension (insV (pairB x0).1 (pairB x0).2).1, (AV.p (.c (.v (.bool (decide ((D_impl_Dimension (insV (pairB x0).1 (pairB x0).2).1) = (D_impl_Dimension (pairB x0).1)))))) = AV.p (.c (.v (.bool true)))), Q_impl_FreeColumns (insV (pairB x0).1 (pairB x0).2).1, I64 ((pairB x0).1.1 - (D_impl_Dimension (pairB x0).1)), (AV.p (.c (.v (.bool (decide (((List.length (D_impl_FreeColumns (insV (pairB x0).1 (pairB x0).2).1) : Nat) : Int) = (pairB x0).1.1 - (D_impl_Dimension (pairB x0).1)))))) = AV.p (.c (.v (.bool true)))), Q_impl_LeadingIndex (D_spec_ReduceVector (pairB x0).1 (pairB x0).2), (AV.p (.c (.v (.bool ((insV (pairB x0).1 (pairB x0).2).2)))) = AV.p (.c (.v (.bool false)))), (AV.p (.c (.v (.bool (((decide ((LA.leadS (D_spec_ReduceVector (pairB x0).1 (pairB x0).2)) < 0)) == true))))) = AV.p (.c (.v (.bool false))))] gamOK hT mixed h (by kernel_rfl) ⟨(by exact (insV_fit hd.1)), hint_bool (decide_eq_true h20), (by exact (insV_fit hd.1)), ⟨by first | omega | (simp only [lsA]; omega) | (simp <;> omega), by first | omega | (simp only [lsA]; omega) | (simp <;> omega)⟩, hint_bool (decide_eq_true h21), (by exact redV_fit _ _), hint_bool (h15), hint_bool (h22), trivial⟩ fun a w h => then_normal (wp_ret ?_)
             exact at_return (false, ()) [] h (by kernel_rfl) trivial (congrArg (fun z => (z, ())) (show (false) = D_laws_FnBases x0 from by unfold D_laws_FnBases; (exfalso; obtain ⟨b1, b2, b3, b4, b5, b6, b7, b8, b9, b10, b11, b12, b13⟩ := hB; first | contradiction | (simp_all [Sh.eqB_self]; done) | (simp_all [Sh.eqB_self]; omega) | omega)))
           ·refine at_anyq [{}, {}, {}, { hint := some (aB true) }, {}, {}, { ids := [7] }, {}, {}, {}, {}, { nw := true }, { hint := some (aB false) }, {}, {}, {}, {}, {}, {}, {}, {}, {}, {}, {}, {}, {}, {}, {}, {}, {}, {}, {}, {}, {}, {}] { ts := [2], os := [] } [Q_impl_Dimension (insV (pairB x0).1 (pairB x0).2).1, (AV.p (.c (.v (.bool (decide ((D_impl_Dimension (insV (pairB x0).1 (pairB x0).2).1) = (D_impl_Dimension (pairB x0).1)))))) = AV.p (.c (.v (.bool true)))), Q_impl_FreeColumns (insV (pairB x0).1 (pairB x0).2).1, I64 ((pairB x0).1.1 - (D_impl_Dimension (pairB x0).1)), (AV.p (.c (.v (.bool (decide (((List.length (D_impl_FreeColumns (insV (pairB x0).1 (pairB x0).2).1) : Nat) : Int) = (pairB x0).1.1 - (D_impl_Dimension (pairB x0).1)))))) = AV.p (.c (.v (.bool false))))] gamOK hT mixed h (by kernel_rfl) ⟨(by exact (insV_fit hd.1)), hint_bool (decide_eq_true h20), (by exact (insV_fit hd.1)), ⟨by first | omega | (simp only [lsA]; omega) | (simp <;> omega), by first | omega | (simp only [lsA]; omega) | (simp <;> omega)⟩, hint_bool (decide_eq_false h21), trivial⟩ fun a w h => then_normal (wp_ret ?_)
            exact at_return (false, ()) [] h (by kernel_rfl) trivial (congrArg (fun z => (z, ())) (show (false) = D_laws_FnBases x0 from by unfold D_laws_FnBases; (exfalso; obtain ⟨b1, b2, b3, b4, b5, b6, b7, b8, b9, b10, b11, b12, b13⟩ := hB; first | contradiction | (simp_all [Sh.eqB_self]; done) | (simp_all [Sh.eqB_self]; omega) | omega)))
          ·refine at_anyq [{}, {}, {}, { hint := some (aB false) }, {}, {}, {}, {}, {}, {}, {}, {}, {}, {}, {}, {}, {}, {}, {}, {}, {}, {}, {}, {}, {}, {}, {}, {}, {}, {}, {}, {}, {}, {}, {}] { ts := [2], os := [] } [Q_impl_Dimension (insV (pairB x0).1 (pairB x0).2).1, (AV.p (.c (.v (.bool (decide ((D_impl_Dimension (insV (pairB x0).1 (pairB x0).2).1) = (D_impl_Dimension (pairB x0).1)))))) = AV.p (.c (.v (.bool false))))] gamOK hT mixed h (by kernel_rfl) ⟨(by exact (insV_fit hd.1)), hint_bool (decide_eq_false h20), trivial⟩ fun a w h => then_normal (wp_ret ?_)
           exact at_return (false, ()) [] h (by kernel_rfl) trivial (congrArg (fun z => (z, ())) (show (false) = D_laws_FnBases x0 from by unfold D_laws_FnBases; (exfalso; obtain ⟨b1, b2, b3, b4, b5, b6, b7, b8, b9, b10, b11, b12, b13⟩ := hB; first | contradiction | (simp_all [Sh.eqB_self]; done) | (simp_all [Sh.eqB_self]; omega) | omega)))

theorem opn5 : OpensS Try.prog 5 (.u8 5) := opensS_u8 Try.underlying5
theorem co5 : Try.prog.cellsOf 5 = 1 := by kernel_rfl
theorem opn22 : OpensS Try.prog 22 s22 := opensS_slice (a := (.u8 5)) Try.underlying22 co5 opn5
namespace fnBases
open Go.ChangeShapes Go.WideShapes Go.ChangeAt Go.RowKit
theorem own : ownKnob Try.prog.godebug = none := by kernel_rfl
theorem laidOut : laidOutB Try.prog = true := fxLaid
set_option maxRecDepth 100000 in
theorem lifted (os : Os) (started : os.Started) (H : Type) (enc : TypeId × Value → H) :
    ReturnsInHanded {} Try.checked os 6 .any (Rows.fnBasesSpec.pre6 enc Try.prog Try.f6 Rows.fnBasesRow.domain false) (Rows.fnBasesSpec.post enc Try.prog Try.f6 false true false false) := by
  refine returnsInHanded_of_change (C := Try.checked) own started (by kernel_rfl) Try.func6
    (ChangeSpec.witness6 (enc := enc) (C := Try.checked) false ⟨#[], #[.slice none 0 0], []⟩ 8 (by kernel_rfl) (by kernel_rfl) (by kernel_rfl) (by kernel_rfl)) ?_
  intro W base args ds gs before hval0 hW hcnd _
  have hval : ∀ (j : Nat) t v, Try.f6.params[j]? = some t → args[j]? = some v → Value.okWide Try.prog W .any base t v := hval0
  have hW' := hW
  obtain ⟨p, q, hA0, hV, rfl, hfz, hnd⟩ := hW
  have hA : DataW.TrodAll enc Try.prog W 0 (fun _ => true) true Try.f6.params.toList args.toList ds p := hA0
  rw [Try.params6] at hA hval
  obtain ⟨v0, vs0, d0, ds0, p0, q0, hargs, rfl, rfl, h0, r0⟩ := trodAll_cons hA
  obtain ⟨rfl, rfl, rfl⟩ := trodAll_nil r0
  obtain rfl : args = #[v0] := by cases args; simp_all
  obtain ⟨rfl, rfl⟩ := trodVars_none hV
  have k0 := h0
  have lt0 : ∀ x ∈ p0, x.block < W.heap.size := by obtain ⟨m, hm⟩ := k0; exact DataW.trod_lt m _ _ _ hm
  obtain ⟨ad0, len0, cap0, rfl⟩ := okWide_slice Try.underlying22 (hval 0 22 v0 rfl rfl)
  obtain ⟨x0, hx0, i0⟩ : ∃ x : (s22).D, (s22).rd W (fun b => b < W.heap.size) [.slice ad0 len0 cap0] x ∧ (s22).i64 x := by obtain ⟨fuel, hf⟩ := h0; exact opn22 hf
  clear hA0 hval0
  refine (calls_law S_laws_FnBases_ok (by kernel_rfl) W (fun b => b < W.heap.size) [.slice ad0 len0 cap0] (x0, ()) (fun _ h => h) ⟨argRd_sl hx0, trivial⟩ i0).mono fun e W' hr => ?_
  obtain ⟨he, bel⟩ := ret_bool hr
  subst he
  exact ⟨_, rfl, _, _, _, [], _, [], hW', trodAll_mk1 (shut_bool Try.underlying4 _), (trodAll_cons_mk (Below.trod laidOut (by kernel_rfl) (of_decide_eq_true (by kernel_rfl)) k0 bel lt0) trodAll_mk0), rfl, bel.frame _, fun h => by cases h⟩
theorem closed : joinedFacts Try.prog 6 Try.f6 (Rows.fnBasesSpec) Rows.fnBasesRow = true := by
  unfold joinedFacts
  exact (and2 (and2 (and2 (and2 (and2 (and2 (and2 (and2 (and2 (and2 (and2 (and2 (and2 (and2 (and2 (and2 (and2 (and2 (and2 (and2 (and2 (and2 (and2 (and2 (and2 (and2 (and2 (and2 (and2 (and2 (and2 (by kernel_rfl) fxLaid) fxMaps) (by kernel_rfl)) (by kernel_rfl)) (by kernel_rfl)) (by kernel_rfl)) (by kernel_rfl)) (by kernel_rfl)) (by kernel_rfl)) (by kernel_rfl)) (by kernel_rfl)) (by kernel_rfl)) (by kernel_rfl)) (by kernel_rfl)) (by kernel_rfl)) (by kernel_rfl)) (by kernel_rfl)) (by kernel_rfl)) (by kernel_rfl)) (by kernel_rfl)) (by kernel_rfl)) (by kernel_rfl)) (by kernel_rfl)) (by kernel_rfl)) fxEnter) (by rw [fxLifts]; kernel_rfl)) (by rw [fxMake]; kernel_rfl)) (by kernel_rfl)) (by kernel_rfl)) (by kernel_rfl)) (by kernel_rfl))
theorem over : Rows.fnBasesRow.holds Try.pinned (OpenSpec.ofChange Rows.fnBasesSpec) :=
  OpenClaim.holds_of_wide 6 Try.f6 rfl rfl rfl rfl rfl rfl rfl ⟨rfl, rfl, rfl, rfl, rfl⟩ rfl rfl rfl rfl rfl (by kernel_rfl) Try.func6 closed
    (of_decide_eq_true (by kernel_rfl)) (by unfold Func.isWrapper; first | (rw [if_pos (by decide +kernel)]; kernel_rfl) | (rw [if_neg (by decide +kernel)]; exact ⟨rfl, rfl⟩))
    (fun os started H enc _ => lifted os started H enc)
/-- the statement -/
theorem proved : Rows.FnBasesSaid := over
end fnBases

end Go.Proofs.Ytpffjagdefkfkaa
