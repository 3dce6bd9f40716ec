/- The walks of the functions that the law reaches: each summary holds. No condition. -/
import Derived.Test.YtpffjagdefkfkaaFnManifests2
import Derived.Test.YtpffjagdefkfkaaLA
import Derived.Test.YtpffjagdefkfkaaProg
namespace Go.Proofs.Ytpffjagdefkfkaa
open Go.RowKit
set_option linter.unusedVariables false
set_option linter.unusedSimpArgs false
def hkTo (s : Int) (n : Nat) : List Int := (List.range n).map fun (j : Nat) => powG 4 (1 + rndN s (300 + (j : Int)) 1018)
theorem hkTo_succ (s : Int) (n : Nat) : hkTo s (n + 1) = hkTo s n ++ [powG 4 (1 + rndN s (300 + (n : Int)) 1018)] := by unfold hkTo; rw [List.range_succ, List.map_append]; rfl
theorem hkTo_len (s : Int) (n : Nat) : (hkTo s n).length = n := by simp [hkTo]
def hkD (s w : Int) : List Int := if inR w 1 16 = true then hkTo s w.toNat else []
theorem hkD_end {s w : Int} {i : Nat} (h : i = 0 ∨ ((i : Int) ≤ w ∧ inR w 1 16 = true)) (he : ¬ (i : Int) < w ∨ inR w 1 16 = false) : hkTo s i = hkD s w := by
 unfold hkD
 cases hi : inR w 1 16 with
 | true =>
  rw [if_pos rfl]
  have hw := inR_t hi
  rcases he with he | he
  ·congr 1; omega
  ·rw [hi] at he; cases he
 | false =>
  rw [if_neg (by decide)]
  rcases h with h | h
  ·subst h; rfl
  ·rw [hi] at h; cases h.2
theorem hkD_len (s w : Int) : (hkD s w).length ≤ 16 := by
 unfold hkD; split
 ·rename_i h; rw [hkTo_len]; have := inR_t h; omega
 ·exact Nat.zero_le _
theorem rnd1018 (s i : Int) : 0 ≤ rndN s i 1018 ∧ rndN s i 1018 ≤ 1017 := by
 have hkb := keyed_bd s ([i, 71])
 have hm := mul_f (keyed s ([i, 71])) (keyed s ([i, 71]))
 have h1 := tmod_f (keyed s ([i, 71]) * keyed s ([i, 71])) 2147483647 (by decide)
 have h2 := tmod_f ((keyed s ([i, 71]) * keyed s ([i, 71])).tmod 2147483647) 1018 (by decide)
 unfold rndN
 rw [if_pos (show inR 1018 1 1000000000000 = true from rfl)]
 omega
theorem isGrp_four : isGrp 4 = true := by decide +kernel
theorem pow4_all : ∀ n : Fin 1018, powD 4 (1 + (n.val : Int)) 2039 ≠ 1 := by decide +kernel
theorem gen_ok (s i : Int) : isGrp (powG 4 (1 + rndN s i 1018)) = true ∧ powG 4 (1 + rndN s i 1018) ≠ 1 := by
 have h := rnd1018 s i
 rw [powG_at isGrp_four (by omega)]
 refine ⟨isGrp_pow isGrp_four (by omega), ?_⟩
 have := pow4_all ⟨(rndN s i 1018).toNat, by omega⟩
 rw [show (((rndN s i 1018).toNat : Nat) : Int) = rndN s i 1018 by omega] at this
 exact this
theorem hkD_ok {s w : Int} (h : 1 ≤ w ∧ w ≤ 16) : validK (hkD s w) = true ∧ ((List.length (hkD s w) : Nat) : Int) = w := by
 have e : hkD s w = hkTo s w.toNat := if_pos (inR_true h)
 rw [e]
 refine ⟨?_, by rw [hkTo_len]; omega⟩
 unfold validK
 have ha : (hkTo s w.toNat).all (fun g => !decide (g = 1) && isGrp g) = true := List.all_eq_true.2 fun g hg => by
  obtain ⟨j, _, rfl⟩ := List.mem_map.1 hg
  have := gen_ok s (300 + (j : Int))
  rw [this.1, decide_eq_false this.2]; rfl
 rw [if_pos ha, hkTo_len]
 exact inR_true (by omega)
def S_spec_NewHashKey : Sum := { fid := 100, dom := [(.int 3), (.int 3)], cod := [s29], dp := true, fz := false, pre := fun x => True, g := fun x => ((hkD x.1 x.2.1), ()) }
def S_spec_NewHashKey_tab : List (Nat × Sum) := [(84, S_spec_l1In), (157, S_spec_RandomNumber), (156, S_spec_PowGroup)]
theorem S_spec_NewHashKey_ok : FnOK Try.prog 100 S_spec_NewHashKey := by
 refine at_enter 29 (fun x => ⟨[(0, aI x.1), (1, aI x.2.1)], []⟩) Try.func100 rfl (by kernel_rfl) (fun x => rfl) ?_
 rintro w0 Z0 ⟨x0, x1, u⟩ a w
 revert x0 x1
 intro (x0 : Int) (x1 : Int) hpre hlens h
 have hT : TabOK Try.prog S_spec_NewHashKey_tab := (.cons S_spec_l1In_ok (.cons S_spec_RandomNumber_ok (.cons S_spec_PowGroup_ok .nil)))
 refine wp_seq ?_
 refine at_regq [{ ids := [1] }] { ts := [0, 1, 4], os := [1] } [] gamOK hT h (by kernel_rfl) trivial fun a w h => then_normal (wp_seq ?_)
 refine at_regq [{}, { ids := [2] }] { ts := [0, 1, 4, 5], os := [1, 2] } [] gamOK hT h (by kernel_rfl) trivial fun a w h => then_normal (wp_seq (wp_seq ?_))
 refine at_regq [] { ts := [0, 1, 4, 5, 6], os := [1, 2] } [] gamOK hT h (by kernel_rfl) trivial fun a w h => then_normal (wp_block ?_)
 replace h := at_out (σ' := ⟨[(0, aI x0), (1, aI x1), (4, aP 1 0), (5, aP 2 0), (6, aI 0)], [(1, oX 29 [cN]), (2, oX 29 [.sl 3]), (3, oR (.int 3) ([] : List Int))]⟩) { mt := [⟨some 2, 0, 3, true, (.int 3)⟩], ts := [0, 1, 4, 5, 6], os := [1, 2, 3] } h (by kernel_rfl)
 refine at_loop (fun i : Nat => (⟨[(0, aI x0), (1, aI x1), (4, aP 1 0), (5, aP 2 0), (6, aI ((i : Nat) : Int))], [(1, oX 29 [cN]), (2, oX 29 [.sl 3]), (3, oR (.int 3) (hkTo x0 i))]⟩ : St)) (fun i => (i = 0 ∨ ((i : Int) ≤ x1 ∧ inR x1 1 16 = true))) (fun i => x1.toNat - i) (0) h (st_congr2 (fun (d0 : List Int) (d1 : Int) => (⟨[(0, aI x0), (1, aI x1), (4, aP 1 0), (5, aP 2 0), (6, aI d1)], [(1, oX 29 [cN]), (2, oX 29 [.sl 3]), (3, oR (.int 3) d0)]⟩ : St)) (show (([] : List Int) : List Int) = (hkTo x0 (0)) from by first | with_reducible rfl | (rfl) | rfl) (show (0 : Int) = (((0) : Nat) : Int) from by first | with_reducible rfl | (rfl) | rfl)) (by exact Or.inl rfl) ?_
 intro i a w hok0 h
 have hul := hkTo_len x0 i
 have hi16 : i ≤ 16 := by rcases hok0 with h | h; omega; have := inR_t h.2; omega
 refine wp_seq (wp_seq ?_)
 by_cases h1 : ((i : Nat) : Int) < x1
 ·refine at_regq [{}, {}, { hint := some (aB true) }] { ts := [0, 1, 4, 5, 6, 12, 13, 14], os := [1, 2, 3] } [(AV.p (.c (.v (.bool (decide (((i : Nat) : Int) < x1))))) = AV.p (.c (.v (.bool true)))), True] gamOK hT h (by kernel_rfl) ⟨hint_bool (decide_eq_true h1), trivial, trivial⟩ fun a w h => then_normal ?_
  refine at_test ((inR x1 1 16)) h (by kernel_rfl) (fun h2 => ?_) (fun h2 => ?_)
  ·have hvh2 := inR_t h2
   have hrn := rnd1018 x0 (300 + ((i : Nat) : Int))
   have hiw := inR_t (show inR x1 1 16 = true from by assumption)
   refine wp_skip (then_normal (wp_seq (wp_block ?_)))
   refine at_anyq [{}, {}, {}, {}, { nw := true }, {}, { nw := true }, {}, { ids := [4] }, { ids := [5] }, {}, {}] { ts := [0, 1, 4, 5, 6, 12, 13], os := [1, 2, 5] } [I64 (300 + ((i : Nat) : Int)), True, I64 (1 + (rndN x0 (300 + ((i : Nat) : Int)) 1018)), True, (List.length (hkTo x0 i) + List.length ([(powG 4 (1 + (rndN x0 (300 + ((i : Nat) : Int)) 1018)))])) * 8 ≤ 140737488355328] gamOK hT mixed h (by kernel_rfl) ⟨⟨by first | omega | (simp only [lsA]; omega) | (simp <;> omega), by first | omega | (simp only [lsA]; omega) | (simp <;> omega)⟩, trivial, ⟨by first | omega | (simp only [lsA]; omega) | (simp <;> omega), by first | omega | (simp only [lsA]; omega) | (simp <;> omega)⟩, trivial, (by first | omega | (simp only [lsA]; omega) | (simp <;> omega)), trivial⟩ fun a w h => in_normal (then_normal ?_)
   refine at_regq [{}, { nw := true }] { ts := [0, 1, 4, 5, 6, 12, 13], os := [1, 2, 5] } [I64 (((i : Nat) : Int) + 1)] gamOK hT h (by kernel_rfl) ⟨⟨by first | omega | (simp only [lsA]; omega) | (simp <;> omega), by first | omega | (simp only [lsA]; omega) | (simp <;> omega)⟩, trivial⟩ fun a w h => ?_
   replace h := at_out (σ' := ⟨[(0, aI x0), (1, aI x1), (4, aP 1 0), (5, aP 2 0), (6, aI (((i : Nat) : Int) + 1))], [(1, oX 29 [cN]), (2, oX 29 [.sl 3]), (3, oR (.int 3) ((hkTo x0 i) ++ ([(powG 4 (1 + (rndN x0 (300 + ((i : Nat) : Int)) 1018)))])))]⟩) { ts := [0, 1, 4, 5, 6], os := [1, 2, 5], rn := [(5, 3)] } h (by kernel_rfl)
   exact ⟨i + 1, at_eq h (st_congr2 (fun (d0 : List Int) (d1 : Int) => (⟨[(0, aI x0), (1, aI x1), (4, aP 1 0), (5, aP 2 0), (6, aI d1)], [(1, oX 29 [cN]), (2, oX 29 [.sl 3]), (3, oR (.int 3) d0)]⟩ : St)) (show (((hkTo x0 i) ++ ([(powG 4 (1 + (rndN x0 (300 + ((i : Nat) : Int)) 1018)))])) : List Int) = (hkTo x0 (i + 1)) from by first | with_reducible rfl | ((rw [hkTo_succ])) | rfl) (show (((i : Nat) : Int) + 1 : Int) = (((i + 1) : Nat) : Int) from by first | with_reducible rfl | (omega) | rfl)), (by exact Or.inr ⟨by omega, by assumption⟩), (by omega)⟩
  ·have hvh2 := inR_f h2
   refine wp_exit (then_exit ?_)
   replace h := at_out (σ' := ⟨[(4, aP 1 0), (5, aP 2 0)], [(1, oX 29 [cN]), (2, oX 29 [.sl 3]), (3, oR (.int 3) (hkTo x0 i))]⟩) { ts := [4, 5], os := [1, 2, 3] } h (by kernel_rfl)
   replace h := at_eq (σ' := ⟨[(4, aP 1 0), (5, aP 2 0)], [(1, oX 29 [cN]), (2, oX 29 [.sl 3]), (3, oR (.int 3) (hkD x0 x1))]⟩) h (st_congr1 (fun (d0 : List Int) => (⟨[(4, aP 1 0), (5, aP 2 0)], [(1, oX 29 [cN]), (2, oX 29 [.sl 3]), (3, oR (.int 3) d0)]⟩ : St)) (show ((hkTo x0 i) : List Int) = (hkD x0 x1) from by first | with_reducible rfl | (exact hkD_end hok0 (by first | (left; omega) | (right; assumption))) | rfl))
   refine then_exit (in_hit (then_normal (wp_seq ?_)))
   refine at_regq [] { ts := [4], os := [1, 3] } [] gamOK hT h (by kernel_rfl) trivial fun a w h => then_normal (wp_ret ?_)
   exact at_return ((hkD x0 x1), ()) [] h (by kernel_rfl) trivial (congrArg (fun z => (z, ())) (show ((hkD x0 x1)) = hkD x0 x1 from by rfl))
 ·refine at_regq [{}, {}, { hint := some (aB false) }] { ts := [0, 1, 4, 5, 6, 12, 13, 14], os := [1, 2, 3] } [(AV.p (.c (.v (.bool (decide (((i : Nat) : Int) < x1))))) = AV.p (.c (.v (.bool false))))] gamOK hT h (by kernel_rfl) ⟨hint_bool (decide_eq_false h1), trivial⟩ fun a w h => then_normal ?_
  refine at_test false h (by kernel_rfl) (fun hh => nomatch hh) (fun hh => ?_)
  refine wp_exit (then_exit ?_)
  replace h := at_out (σ' := ⟨[(4, aP 1 0), (5, aP 2 0)], [(1, oX 29 [cN]), (2, oX 29 [.sl 3]), (3, oR (.int 3) (hkTo x0 i))]⟩) { ts := [4, 5], os := [1, 2, 3] } h (by kernel_rfl)
  replace h := at_eq (σ' := ⟨[(4, aP 1 0), (5, aP 2 0)], [(1, oX 29 [cN]), (2, oX 29 [.sl 3]), (3, oR (.int 3) (hkD x0 x1))]⟩) h (st_congr1 (fun (d0 : List Int) => (⟨[(4, aP 1 0), (5, aP 2 0)], [(1, oX 29 [cN]), (2, oX 29 [.sl 3]), (3, oR (.int 3) d0)]⟩ : St)) (show ((hkTo x0 i) : List Int) = (hkD x0 x1) from by first | with_reducible rfl | (exact hkD_end hok0 (by first | (left; omega) | (right; assumption))) | rfl))
  refine then_exit (in_hit (then_normal (wp_seq ?_)))
  refine at_regq [] { ts := [4], os := [1, 3] } [] gamOK hT h (by kernel_rfl) trivial fun a w h => then_normal (wp_ret ?_)
  exact at_return ((hkD x0 x1), ()) [] h (by kernel_rfl) trivial (congrArg (fun z => (z, ())) (show ((hkD x0 x1)) = hkD x0 x1 from by rfl))

@[irreducible]
def keyE (x0 : T109) (x1 : Int) : T109 × (List Int) := (if (belowC (belowC x0 99).1 10).2 = 0 then (if ((List.length (hkD (belowC x0 99).2 x1) : Nat) : Int) > 0 then ((pickC (belowC (belowC x0 99).1 10).1 ([(-1), 0, 1, 2, 2038, 2039])).1, (List.set (hkD (belowC x0 99).2 x1) 0 (pickC (belowC (belowC x0 99).1 10).1 ([(-1), 0, 1, 2, 2038, 2039])).2)) else ((belowC (belowC x0 99).1 10).1, (hkD (belowC x0 99).2 x1))) else (if (belowC (belowC x0 99).1 10).2 = 1 then ((grpE (belowC (belowC x0 99).1 10).1).1, ((hkD (belowC x0 99).2 x1) ++ ([(grpE (belowC (belowC x0 99).1 10).1).2]))) else ((belowC (belowC x0 99).1 10).1, (hkD (belowC x0 99).2 x1))))
abbrev Q_spec_l18Key := (fun (x0 : T109) (x1 : Int) => 0 ≤ x0.2.1)
def B_spec_l18Key : BS := { t := 109, s := s109, dom := [(.int 3)], cod := [s29], pre := fun y x => Q_spec_l18Key y x.1, upd := fun y x => (keyE y x.1).1, g := fun y x => ((keyE y x.1).2, ()) }
def S_spec_l18Key : Sum := bSum 118 B_spec_l18Key
def S_spec_l18Key_tab : List (Nat × Sum) := [(73, S_spec_l1Below), (100, S_spec_NewHashKey), (116, S_spec_l1Int), (117, S_spec_l4Group)]
theorem S_spec_l18Key_ok : FnOK Try.prog 118 S_spec_l18Key := by
 refine at_enterB (B := B_spec_l18Key) 34 (fun v y x => ⟨[(0, aP 1 0), (1, aI x.1)], [(1, oX 109 [.ro (.u8 5) y.1, cI y.2.1, cI y.2.2]), (2, oP 1 v)]⟩) Try.func118 rfl (by kernel_rfl) (fun v y x => rfl) ?_
 rintro w0 Z0 b0 x0 ⟨x1, u⟩ a w
 revert x0 x1
 intro (x0 : T109) (x1 : Int) hpre hlens0 hlens h
 replace h : At w0 Z0 [b0] 34 ⟨[(0, aP 1 0), (1, aI x1)], [(1, oX 109 [.ro (.u8 5) x0.1, cI x0.2.1, cI x0.2.2]), (2, oP 1 (Value.pointer (some ⟨b0, 0, none⟩)))]⟩ a w := h
 replace hpre : Q_spec_l18Key x0 x1 := hpre
 have hl1 : List.length x0.1 ≤ 9223372036854775807 := hlens0.1.1
 have hu0 : u8L x0.1 := hlens0.1.2
 have hT : TabOK Try.prog S_spec_l18Key_tab := (.cons S_spec_l1Below_ok (.cons S_spec_NewHashKey_ok (.cons S_spec_l1Int_ok (.cons S_spec_l4Group_ok .nil))))
 have hkl := hkD_len (belowC x0 99).2 x1
 refine wp_seq ?_
 refine at_regq [{ ids := [3] }] { ts := [0, 1, 4], os := [1, 2, 3] } [] gamOK hT h (by kernel_rfl) trivial fun a w h => then_normal (wp_seq ?_)
 refine at_regq [{}, {}, {}, { ids := [4] }, { ids := [5] }] { ts := [0, 4, 5], os := [1, 2, 3, 4, 5] } [B_spec_l1Below.pre x0 (99, ()), True] gamOK hT h (by kernel_rfl) ⟨(by exact hpre), trivial, trivial⟩ fun a w h => then_normal (wp_seq (wp_seq ?_))
 refine at_regq [] { ts := [0, 4, 5, 11], os := [1, 2, 3, 4, 5] } [B_spec_l1Below.pre (belowC x0 99).1 (10, ())] gamOK hT h (by kernel_rfl) ⟨(by exact (below_ok hpre)), trivial⟩ fun a w h => then_normal (wp_block (wp_seq ?_))
 refine at_regq [] { ts := [0, 4, 5, 11, 12], os := [1, 2, 3, 4, 5] } [] gamOK hT h (by kernel_rfl) trivial fun a w h => then_normal ?_
 refine at_test (decide ((belowC (belowC x0 99).1 10).2 = 0)) h (by kernel_rfl) (fun h1 => ?_) (fun h1 => ?_)
 ·replace h1 : (belowC (belowC x0 99).1 10).2 = 0 := of_decide_eq_true h1
  refine wp_seq ?_
  refine at_regq [] { ts := [0, 4, 5, 17], os := [1, 2, 3, 4, 5] } [] gamOK hT h (by kernel_rfl) trivial fun a w h => then_normal ?_
  refine at_test (decide (((List.length (hkD (belowC x0 99).2 x1) : Nat) : Int) > 0)) h (by kernel_rfl) (fun h2 => ?_) (fun h2 => ?_)
  ·replace h2 : ((List.length (hkD (belowC x0 99).2 x1) : Nat) : Int) > 0 := of_decide_eq_true h2
   refine at_anyq [{}, {}, {}, { ids := [6], frz := true }, {}, {}, {}] { ts := [4, 5], os := [1, 2, 3, 4, 5] } [B_spec_l1Int.pre (belowC (belowC x0 99).1 10).1 ([(-1), 0, 1, 2, 2038, 2039], ()), (0 : Int) ≤ 0 ∧ 0 < ((List.length (hkD (belowC x0 99).2 x1) : Nat) : Int), 0 < List.length (hkD (belowC x0 99).2 x1)] gamOK hT mixed h (by kernel_rfl) ⟨(by exact ⟨(below_ok (below_ok hpre)), by simp, by simp⟩), (by refine ⟨?_, ?_⟩ <;> (first | omega | (simp only [lsA]; omega) | (simp <;> omega))), (by first | omega | (simp only [lsA]; omega) | (simp <;> omega)), trivial⟩ fun a w h => in_normal (then_normal (wp_seq ?_))
   refine at_regq [] { ts := [4], os := [1, 2, 3, 4] } [] gamOK hT h (by kernel_rfl) trivial fun a w h => then_normal (wp_ret ?_)
   have hr3 : (((pickC (belowC (belowC x0 99).1 10).1 ([(-1), 0, 1, 2, 2038, 2039])).1, (List.set (hkD (belowC x0 99).2 x1) 0 (pickC (belowC (belowC x0 99).1 10).1 ([(-1), 0, 1, 2, 2038, 2039])).2)) : T109 × (List Int)) = keyE x0 x1 := by (unfold keyE; rw [if_pos h1, if_pos h2])
   exact at_returnB (B := B_spec_l18Key) (c0 := x0) (x := (x1, ())) ((pickC (belowC (belowC x0 99).1 10).1 ([(-1), 0, 1, 2, 2038, 2039])).1) ((List.set (hkD (belowC x0 99).2 x1) 0 (pickC (belowC (belowC x0 99).1 10).1 ([(-1), 0, 1, 2, 2038, 2039])).2), ()) [(Value.pointer (some ⟨b0, 0, none⟩)) = (Value.pointer (some ⟨b0, 0, none⟩))] h (by kernel_rfl) ⟨rfl, trivial⟩ (congrArg (a₁ := ((pickC (belowC (belowC x0 99).1 10).1 ([(-1), 0, 1, 2, 2038, 2039])).1, (List.set (hkD (belowC x0 99).2 x1) 0 (pickC (belowC (belowC x0 99).1 10).1 ([(-1), 0, 1, 2, 2038, 2039])).2))) (a₂ := keyE x0 x1) (fun (z : T109 × (List Int)) => z.1) hr3) (congrArg (a₁ := ((pickC (belowC (belowC x0 99).1 10).1 ([(-1), 0, 1, 2, 2038, 2039])).1, (List.set (hkD (belowC x0 99).2 x1) 0 (pickC (belowC (belowC x0 99).1 10).1 ([(-1), 0, 1, 2, 2038, 2039])).2))) (a₂ := keyE x0 x1) (fun (z : T109 × (List Int)) => (z.2, ())) hr3)
  ·replace h2 : ¬ (((List.length (hkD (belowC x0 99).2 x1) : Nat) : Int) > 0) := of_decide_eq_false h2
   refine wp_skip (in_normal (then_normal (wp_seq ?_)))
   refine at_regq [] { ts := [4], os := [1, 2, 3, 4] } [] gamOK hT h (by kernel_rfl) trivial fun a w h => then_normal (wp_ret ?_)
   have hr4 : (((belowC (belowC x0 99).1 10).1, (hkD (belowC x0 99).2 x1)) : T109 × (List Int)) = keyE x0 x1 := by (unfold keyE; rw [if_pos h1, if_neg h2])
   exact at_returnB (B := B_spec_l18Key) (c0 := x0) (x := (x1, ())) ((belowC (belowC x0 99).1 10).1) ((hkD (belowC x0 99).2 x1), ()) [(Value.pointer (some ⟨b0, 0, none⟩)) = (Value.pointer (some ⟨b0, 0, none⟩))] h (by kernel_rfl) ⟨rfl, trivial⟩ (congrArg (a₁ := ((belowC (belowC x0 99).1 10).1, (hkD (belowC x0 99).2 x1))) (a₂ := keyE x0 x1) (fun (z : T109 × (List Int)) => z.1) hr4) (congrArg (a₁ := ((belowC (belowC x0 99).1 10).1, (hkD (belowC x0 99).2 x1))) (a₂ := keyE x0 x1) (fun (z : T109 × (List Int)) => (z.2, ())) hr4)
 ·replace h1 : ¬ ((belowC (belowC x0 99).1 10).2 = 0) := of_decide_eq_false h1
  refine wp_seq ?_
  refine at_regq [] { ts := [0, 4, 5, 24], os := [1, 2, 3, 4, 5] } [] gamOK hT h (by kernel_rfl) trivial fun a w h => then_normal ?_
  refine at_test (decide ((belowC (belowC x0 99).1 10).2 = 1)) h (by kernel_rfl) (fun h5 => ?_) (fun h5 => ?_)
  ·replace h5 : (belowC (belowC x0 99).1 10).2 = 1 := of_decide_eq_true h5
   refine at_anyq [{}, {}, {}, {}, { ids := [7] }, { ids := [8] }, {}, {}] { ts := [4, 5], os := [1, 2, 3, 5, 8] } [B_spec_l4Group.pre (belowC (belowC x0 99).1 10).1 (()), (List.length (hkD (belowC x0 99).2 x1) + List.length ([(grpE (belowC (belowC x0 99).1 10).1).2])) * 8 ≤ 140737488355328] gamOK hT mixed h (by kernel_rfl) ⟨(by exact (below_ok (below_ok hpre))), (by first | omega | (simp only [lsA]; omega) | (simp <;> omega)), trivial⟩ fun a w h => in_normal (then_normal (wp_seq ?_))
   refine at_regq [] { ts := [4], os := [1, 2, 3, 8] } [] gamOK hT h (by kernel_rfl) trivial fun a w h => then_normal (wp_ret ?_)
   have hr6 : (((grpE (belowC (belowC x0 99).1 10).1).1, ((hkD (belowC x0 99).2 x1) ++ ([(grpE (belowC (belowC x0 99).1 10).1).2]))) : T109 × (List Int)) = keyE x0 x1 := by (unfold keyE; rw [if_neg h1, if_pos h5])
   exact at_returnB (B := B_spec_l18Key) (c0 := x0) (x := (x1, ())) ((grpE (belowC (belowC x0 99).1 10).1).1) (((hkD (belowC x0 99).2 x1) ++ ([(grpE (belowC (belowC x0 99).1 10).1).2])), ()) [(Value.pointer (some ⟨b0, 0, none⟩)) = (Value.pointer (some ⟨b0, 0, none⟩))] h (by kernel_rfl) ⟨rfl, trivial⟩ (congrArg (a₁ := ((grpE (belowC (belowC x0 99).1 10).1).1, ((hkD (belowC x0 99).2 x1) ++ ([(grpE (belowC (belowC x0 99).1 10).1).2])))) (a₂ := keyE x0 x1) (fun (z : T109 × (List Int)) => z.1) hr6) (congrArg (a₁ := ((grpE (belowC (belowC x0 99).1 10).1).1, ((hkD (belowC x0 99).2 x1) ++ ([(grpE (belowC (belowC x0 99).1 10).1).2])))) (a₂ := keyE x0 x1) (fun (z : T109 × (List Int)) => (z.2, ())) hr6)
  ·replace h5 : ¬ ((belowC (belowC x0 99).1 10).2 = 1) := of_decide_eq_false h5
   refine wp_skip (in_normal (then_normal (wp_seq ?_)))
   refine at_regq [] { ts := [4], os := [1, 2, 3, 4] } [] gamOK hT h (by kernel_rfl) trivial fun a w h => then_normal (wp_ret ?_)
   have hr7 : (((belowC (belowC x0 99).1 10).1, (hkD (belowC x0 99).2 x1)) : T109 × (List Int)) = keyE x0 x1 := by (unfold keyE; rw [if_neg h1, if_neg h5])
   exact at_returnB (B := B_spec_l18Key) (c0 := x0) (x := (x1, ())) ((belowC (belowC x0 99).1 10).1) ((hkD (belowC x0 99).2 x1), ()) [(Value.pointer (some ⟨b0, 0, none⟩)) = (Value.pointer (some ⟨b0, 0, none⟩))] h (by kernel_rfl) ⟨rfl, trivial⟩ (congrArg (a₁ := ((belowC (belowC x0 99).1 10).1, (hkD (belowC x0 99).2 x1))) (a₂ := keyE x0 x1) (fun (z : T109 × (List Int)) => z.1) hr7) (congrArg (a₁ := ((belowC (belowC x0 99).1 10).1, (hkD (belowC x0 99).2 x1))) (a₂ := keyE x0 x1) (fun (z : T109 × (List Int)) => (z.2, ())) hr7)
theorem keyE_ok {x : T109} {n : Int} (h : 0 ≤ x.2.1) : 0 ≤ (keyE x n).1.2.1 ∧ List.length (keyE x n).2 ≤ 17 := by
 have hkl := hkD_len (belowC x 99).2 n
 unfold keyE
 (repeat' split) <;> refine ⟨?_, ?_⟩ <;> first
  | exact pickC_ok (below_ok (below_ok h))
  | exact grpE_ok (below_ok (below_ok h))
  | exact below_ok (below_ok h)
  | (simp; omega)
  | (dsimp only; omega)

theorem mkMan_ok {s src : Int} {k : List Int} {g : T26} (hk : hsOK k g) (hs : 0 ≤ src ∧ src ≤ 7) : validMan (mkMan s src k g) = true := by
 have hg := validG_t hk.2.1
 have hl : List.length (hashSyms k g) = List.length g.2 := by unfold hashSyms; rw [if_pos hk, List.length_map]
 have ha : (hashSyms k g).all isGrp = true := List.all_eq_true.2 fun y hy => by
  unfold hashSyms at hy; rw [if_pos hk] at hy
  obtain ⟨r, hr, rfl⟩ := List.mem_map.1 hy
  have hv := (validM_t hg.2.2.1).2 r hr
  exact hpw_grp (validK_t hk.1).2 (validV_t hv.1).2.2 _ (Nat.le_refl _)
 have hm := manMAC_bd s (src, g.1, ((List.length g.2 : Nat) : Int), colsOf g.2, hashSyms k g, 0)
 have hf : isFmt g.1 ((List.length g.2 : Nat) : Int) (colsOf g.2) = true := by
  unfold isFmt
  rw [if_pos (show inR g.1 0 1000000000000 = true from inR_true hg.1), if_pos (show inR ((List.length g.2 : Nat) : Int) 1 8 = true from inR_true (by omega))]
  exact inR_true hg.2.2.2
 unfold mkMan signMan validMan
 simp only [ha, hf, hl, show inR src 0 7 = true from inR_true hs, if_true]
 first
  | exact inR_true (by omega)
  | (simp only [show inR (manMAC s (src, g.1, ((List.length g.2 : Nat) : Int), colsOf g.2, hashSyms k g, 0)) 0 2147483646 = true from inR_true (by omega)]; simp)
def madeD (x0 : T109) : T109 × T26 × (List Int) × T31 := ((belowC (belowC (belowC (genD x0).1 99).1 5).1 3).1, (genD x0).2, (hkD (belowC (genD x0).1 99).2 (colsOf (genD x0).2.2)), (makeMan (1 + (belowC (belowC (genD x0).1 99).1 5).2) (belowC (belowC (belowC (genD x0).1 99).1 5).1 3).2 (hkD (belowC (genD x0).1 99).2 (colsOf (genD x0).2.2)) (genD x0).2).1)
abbrev Q_spec_l19Made := (fun (x0 : T109) => 0 ≤ x0.2.1)
def B_spec_l19Made : BS := { t := 109, s := s109, dom := [], cod := [s26, s29, s31], pre := fun y x => Q_spec_l19Made y, upd := fun y x => (madeD y).1, g := fun y x => ((madeD y).2.1, ((madeD y).2.2.1, ((madeD y).2.2.2, ()))) }
def S_spec_l19Made : Sum := bSum 47 B_spec_l19Made
def S_spec_l19Made_tab : List (Nat × Sum) := [(99, S_spec_l10Gen), (73, S_spec_l1Below), (101, S_spec_ColumnsOf), (100, S_spec_NewHashKey), (102, S_spec_MakeManifest)]
theorem S_spec_l19Made_ok : FnOK Try.prog 47 S_spec_l19Made := by
 refine at_enterB (B := B_spec_l19Made) 31 (fun v y x => ⟨[(0, aP 1 0)], [(1, oX 109 [.ro (.u8 5) y.1, cI y.2.1, cI y.2.2]), (2, oP 1 v)]⟩) Try.func47 rfl (by kernel_rfl) (fun v y x => rfl) ?_
 rintro w0 Z0 b0 x0 ⟨u⟩ a w
 revert x0
 intro (x0 : T109) hpre hlens0 hlens h
 replace h : At w0 Z0 [b0] 31 ⟨[(0, aP 1 0)], [(1, oX 109 [.ro (.u8 5) x0.1, cI x0.2.1, cI x0.2.2]), (2, oP 1 (Value.pointer (some ⟨b0, 0, none⟩)))]⟩ a w := h
 replace hpre : Q_spec_l19Made x0 := hpre
 have hl1 : List.length x0.1 ≤ 9223372036854775807 := hlens0.1.1
 have hu0 : u8L x0.1 := hlens0.1.2
 have hT : TabOK Try.prog S_spec_l19Made_tab := (.cons S_spec_l10Gen_ok (.cons S_spec_l1Below_ok (.cons S_spec_ColumnsOf_ok (.cons S_spec_NewHashKey_ok (.cons S_spec_MakeManifest_ok .nil)))))
 have hgo := genD_ok hpre
 have hg1 := hgo.1
 have hgf := validG_fit hgo.2.1
 have hb2 := below_bd (belowC (genD x0).1 99).1 (n := 5) (by decide)
 have hb3 := below_bd (belowC (belowC (genD x0).1 99).1 5).1 (n := 3) (by decide)
 refine wp_seq ?_
 refine at_regq [{ ids := [3] }, { ids := [4] }, { ids := [5] }] { ts := [0, 2, 3, 4], os := [1, 2, 3, 4, 5] } [] gamOK hT h (by kernel_rfl) trivial fun a w h => then_normal (wp_seq ?_)
 refine at_regq [{}, { ids := [6] }, { ids := [7] }] { ts := [0, 2, 3, 4, 5], os := [1, 2, 3, 4, 5, 6, 7] } [B_spec_l10Gen.pre x0 (())] gamOK hT h (by kernel_rfl) ⟨(by exact hpre), trivial⟩ fun a w h => then_normal (wp_seq ?_)
 refine at_anyq [{}, {}, {}, {}, {}, { ids := [8] }, { ids := [9] }, {}] { ts := [0, 2, 3, 4, 5, 6], os := [1, 2, 3, 4, 5, 6, 7, 8, 9] } [B_spec_l1Below.pre (genD x0).1 (99, ()), Q_spec_ColumnsOf (genD x0).2.2, True] gamOK hT mixed h (by kernel_rfl) ⟨(by exact (genD_ok hpre).1), (by exact hgf.2), trivial, trivial⟩ fun a w h => then_normal (wp_seq ?_)
 refine at_anyq [{}, {}, { nw := true }, {}, {}, {}, {}, { ids := [10] }, {}, {}, {}, { ids := [11] }, {}, {}] { ts := [2, 3, 4, 5, 6, 7], os := [1, 2, 3, 4, 5, 6, 7, 8, 9, 10, 11] } [B_spec_l1Below.pre (belowC (genD x0).1 99).1 (5, ()), I64 (1 + (belowC (belowC (genD x0).1 99).1 5).2), B_spec_l1Below.pre (belowC (belowC (genD x0).1 99).1 5).1 (3, ()), Q_spec_MakeManifest (1 + (belowC (belowC (genD x0).1 99).1 5).2) (belowC (belowC (belowC (genD x0).1 99).1 5).1 3).2 (hkD (belowC (genD x0).1 99).2 (colsOf (genD x0).2.2)) (genD x0).2] gamOK hT mixed h (by kernel_rfl) ⟨(by exact (below_ok (genD_ok hpre).1)), ⟨by first | omega | (simp only [lsA]; omega) | (simp <;> omega), by first | omega | (simp only [lsA]; omega) | (simp <;> omega)⟩, (by exact (below_ok (below_ok (genD_ok hpre).1))), (by exact ⟨(Sh.fit_len (t := 27) (s := .int 3) rfl (Nat.le_trans (hkD_len _ _) (by decide))), hgf⟩), trivial⟩ fun a w h => then_normal (wp_seq ?_)
 refine at_anyq [{}, {}, {}, {}, {}, {}] { ts := [2, 3, 4], os := [1, 2, 3, 4, 5, 6, 8, 10] } [] gamOK hT mixed h (by kernel_rfl) trivial fun a w h => then_normal (wp_ret ?_)
 have hr1 : (((belowC (belowC (belowC (genD x0).1 99).1 5).1 3).1, (genD x0).2, (hkD (belowC (genD x0).1 99).2 (colsOf (genD x0).2.2)), (makeMan (1 + (belowC (belowC (genD x0).1 99).1 5).2) (belowC (belowC (belowC (genD x0).1 99).1 5).1 3).2 (hkD (belowC (genD x0).1 99).2 (colsOf (genD x0).2.2)) (genD x0).2).1) : T109 × T26 × (List Int) × T31) = madeD x0 := by rfl
 exact at_returnB (B := B_spec_l19Made) (c0 := x0) (x := (())) ((belowC (belowC (belowC (genD x0).1 99).1 5).1 3).1) ((genD x0).2, ((hkD (belowC (genD x0).1 99).2 (colsOf (genD x0).2.2)), ((makeMan (1 + (belowC (belowC (genD x0).1 99).1 5).2) (belowC (belowC (belowC (genD x0).1 99).1 5).1 3).2 (hkD (belowC (genD x0).1 99).2 (colsOf (genD x0).2.2)) (genD x0).2).1, ()))) [(Value.pointer (some ⟨b0, 0, none⟩)) = (Value.pointer (some ⟨b0, 0, none⟩))] h (by kernel_rfl) ⟨rfl, trivial⟩ (congrArg (a₁ := ((belowC (belowC (belowC (genD x0).1 99).1 5).1 3).1, (genD x0).2, (hkD (belowC (genD x0).1 99).2 (colsOf (genD x0).2.2)), (makeMan (1 + (belowC (belowC (genD x0).1 99).1 5).2) (belowC (belowC (belowC (genD x0).1 99).1 5).1 3).2 (hkD (belowC (genD x0).1 99).2 (colsOf (genD x0).2.2)) (genD x0).2).1)) (a₂ := madeD x0) (fun (z : T109 × T26 × (List Int) × T31) => z.1) hr1) (congrArg (a₁ := ((belowC (belowC (belowC (genD x0).1 99).1 5).1 3).1, (genD x0).2, (hkD (belowC (genD x0).1 99).2 (colsOf (genD x0).2.2)), (makeMan (1 + (belowC (belowC (genD x0).1 99).1 5).2) (belowC (belowC (belowC (genD x0).1 99).1 5).1 3).2 (hkD (belowC (genD x0).1 99).2 (colsOf (genD x0).2.2)) (genD x0).2).1)) (a₂ := madeD x0) (fun (z : T109 × T26 × (List Int) × T31) => (z.2.1, z.2.2.1, z.2.2.2, ())) hr1)
theorem madeD_ok {x : T109} (h : 0 ≤ x.2.1) : 0 ≤ (madeD x).1.2.1 ∧ (validG (madeD x).2.1 = true ∧ (madeD x).2.1.1 ≤ 4 ∧ List.length (madeD x).2.1.2 ≤ 4 ∧ colsOf (madeD x).2.1.2 ≤ 3) ∧ hsOK (madeD x).2.2.1 (madeD x).2.1 ∧ ∃ s src, (isKey s = true ∧ 0 ≤ src ∧ src ≤ 2) ∧ (madeD x).2.2.2 = mkMan s src (madeD x).2.2.1 (madeD x).2.1 := by
 obtain ⟨g1, g2, g3⟩ := genD_ok h
 have b2 := below_bd (belowC (genD x).1 99).1 (n := 5) (by decide)
 have b3 := below_bd (belowC (belowC (genD x).1 99).1 5).1 (n := 3) (by decide)
 have hv := validG_t g2
 have hk := hkD_ok (s := (belowC (genD x).1 99).2) hv.2.2.2
 have hs : hsOK (hkD (belowC (genD x).1 99).2 (colsOf (genD x).2.2)) (genD x).2 := ⟨hk.1, g2, hk.2.symm⟩
 have hky : isKey (1 + (belowC (belowC (genD x).1 99).1 5).2) = true := inR_true (by omega)
 refine ⟨below_ok (below_ok (below_ok g1)), ⟨g2, g3⟩, hs, _, _, ⟨hky, b3.1, by omega⟩, ?_⟩
 show (makeMan _ _ _ _).1 = _
 rw [← makeMan_yes hky (mkMan_ok hs (by omega))]; rfl

def drawS (x0 : (List Int)) : T26 × (List Int) × T31 := ((madeD (newC x0)).2.1, (madeD (newC x0)).2.2.1, (madeD (newC x0)).2.2.2)
abbrev Q_spec_DrawSigned := (fun (x0 : (List Int)) => Sh.fit s22 x0)
def S_spec_DrawSigned : Sum := { fid := 9, dom := [s22], cod := [s26, s29, s31], dp := true, fz := false, pre := fun x => Q_spec_DrawSigned x.1, g := fun x => ((drawS x.1).1, ((drawS x.1).2.1, ((drawS x.1).2.2, ()))) }
def S_spec_DrawSigned_tab : List (Nat × Sum) := [(46, S_spec_l1New), (47, S_spec_l19Made)]
theorem S_spec_DrawSigned_ok : FnOK Try.prog 9 S_spec_DrawSigned := by
 refine at_enter 13 (fun x => ⟨[(0, aF (.u8 5) x.1)], []⟩) Try.func9 rfl (by kernel_rfl) (fun x => rfl) ?_
 rintro w0 Z0 ⟨x0, u⟩ a w
 revert x0
 intro (x0 : (List Int)) hpre hlens h
 replace hpre : Q_spec_DrawSigned x0 := hpre
 have hu0 : u8L x0 := hlens.1.2
 have hT : TabOK Try.prog S_spec_DrawSigned_tab := (.cons S_spec_l1New_ok (.cons S_spec_l19Made_ok .nil))
 have hf0 : Sh.fit s22 x0 := hpre
 have hn0_1 : List.length x0 ≤ 1073741824 := hf0.1
 refine wp_seq ?_
 refine at_regq [{ ids := [1] }, { ids := [2] }, { ids := [3] }] { ts := [0, 2, 3, 4], os := [1, 2, 3] } [] gamOK hT h (by kernel_rfl) trivial fun a w h => then_normal (wp_seq ?_)
 refine at_regq [{}, { ids := [4] }] { ts := [2, 3, 4, 5], os := [1, 2, 3, 4] } [B_spec_l1New.pre (x0, ())] gamOK hT h (by kernel_rfl) ⟨(by exact hf0), trivial⟩ fun a w h => then_normal (wp_seq ?_)
 refine at_regq [{}, { ids := [5, 6, 7] }] { ts := [2, 3, 4], os := [1, 2, 3, 5, 6, 7] } [B_spec_l19Made.pre (newC x0) (())] gamOK hT h (by kernel_rfl) ⟨(by exact Int.le_refl 0), trivial⟩ fun a w h => then_normal (wp_ret ?_)
 exact at_return ((madeD (newC x0)).2.1, ((madeD (newC x0)).2.2.1, ((madeD (newC x0)).2.2.2, ()))) [] h (by kernel_rfl) trivial (congrArg (fun z => (z.1, z.2.1, z.2.2, ())) (show (((madeD (newC x0)).2.1, (madeD (newC x0)).2.2.1, (madeD (newC x0)).2.2.2)) = drawS x0 from by rfl))
structure DrawSOK (d : T26 × List Int × T31) : Prop where
 hk : hsOK d.2.1 d.1
 id : 0 ≤ d.1.1 ∧ d.1.1 ≤ 4
 len : 1 ≤ List.length d.1.2 ∧ List.length d.1.2 ≤ 4
 col : 1 ≤ List.length d.2.1 ∧ List.length d.2.1 ≤ 16
 fg : Sh.fit s26 d.1
 fk : Sh.fit s29 d.2.1
 man : ∃ s src, (isKey s = true ∧ 0 ≤ src ∧ src ≤ 2) ∧ d.2.2 = mkMan s src d.2.1 d.1
 fm : Sh.fit s31 d.2.2
theorem drawS_ok (x : List Int) : DrawSOK (drawS x) := by
 obtain ⟨h1, h2, h3, s, src, h4, h5⟩ := madeD_ok (x := newC x) (Int.le_refl 0)
 have hv := validG_t h2.1
 have hk := (validK_t h3.1).1
 have hl := hashSyms_len (k := (madeD (newC x)).2.2.1) (g := (madeD (newC x)).2.1)
 have hm : List.length (madeD (newC x)).2.2.2.2.2.2.2.1 ≤ 8 := by
  rw [h5]; show List.length (hashSyms _ _) ≤ 8; omega
 exact ⟨h3, ⟨hv.1.1, h2.2.1⟩, ⟨hv.2.1.1, h2.2.2.1⟩, hk, validG_fit h2.1, ⟨Nat.le_trans hk.2 (by decide), fun _ _ => trivial⟩, ⟨s, src, h4, h5⟩, ⟨trivial, trivial, trivial, trivial, ⟨Nat.le_trans hm (by decide), fun _ _ => trivial⟩, trivial⟩⟩

theorem codePk_ok {g : T26} {cs : List Int} (h : validG g = true) (hc : LA.VokB g.2.length cs) : codePk g cs = ((g.1, cs, combS g.2 cs), true) := by
 have hg := validG_t h
 rw [← codePk_y h (validV_of hc (by omega)) hc.1, genC h hc]
theorem combS_ok {g : T26} {cs : List Int} (h : validG g = true) (hc : LA.VokB g.2.length cs) : LA.VokB (g.2.getD 0 []).length (combS g.2 cs) := by
 have hm := validM_ok (validG_t h).2.2.1
 exact combTo_ok rfl (fun j => hc.rng j) g.2.length fun j hj => hm _ (LA.getD_in hj)
def pktD (x0 : T109) (x1 : T26) : T109 × T42 := ((vecD x0 ((List.length x1.2 : Nat) : Int)).1, (codePk x1 (vecD x0 ((List.length x1.2 : Nat) : Int)).2).1)
abbrev Q_spec_l11Packet := (fun (x0 : T109) (x1 : T26) => 0 ≤ x0.2.1 ∧ validG x1 = true)
def B_spec_l11Packet : BS := { t := 109, s := s109, dom := [s26], cod := [s42], pre := fun y x => Q_spec_l11Packet y x.1, upd := fun y x => (pktD y x.1).1, g := fun y x => ((pktD y x.1).2, ()) }
def S_spec_l11Packet : Sum := bSum 120 B_spec_l11Packet
def S_spec_l11Packet_tab : List (Nat × Sum) := [(153, S_spec_l5Vector), (16, S_spec_CodePacket)]
theorem S_spec_l11Packet_ok : FnOK Try.prog 120 S_spec_l11Packet := by
 refine at_enterB (B := B_spec_l11Packet) 18 (fun v y x => ⟨[(0, aP 1 0), (1, aG [cI x.1.1, .ro s27 x.1.2])], [(1, oX 109 [.ro (.u8 5) y.1, cI y.2.1, cI y.2.2]), (2, oP 1 v)]⟩) Try.func120 rfl (by kernel_rfl) (fun v y x => rfl) ?_
 rintro w0 Z0 b0 x0 ⟨x1, u⟩ a w
 revert x0 x1
 intro (x0 : T109) (x1 : T26) hpre hlens0 hlens h
 replace h : At w0 Z0 [b0] 18 ⟨[(0, aP 1 0), (1, aG [cI x1.1, .ro s27 x1.2])], [(1, oX 109 [.ro (.u8 5) x0.1, cI x0.2.1, cI x0.2.2]), (2, oP 1 (Value.pointer (some ⟨b0, 0, none⟩)))]⟩ a w := h
 replace hpre : Q_spec_l11Packet x0 x1 := hpre
 have hl1 : List.length x0.1 ≤ 9223372036854775807 := hlens0.1.1
 have hu0 : u8L x0.1 := hlens0.1.2
 have hl2 : List.length x1.2 ≤ 9223372036854775807 := hlens.1.2.1
 have hT : TabOK Try.prog S_spec_l11Packet_tab := (.cons S_spec_l5Vector_ok (.cons S_spec_CodePacket_ok .nil))
 have hvg := validG_t hpre.2
 have hvd := vecD_ok (n := ((List.length x1.2 : Nat) : Int)) hpre.1
 have hvl := hvd.2.1
 have hgf := validG_fit hpre.2
 refine wp_seq ?_
 refine at_regq [{ ids := [3] }, { ids := [4] }] { ts := [0, 3, 4], os := [1, 2, 3, 4] } [] gamOK hT h (by kernel_rfl) trivial fun a w h => then_normal (wp_seq ?_)
 refine at_anyq [{}, {}, {}, {}, {}, { ids := [5] }, { ids := [6, 7] }, {}, {}, {}, { ids := [8] }, {}, {}] { ts := [4, 5], os := [1, 2, 4, 6, 7, 8] } [B_spec_l5Vector.pre x0 (((List.length x1.2 : Nat) : Int), ()), Q_spec_CodePacket x1 (vecD x0 ((List.length x1.2 : Nat) : Int)).2] gamOK hT mixed h (by kernel_rfl) ⟨(by exact ⟨hpre.1, by omega⟩), (by exact ⟨hgf, Sh.fit_len rfl (by omega)⟩), trivial⟩ fun a w h => then_normal (wp_seq ?_)
 refine at_regq [] { ts := [4], os := [1, 2, 4, 6, 7] } [] gamOK hT h (by kernel_rfl) trivial fun a w h => then_normal (wp_ret ?_)
 have hr1 : (((vecD x0 ((List.length x1.2 : Nat) : Int)).1, (codePk x1 (vecD x0 ((List.length x1.2 : Nat) : Int)).2).1) : T109 × T42) = pktD x0 x1 := by rfl
 exact at_returnB (B := B_spec_l11Packet) (c0 := x0) (x := (x1, ())) ((vecD x0 ((List.length x1.2 : Nat) : Int)).1) ((codePk x1 (vecD x0 ((List.length x1.2 : Nat) : Int)).2).1, ()) [(Value.pointer (some ⟨b0, 0, none⟩)) = (Value.pointer (some ⟨b0, 0, none⟩))] h (by kernel_rfl) ⟨rfl, trivial⟩ (congrArg (a₁ := ((vecD x0 ((List.length x1.2 : Nat) : Int)).1, (codePk x1 (vecD x0 ((List.length x1.2 : Nat) : Int)).2).1)) (a₂ := pktD x0 x1) (fun (z : T109 × T42) => z.1) hr1) (congrArg (a₁ := ((vecD x0 ((List.length x1.2 : Nat) : Int)).1, (codePk x1 (vecD x0 ((List.length x1.2 : Nat) : Int)).2).1)) (a₂ := pktD x0 x1) (fun (z : T109 × T42) => (z.2, ())) hr1)
theorem pktD_ok {x : T109} {g : T26} (h : 0 ≤ x.2.1) (hg : validG g = true) : 0 ≤ (pktD x g).1.2.1 ∧ (pktD x g).2.1 = g.1 ∧ LA.VokB g.2.length (pktD x g).2.2.1 ∧ (pktD x g).2.2.2 = combS g.2 (pktD x g).2.2.1 := by
 have hvd := vecD_ok (n := ((List.length g.2 : Nat) : Int)) h
 have hv2 := hvd.2
 rw [Int.toNat_natCast] at hv2
 unfold pktD
 rw [codePk_ok hg hv2]
 exact ⟨hvd.1, rfl, hv2, rfl⟩
theorem pktD_fit {x : T109} {g : T26} (h : 0 ≤ x.2.1) (hg : validG g = true) : Sh.fit s42 (pktD x g).2 := by
 obtain ⟨h1, h2, h3, h4⟩ := pktD_ok h hg
 have hv := validG_t hg
 have hc := combS_ok hg h3
 have hco := colsOf_at (m := g.2) (by omega)
 refine ⟨trivial, ⟨by have := h3.1; omega, fun _ _ => trivial⟩, ⟨?_, fun _ _ => trivial⟩⟩
 rw [h4]; have := hc.1; omega
theorem pktD_len {x : T109} {g : T26} (h : 0 ≤ x.2.1) (hg : validG g = true) : List.length (pktD x g).2.2.1 ≤ 8 ∧ (1 ≤ List.length (pktD x g).2.2.2 ∧ List.length (pktD x g).2.2.2 ≤ 16) ∧ ∀ j, 0 ≤ (pktD x g).2.2.2.getD j 0 ∧ (pktD x g).2.2.2.getD j 0 ≤ 1018 := by
 obtain ⟨_, _, h3, h4⟩ := pktD_ok h hg
 have hv := validG_t hg
 have hc := combS_ok hg h3
 have hco := colsOf_at (m := g.2) (by omega)
 rw [h4]
 exact ⟨by have := h3.1; omega, by have := hc.1; omega, fun j => hc.rng j⟩

@[irreducible]
def anyP (x0 : T109) (x1 : T26) : T109 × T42 := (if (belowC (pktD x0 x1).1 12).2 = 0 then ((pickC (belowC (pktD x0 x1).1 12).1 ([(-1), 7, 1000000000000, 1000000000001])).1, ((pickC (belowC (pktD x0 x1).1 12).1 ([(-1), 7, 1000000000000, 1000000000001])).2, (pktD x0 x1).2.2)) else (if (belowC (pktD x0 x1).1 12).2 = 1 then ((anyV (belowC (belowC (pktD x0 x1).1 12).1 5).1 (belowC (belowC (pktD x0 x1).1 12).1 5).2).1, ((pktD x0 x1).2.1, ((anyV (belowC (belowC (pktD x0 x1).1 12).1 5).1 (belowC (belowC (pktD x0 x1).1 12).1 5).2).2, (pktD x0 x1).2.2.2))) else (if (belowC (pktD x0 x1).1 12).2 = 2 then ((anyV (belowC (belowC (pktD x0 x1).1 12).1 5).1 (belowC (belowC (pktD x0 x1).1 12).1 5).2).1, ((pktD x0 x1).2.1, ((pktD x0 x1).2.2.1, (anyV (belowC (belowC (pktD x0 x1).1 12).1 5).1 (belowC (belowC (pktD x0 x1).1 12).1 5).2).2))) else (if (belowC (pktD x0 x1).1 12).2 = 3 then (if ((List.length (pktD x0 x1).2.2.2 : Nat) : Int) > 0 then ((belowC (pktD x0 x1).1 12).1, ((pktD x0 x1).2.1, ((pktD x0 x1).2.2.1, (List.set (pktD x0 x1).2.2.2 0 (Int.tmod (((pktD x0 x1).2.2.2.getD 0 0) + 1) 1019))))) else ((belowC (pktD x0 x1).1 12).1, (pktD x0 x1).2)) else ((belowC (pktD x0 x1).1 12).1, (pktD x0 x1).2)))))
abbrev Q_spec_l11Any := (fun (x0 : T109) (x1 : T26) => 0 ≤ x0.2.1 ∧ validG x1 = true)
def B_spec_l11Any : BS := { t := 109, s := s109, dom := [s26], cod := [s42], pre := fun y x => Q_spec_l11Any y x.1, upd := fun y x => (anyP y x.1).1, g := fun y x => ((anyP y x.1).2, ()) }
def S_spec_l11Any : Sum := bSum 122 B_spec_l11Any
def S_spec_l11Any_tab : List (Nat × Sum) := [(120, S_spec_l11Packet), (73, S_spec_l1Below), (116, S_spec_l1Int), (135, S_spec_l5Any)]
theorem S_spec_l11Any_ok : FnOK Try.prog 122 S_spec_l11Any := by
 refine at_enterB (B := B_spec_l11Any) 47 (fun v y x => ⟨[(0, aP 1 0), (1, aG [cI x.1.1, .ro s27 x.1.2])], [(1, oX 109 [.ro (.u8 5) y.1, cI y.2.1, cI y.2.2]), (2, oP 1 v)]⟩) Try.func122 rfl (by kernel_rfl) (fun v y x => rfl) ?_
 rintro w0 Z0 b0 x0 ⟨x1, u⟩ a w
 revert x0 x1
 intro (x0 : T109) (x1 : T26) hpre hlens0 hlens h
 replace h : At w0 Z0 [b0] 47 ⟨[(0, aP 1 0), (1, aG [cI x1.1, .ro s27 x1.2])], [(1, oX 109 [.ro (.u8 5) x0.1, cI x0.2.1, cI x0.2.2]), (2, oP 1 (Value.pointer (some ⟨b0, 0, none⟩)))]⟩ a w := h
 replace hpre : Q_spec_l11Any x0 x1 := hpre
 have hl1 : List.length x0.1 ≤ 9223372036854775807 := hlens0.1.1
 have hu0 : u8L x0.1 := hlens0.1.2
 have hl2 : List.length x1.2 ≤ 9223372036854775807 := hlens.1.2.1
 have hT : TabOK Try.prog S_spec_l11Any_tab := (.cons S_spec_l11Packet_ok (.cons S_spec_l1Below_ok (.cons S_spec_l1Int_ok (.cons S_spec_l5Any_ok .nil))))
 have hpk := pktD_ok hpre.1 hpre.2
 have hpl := pktD_len hpre.1 hpre.2
 have hpp := hpl.2.1
 have hp0 := hpl.2.2 0
 have hcp := hpk.1
 have hcb := below_ok (n := 12) hcp
 have hb5 := below_bd (belowC (pktD x0 x1).1 12).1 (n := 5) (by decide)
 refine wp_seq ?_
 refine at_regq [{ ids := [3] }, { ids := [4] }] { ts := [0, 3, 4], os := [1, 2, 3, 4] } [] gamOK hT h (by kernel_rfl) trivial fun a w h => then_normal (wp_seq ?_)
 refine at_regq [{}, {}, { ids := [5, 6] }, { ids := [7] }] { ts := [0, 4, 5], os := [1, 2, 4, 5, 6, 7] } [B_spec_l11Packet.pre x0 (x1, ())] gamOK hT h (by kernel_rfl) ⟨(by exact hpre), trivial⟩ fun a w h => then_normal (wp_seq (wp_seq ?_))
 refine at_regq [] { ts := [0, 4, 5, 10], os := [1, 2, 4, 5, 6, 7] } [B_spec_l1Below.pre (pktD x0 x1).1 (12, ())] gamOK hT h (by kernel_rfl) ⟨(by exact (pktD_ok hpre.1 hpre.2).1), trivial⟩ fun a w h => then_normal (wp_block (wp_seq ?_))
 refine at_regq [] { ts := [0, 4, 5, 10, 11], os := [1, 2, 4, 5, 6, 7] } [] gamOK hT h (by kernel_rfl) trivial fun a w h => then_normal ?_
 refine at_test (decide ((belowC (pktD x0 x1).1 12).2 = 0)) h (by kernel_rfl) (fun h1 => ?_) (fun h1 => ?_)
 ·replace h1 : (belowC (pktD x0 x1).1 12).2 = 0 := of_decide_eq_true h1
  refine at_regq [{}, { ids := [8], frz := true }] { ts := [4, 5], os := [1, 2, 4, 5, 6, 7] } [B_spec_l1Int.pre (belowC (pktD x0 x1).1 12).1 ([(-1), 7, 1000000000000, 1000000000001], ())] gamOK hT h (by kernel_rfl) ⟨(by exact ⟨(below_ok (pktD_ok hpre.1 hpre.2).1), by simp, by simp⟩), trivial⟩ fun a w h => in_normal (then_normal (wp_seq ?_))
  refine at_regq [] { ts := [4], os := [1, 2, 4, 5, 6] } [] gamOK hT h (by kernel_rfl) trivial fun a w h => then_normal (wp_ret ?_)
  have hr2 : (((pickC (belowC (pktD x0 x1).1 12).1 ([(-1), 7, 1000000000000, 1000000000001])).1, ((pickC (belowC (pktD x0 x1).1 12).1 ([(-1), 7, 1000000000000, 1000000000001])).2, (pktD x0 x1).2.2)) : T109 × T42) = anyP x0 x1 := by (unfold anyP; rw [if_pos h1])
  exact at_returnB (B := B_spec_l11Any) (c0 := x0) (x := (x1, ())) ((pickC (belowC (pktD x0 x1).1 12).1 ([(-1), 7, 1000000000000, 1000000000001])).1) (((pickC (belowC (pktD x0 x1).1 12).1 ([(-1), 7, 1000000000000, 1000000000001])).2, (pktD x0 x1).2.2), ()) [(Value.pointer (some ⟨b0, 0, none⟩)) = (Value.pointer (some ⟨b0, 0, none⟩))] h (by kernel_rfl) ⟨rfl, trivial⟩ (congrArg (a₁ := ((pickC (belowC (pktD x0 x1).1 12).1 ([(-1), 7, 1000000000000, 1000000000001])).1, ((pickC (belowC (pktD x0 x1).1 12).1 ([(-1), 7, 1000000000000, 1000000000001])).2, (pktD x0 x1).2.2))) (a₂ := anyP x0 x1) (fun (z : T109 × T42) => z.1) hr2) (congrArg (a₁ := ((pickC (belowC (pktD x0 x1).1 12).1 ([(-1), 7, 1000000000000, 1000000000001])).1, ((pickC (belowC (pktD x0 x1).1 12).1 ([(-1), 7, 1000000000000, 1000000000001])).2, (pktD x0 x1).2.2))) (a₂ := anyP x0 x1) (fun (z : T109 × T42) => (z.2, ())) hr2)
 ·replace h1 : ¬ ((belowC (pktD x0 x1).1 12).2 = 0) := of_decide_eq_false h1
  refine wp_seq ?_
  refine at_regq [] { ts := [0, 4, 5, 10, 17], os := [1, 2, 4, 5, 6, 7] } [] gamOK hT h (by kernel_rfl) trivial fun a w h => then_normal ?_
  refine at_test (decide ((belowC (pktD x0 x1).1 12).2 = 1)) h (by kernel_rfl) (fun h3 => ?_) (fun h3 => ?_)
  ·replace h3 : (belowC (pktD x0 x1).1 12).2 = 1 := of_decide_eq_true h3
   refine at_regq [{}, {}, {}, { ids := [9] }] { ts := [4, 5], os := [1, 2, 4, 6, 7, 9] } [B_spec_l1Below.pre (belowC (pktD x0 x1).1 12).1 (5, ()), B_spec_l5Any.pre (belowC (belowC (pktD x0 x1).1 12).1 5).1 ((belowC (belowC (pktD x0 x1).1 12).1 5).2, ())] gamOK hT h (by kernel_rfl) ⟨(by exact (below_ok (pktD_ok hpre.1 hpre.2).1)), (by exact ⟨(below_ok (below_ok (pktD_ok hpre.1 hpre.2).1)), by omega⟩), trivial⟩ fun a w h => in_normal (then_normal (wp_seq ?_))
   refine at_regq [] { ts := [4], os := [1, 2, 4, 6, 9] } [] gamOK hT h (by kernel_rfl) trivial fun a w h => then_normal (wp_ret ?_)
   have hr4 : (((anyV (belowC (belowC (pktD x0 x1).1 12).1 5).1 (belowC (belowC (pktD x0 x1).1 12).1 5).2).1, ((pktD x0 x1).2.1, ((anyV (belowC (belowC (pktD x0 x1).1 12).1 5).1 (belowC (belowC (pktD x0 x1).1 12).1 5).2).2, (pktD x0 x1).2.2.2))) : T109 × T42) = anyP x0 x1 := by (unfold anyP; rw [if_neg h1, if_pos h3])
   exact at_returnB (B := B_spec_l11Any) (c0 := x0) (x := (x1, ())) ((anyV (belowC (belowC (pktD x0 x1).1 12).1 5).1 (belowC (belowC (pktD x0 x1).1 12).1 5).2).1) (((pktD x0 x1).2.1, ((anyV (belowC (belowC (pktD x0 x1).1 12).1 5).1 (belowC (belowC (pktD x0 x1).1 12).1 5).2).2, (pktD x0 x1).2.2.2)), ()) [(Value.pointer (some ⟨b0, 0, none⟩)) = (Value.pointer (some ⟨b0, 0, none⟩))] h (by kernel_rfl) ⟨rfl, trivial⟩ (congrArg (a₁ := ((anyV (belowC (belowC (pktD x0 x1).1 12).1 5).1 (belowC (belowC (pktD x0 x1).1 12).1 5).2).1, ((pktD x0 x1).2.1, ((anyV (belowC (belowC (pktD x0 x1).1 12).1 5).1 (belowC (belowC (pktD x0 x1).1 12).1 5).2).2, (pktD x0 x1).2.2.2)))) (a₂ := anyP x0 x1) (fun (z : T109 × T42) => z.1) hr4) (congrArg (a₁ := ((anyV (belowC (belowC (pktD x0 x1).1 12).1 5).1 (belowC (belowC (pktD x0 x1).1 12).1 5).2).1, ((pktD x0 x1).2.1, ((anyV (belowC (belowC (pktD x0 x1).1 12).1 5).1 (belowC (belowC (pktD x0 x1).1 12).1 5).2).2, (pktD x0 x1).2.2.2)))) (a₂ := anyP x0 x1) (fun (z : T109 × T42) => (z.2, ())) hr4)
  ·replace h3 : ¬ ((belowC (pktD x0 x1).1 12).2 = 1) := of_decide_eq_false h3
   refine wp_seq ?_
   refine at_regq [] { ts := [0, 4, 5, 10, 24], os := [1, 2, 4, 5, 6, 7] } [] gamOK hT h (by kernel_rfl) trivial fun a w h => then_normal ?_
   refine at_test (decide ((belowC (pktD x0 x1).1 12).2 = 2)) h (by kernel_rfl) (fun h5 => ?_) (fun h5 => ?_)
   ·replace h5 : (belowC (pktD x0 x1).1 12).2 = 2 := of_decide_eq_true h5
    refine at_regq [{}, {}, {}, { ids := [10] }] { ts := [4, 5], os := [1, 2, 4, 5, 7, 10] } [B_spec_l1Below.pre (belowC (pktD x0 x1).1 12).1 (5, ()), B_spec_l5Any.pre (belowC (belowC (pktD x0 x1).1 12).1 5).1 ((belowC (belowC (pktD x0 x1).1 12).1 5).2, ())] gamOK hT h (by kernel_rfl) ⟨(by exact (below_ok (pktD_ok hpre.1 hpre.2).1)), (by exact ⟨(below_ok (below_ok (pktD_ok hpre.1 hpre.2).1)), by omega⟩), trivial⟩ fun a w h => in_normal (then_normal (wp_seq ?_))
    refine at_regq [] { ts := [4], os := [1, 2, 4, 5, 10] } [] gamOK hT h (by kernel_rfl) trivial fun a w h => then_normal (wp_ret ?_)
    have hr6 : (((anyV (belowC (belowC (pktD x0 x1).1 12).1 5).1 (belowC (belowC (pktD x0 x1).1 12).1 5).2).1, ((pktD x0 x1).2.1, ((pktD x0 x1).2.2.1, (anyV (belowC (belowC (pktD x0 x1).1 12).1 5).1 (belowC (belowC (pktD x0 x1).1 12).1 5).2).2))) : T109 × T42) = anyP x0 x1 := by (unfold anyP; rw [if_neg h1, if_neg h3, if_pos h5])
    exact at_returnB (B := B_spec_l11Any) (c0 := x0) (x := (x1, ())) ((anyV (belowC (belowC (pktD x0 x1).1 12).1 5).1 (belowC (belowC (pktD x0 x1).1 12).1 5).2).1) (((pktD x0 x1).2.1, ((pktD x0 x1).2.2.1, (anyV (belowC (belowC (pktD x0 x1).1 12).1 5).1 (belowC (belowC (pktD x0 x1).1 12).1 5).2).2)), ()) [(Value.pointer (some ⟨b0, 0, none⟩)) = (Value.pointer (some ⟨b0, 0, none⟩))] h (by kernel_rfl) ⟨rfl, trivial⟩ (congrArg (a₁ := ((anyV (belowC (belowC (pktD x0 x1).1 12).1 5).1 (belowC (belowC (pktD x0 x1).1 12).1 5).2).1, ((pktD x0 x1).2.1, ((pktD x0 x1).2.2.1, (anyV (belowC (belowC (pktD x0 x1).1 12).1 5).1 (belowC (belowC (pktD x0 x1).1 12).1 5).2).2)))) (a₂ := anyP x0 x1) (fun (z : T109 × T42) => z.1) hr6) (congrArg (a₁ := ((anyV (belowC (belowC (pktD x0 x1).1 12).1 5).1 (belowC (belowC (pktD x0 x1).1 12).1 5).2).1, ((pktD x0 x1).2.1, ((pktD x0 x1).2.2.1, (anyV (belowC (belowC (pktD x0 x1).1 12).1 5).1 (belowC (belowC (pktD x0 x1).1 12).1 5).2).2)))) (a₂ := anyP x0 x1) (fun (z : T109 × T42) => (z.2, ())) hr6)
   ·replace h5 : ¬ ((belowC (pktD x0 x1).1 12).2 = 2) := of_decide_eq_false h5
    refine wp_seq ?_
    refine at_regq [] { ts := [4, 5, 31], os := [1, 2, 4, 5, 6, 7] } [] gamOK hT h (by kernel_rfl) trivial fun a w h => then_normal ?_
    refine at_test (decide ((belowC (pktD x0 x1).1 12).2 = 3)) h (by kernel_rfl) (fun h7 => ?_) (fun h7 => ?_)
    ·replace h7 : (belowC (pktD x0 x1).1 12).2 = 3 := of_decide_eq_true h7
     refine wp_seq ?_
     refine at_regq [] { ts := [4, 5, 36], os := [1, 2, 4, 5, 6, 7] } [] gamOK hT h (by kernel_rfl) trivial fun a w h => then_normal ?_
     refine at_test (decide (((List.length (pktD x0 x1).2.2.2 : Nat) : Int) > 0)) h (by kernel_rfl) (fun h8 => ?_) (fun h8 => ?_)
     ·replace h8 : ((List.length (pktD x0 x1).2.2.2 : Nat) : Int) > 0 := of_decide_eq_true h8
      refine at_anyq [{}, {}, {}, {}, {}, {}, { nw := true }, {}, {}, {}] { ts := [4, 5], os := [1, 2, 4, 5, 6, 7] } [(0 : Int) ≤ 0 ∧ 0 < ((List.length (pktD x0 x1).2.2.2 : Nat) : Int), 0 < List.length (pktD x0 x1).2.2.2, I64 (((pktD x0 x1).2.2.2.getD 0 0) + 1), (1019 : Int) ≠ 0, (0 : Int) ≤ 0 ∧ 0 < ((List.length (pktD x0 x1).2.2.2 : Nat) : Int), 0 < List.length (pktD x0 x1).2.2.2] gamOK hT mixed h (by kernel_rfl) ⟨(by refine ⟨?_, ?_⟩ <;> (first | omega | (simp only [lsA]; omega) | (simp <;> omega))), (by first | omega | (simp only [lsA]; omega) | (simp <;> omega)), ⟨by first | omega | (simp only [lsA]; omega) | (simp <;> omega), by first | omega | (simp only [lsA]; omega) | (simp <;> omega)⟩, (by first | omega | (simp only [lsA]; omega) | (simp <;> omega)), (by refine ⟨?_, ?_⟩ <;> (first | omega | (simp only [lsA]; omega) | (simp <;> omega))), (by first | omega | (simp only [lsA]; omega) | (simp <;> omega)), trivial⟩ fun a w h => in_normal (then_normal (wp_seq ?_))
      refine at_regq [] { ts := [4], os := [1, 2, 4, 5, 6] } [] gamOK hT h (by kernel_rfl) trivial fun a w h => then_normal (wp_ret ?_)
      have hr9 : (((belowC (pktD x0 x1).1 12).1, ((pktD x0 x1).2.1, ((pktD x0 x1).2.2.1, (List.set (pktD x0 x1).2.2.2 0 (Int.tmod (((pktD x0 x1).2.2.2.getD 0 0) + 1) 1019))))) : T109 × T42) = anyP x0 x1 := by (unfold anyP; rw [if_neg h1, if_neg h3, if_neg h5, if_pos h7, if_pos h8])
      exact at_returnB (B := B_spec_l11Any) (c0 := x0) (x := (x1, ())) ((belowC (pktD x0 x1).1 12).1) (((pktD x0 x1).2.1, ((pktD x0 x1).2.2.1, (List.set (pktD x0 x1).2.2.2 0 (Int.tmod (((pktD x0 x1).2.2.2.getD 0 0) + 1) 1019)))), ()) [(Value.pointer (some ⟨b0, 0, none⟩)) = (Value.pointer (some ⟨b0, 0, none⟩))] h (by kernel_rfl) ⟨rfl, trivial⟩ (congrArg (a₁ := ((belowC (pktD x0 x1).1 12).1, ((pktD x0 x1).2.1, ((pktD x0 x1).2.2.1, (List.set (pktD x0 x1).2.2.2 0 (Int.tmod (((pktD x0 x1).2.2.2.getD 0 0) + 1) 1019)))))) (a₂ := anyP x0 x1) (fun (z : T109 × T42) => z.1) hr9) (congrArg (a₁ := ((belowC (pktD x0 x1).1 12).1, ((pktD x0 x1).2.1, ((pktD x0 x1).2.2.1, (List.set (pktD x0 x1).2.2.2 0 (Int.tmod (((pktD x0 x1).2.2.2.getD 0 0) + 1) 1019)))))) (a₂ := anyP x0 x1) (fun (z : T109 × T42) => (z.2, ())) hr9)
     ·replace h8 : ¬ (((List.length (pktD x0 x1).2.2.2 : Nat) : Int) > 0) := of_decide_eq_false h8
      refine wp_skip (in_normal (then_normal (wp_seq ?_)))
      refine at_regq [] { ts := [4], os := [1, 2, 4, 5, 6] } [] gamOK hT h (by kernel_rfl) trivial fun a w h => then_normal (wp_ret ?_)
      have hr10 : (((belowC (pktD x0 x1).1 12).1, (pktD x0 x1).2) : T109 × T42) = anyP x0 x1 := by (unfold anyP; rw [if_neg h1, if_neg h3, if_neg h5, if_pos h7, if_neg h8])
      exact at_returnB (B := B_spec_l11Any) (c0 := x0) (x := (x1, ())) ((belowC (pktD x0 x1).1 12).1) ((pktD x0 x1).2, ()) [(Value.pointer (some ⟨b0, 0, none⟩)) = (Value.pointer (some ⟨b0, 0, none⟩))] h (by kernel_rfl) ⟨rfl, trivial⟩ (congrArg (a₁ := ((belowC (pktD x0 x1).1 12).1, (pktD x0 x1).2)) (a₂ := anyP x0 x1) (fun (z : T109 × T42) => z.1) hr10) (congrArg (a₁ := ((belowC (pktD x0 x1).1 12).1, (pktD x0 x1).2)) (a₂ := anyP x0 x1) (fun (z : T109 × T42) => (z.2, ())) hr10)
    ·replace h7 : ¬ ((belowC (pktD x0 x1).1 12).2 = 3) := of_decide_eq_false h7
     refine wp_skip (in_normal (then_normal (wp_seq ?_)))
     refine at_regq [] { ts := [4], os := [1, 2, 4, 5, 6] } [] gamOK hT h (by kernel_rfl) trivial fun a w h => then_normal (wp_ret ?_)
     have hr11 : (((belowC (pktD x0 x1).1 12).1, (pktD x0 x1).2) : T109 × T42) = anyP x0 x1 := by (unfold anyP; rw [if_neg h1, if_neg h3, if_neg h5, if_neg h7])
     exact at_returnB (B := B_spec_l11Any) (c0 := x0) (x := (x1, ())) ((belowC (pktD x0 x1).1 12).1) ((pktD x0 x1).2, ()) [(Value.pointer (some ⟨b0, 0, none⟩)) = (Value.pointer (some ⟨b0, 0, none⟩))] h (by kernel_rfl) ⟨rfl, trivial⟩ (congrArg (a₁ := ((belowC (pktD x0 x1).1 12).1, (pktD x0 x1).2)) (a₂ := anyP x0 x1) (fun (z : T109 × T42) => z.1) hr11) (congrArg (a₁ := ((belowC (pktD x0 x1).1 12).1, (pktD x0 x1).2)) (a₂ := anyP x0 x1) (fun (z : T109 × T42) => (z.2, ())) hr11)
theorem anyP_ok {x : T109} {g : T26} (h : 0 ≤ x.2.1) (hg : validG g = true) : 0 ≤ (anyP x g).1.2.1 ∧ List.length (anyP x g).2.2.1 ≤ 41 ∧ List.length (anyP x g).2.2.2 ≤ 41 := by
 have hpk := pktD_ok h hg
 have hpl := pktD_len h hg
 have h1 := hpk.1
 have h2 := below_ok (n := 12) h1
 have hb5 := below_bd (belowC (pktD x g).1 12).1 (n := 5) (by decide)
 have ha := anyV_ok (n := (belowC (belowC (pktD x g).1 12).1 5).2) (below_ok (n := 5) h2) (by omega)
 unfold anyP
 (repeat' split) <;> refine ⟨?_, ?_, ?_⟩ <;> first
  | exact ha.1
  | exact h2
  | exact pickC_ok h2
  | (dsimp only; omega)
  | (simp; omega)
theorem anyP_fit {x : T109} {g : T26} (h : 0 ≤ x.2.1) (hg : validG g = true) : Sh.fit s42 (anyP x g).2 := ⟨trivial, ⟨by have := (anyP_ok h hg).2.1; omega, fun _ _ => trivial⟩, ⟨by have := (anyP_ok h hg).2.2; omega, fun _ _ => trivial⟩⟩

@[irreducible]
def anyM (x0 : T109) : T109 × T26 × (List Int) × T31 := (if (belowC (madeD x0).1 12).2 = 0 then ((pickC (belowC (madeD x0).1 12).1 ([(-1), 7, 8])).1, (madeD x0).2.1, (madeD x0).2.2.1, ((pickC (belowC (madeD x0).1 12).1 ([(-1), 7, 8])).2, (madeD x0).2.2.2.2)) else (if (belowC (madeD x0).1 12).2 = 1 then ((pickC (belowC (madeD x0).1 12).1 ([0, (madeD x0).2.2.2.2.2.1 + 1, 9])).1, (madeD x0).2.1, (madeD x0).2.2.1, ((madeD x0).2.2.2.1, ((madeD x0).2.2.2.2.1, ((pickC (belowC (madeD x0).1 12).1 ([0, (madeD x0).2.2.2.2.2.1 + 1, 9])).2, (madeD x0).2.2.2.2.2.2)))) else (if (belowC (madeD x0).1 12).2 = 2 then ((grpE (belowC (madeD x0).1 12).1).1, (madeD x0).2.1, (madeD x0).2.2.1, ((madeD x0).2.2.2.1, ((madeD x0).2.2.2.2.1, ((madeD x0).2.2.2.2.2.1, ((madeD x0).2.2.2.2.2.2.1, ((List.set (madeD x0).2.2.2.2.2.2.2.1 0 (grpE (belowC (madeD x0).1 12).1).2), (madeD x0).2.2.2.2.2.2.2.2)))))) else (if (belowC (madeD x0).1 12).2 = 3 then ((pickC (belowC (madeD x0).1 12).1 ([(-1), 5, 2147483646, 2147483647])).1, (madeD x0).2.1, (madeD x0).2.2.1, ((madeD x0).2.2.2.1, ((madeD x0).2.2.2.2.1, ((madeD x0).2.2.2.2.2.1, ((madeD x0).2.2.2.2.2.2.1, ((madeD x0).2.2.2.2.2.2.2.1, (pickC (belowC (madeD x0).1 12).1 ([(-1), 5, 2147483646, 2147483647])).2)))))) else (if (belowC (madeD x0).1 12).2 = 4 then ((keyE (belowC (madeD x0).1 12).1 (madeD x0).2.2.2.2.2.2.1).1, (madeD x0).2.1, (keyE (belowC (madeD x0).1 12).1 (madeD x0).2.2.2.2.2.2.1).2, (madeD x0).2.2.2) else ((belowC (madeD x0).1 12).1, (madeD x0).2.1, (madeD x0).2.2.1, (madeD x0).2.2.2))))))
abbrev Q_spec_l19Any := (fun (x0 : T109) => 0 ≤ x0.2.1)
def B_spec_l19Any : BS := { t := 109, s := s109, dom := [], cod := [s26, s29, s31], pre := fun y x => Q_spec_l19Any y, upd := fun y x => (anyM y).1, g := fun y x => ((anyM y).2.1, ((anyM y).2.2.1, ((anyM y).2.2.2, ()))) }
def S_spec_l19Any : Sum := bSum 72 B_spec_l19Any
def S_spec_l19Any_tab : List (Nat × Sum) := [(47, S_spec_l19Made), (73, S_spec_l1Below), (116, S_spec_l1Int), (117, S_spec_l4Group), (118, S_spec_l18Key)]
theorem S_spec_l19Any_ok : FnOK Try.prog 72 S_spec_l19Any := by
 refine at_enterB (B := B_spec_l19Any) 53 (fun v y x => ⟨[(0, aP 1 0)], [(1, oX 109 [.ro (.u8 5) y.1, cI y.2.1, cI y.2.2]), (2, oP 1 v)]⟩) Try.func72 rfl (by kernel_rfl) (fun v y x => rfl) ?_
 rintro w0 Z0 b0 x0 ⟨u⟩ a w
 revert x0
 intro (x0 : T109) hpre hlens0 hlens h
 replace h : At w0 Z0 [b0] 53 ⟨[(0, aP 1 0)], [(1, oX 109 [.ro (.u8 5) x0.1, cI x0.2.1, cI x0.2.2]), (2, oP 1 (Value.pointer (some ⟨b0, 0, none⟩)))]⟩ a w := h
 replace hpre : Q_spec_l19Any x0 := hpre
 have hl1 : List.length x0.1 ≤ 9223372036854775807 := hlens0.1.1
 have hu0 : u8L x0.1 := hlens0.1.2
 have hT : TabOK Try.prog S_spec_l19Any_tab := (.cons S_spec_l19Made_ok (.cons S_spec_l1Below_ok (.cons S_spec_l1Int_ok (.cons S_spec_l4Group_ok (.cons S_spec_l18Key_ok .nil)))))
 obtain ⟨hm1, hm2, hm3, ms, msrc, hm4, hm5⟩ := madeD_ok hpre
 have hmb := below_ok (n := 12) hm1
 have hmv := validG_t hm2.1
 have hmz : (madeD x0).2.2.2.2.2.1 = ((List.length (madeD x0).2.1.2 : Nat) : Int) := by rw [hm5]; rfl
 have hmw : (madeD x0).2.2.2.2.2.2.1 = colsOf (madeD x0).2.1.2 := by rw [hm5]; rfl
 have hml : List.length (madeD x0).2.2.2.2.2.2.2.1 = List.length (madeD x0).2.1.2 := by rw [hm5]; show List.length (hashSyms _ _) = _; unfold hashSyms; rw [if_pos hm3, List.length_map]
 refine wp_seq ?_
 refine at_regq [{ ids := [3] }, { ids := [4] }, { ids := [5] }] { ts := [0, 2, 3, 4], os := [1, 2, 3, 4, 5] } [] gamOK hT h (by kernel_rfl) trivial fun a w h => then_normal (wp_seq ?_)
 refine at_regq [{}, { ids := [6, 7, 8] }, {}, {}, {}, {}, { ids := [9] }, { ids := [10] }, { ids := [11] }] { ts := [0, 2, 3, 4, 5, 6, 7], os := [1, 2, 3, 4, 5, 6, 7, 8, 9, 10, 11] } [B_spec_l19Made.pre x0 (())] gamOK hT h (by kernel_rfl) ⟨(by exact hpre), trivial⟩ fun a w h => then_normal (wp_seq (wp_seq ?_))
 refine at_regq [] { ts := [0, 2, 3, 4, 5, 6, 7, 15], os := [1, 2, 3, 4, 5, 6, 7, 8, 9, 10, 11] } [B_spec_l1Below.pre (madeD x0).1 (12, ())] gamOK hT h (by kernel_rfl) ⟨(by exact (madeD_ok hpre).1), trivial⟩ fun a w h => then_normal (wp_block (wp_seq ?_))
 refine at_regq [] { ts := [0, 2, 3, 4, 5, 6, 7, 15, 16], os := [1, 2, 3, 4, 5, 6, 7, 8, 9, 10, 11] } [] gamOK hT h (by kernel_rfl) trivial fun a w h => then_normal ?_
 refine at_test (decide ((belowC (madeD x0).1 12).2 = 0)) h (by kernel_rfl) (fun h1 => ?_) (fun h1 => ?_)
 ·replace h1 : (belowC (madeD x0).1 12).2 = 0 := of_decide_eq_true h1
  refine at_regq [{}, { ids := [12], frz := true }] { ts := [2, 3, 4, 5, 6, 7], os := [1, 2, 3, 4, 5, 6, 7, 8, 9, 10, 11] } [B_spec_l1Int.pre (belowC (madeD x0).1 12).1 ([(-1), 7, 8], ())] gamOK hT h (by kernel_rfl) ⟨(by exact ⟨(below_ok (madeD_ok hpre).1), by simp, by simp⟩), trivial⟩ fun a w h => in_normal (then_normal (wp_seq ?_))
  refine at_anyq [{}, {}, {}, {}, {}, {}] { ts := [2, 3, 4], os := [1, 2, 3, 4, 5, 6, 7, 8] } [] gamOK hT mixed h (by kernel_rfl) trivial fun a w h => then_normal (wp_ret ?_)
  have hr2 : (((pickC (belowC (madeD x0).1 12).1 ([(-1), 7, 8])).1, (madeD x0).2.1, (madeD x0).2.2.1, ((pickC (belowC (madeD x0).1 12).1 ([(-1), 7, 8])).2, (madeD x0).2.2.2.2)) : T109 × T26 × (List Int) × T31) = anyM x0 := by (unfold anyM; rw [if_pos h1])
  exact at_returnB (B := B_spec_l19Any) (c0 := x0) (x := (())) ((pickC (belowC (madeD x0).1 12).1 ([(-1), 7, 8])).1) ((madeD x0).2.1, ((madeD x0).2.2.1, (((pickC (belowC (madeD x0).1 12).1 ([(-1), 7, 8])).2, (madeD x0).2.2.2.2), ()))) [(Value.pointer (some ⟨b0, 0, none⟩)) = (Value.pointer (some ⟨b0, 0, none⟩))] h (by kernel_rfl) ⟨rfl, trivial⟩ (congrArg (a₁ := ((pickC (belowC (madeD x0).1 12).1 ([(-1), 7, 8])).1, (madeD x0).2.1, (madeD x0).2.2.1, ((pickC (belowC (madeD x0).1 12).1 ([(-1), 7, 8])).2, (madeD x0).2.2.2.2))) (a₂ := anyM x0) (fun (z : T109 × T26 × (List Int) × T31) => z.1) hr2) (congrArg (a₁ := ((pickC (belowC (madeD x0).1 12).1 ([(-1), 7, 8])).1, (madeD x0).2.1, (madeD x0).2.2.1, ((pickC (belowC (madeD x0).1 12).1 ([(-1), 7, 8])).2, (madeD x0).2.2.2.2))) (a₂ := anyM x0) (fun (z : T109 × T26 × (List Int) × T31) => (z.2.1, z.2.2.1, z.2.2.2, ())) hr2)
 ·replace h1 : ¬ ((belowC (madeD x0).1 12).2 = 0) := of_decide_eq_false h1
  refine wp_seq ?_
  refine at_regq [] { ts := [0, 2, 3, 4, 5, 6, 7, 15, 22], os := [1, 2, 3, 4, 5, 6, 7, 8, 9, 10, 11] } [] gamOK hT h (by kernel_rfl) trivial fun a w h => then_normal ?_
  refine at_test (decide ((belowC (madeD x0).1 12).2 = 1)) h (by kernel_rfl) (fun h3 => ?_) (fun h3 => ?_)
  ·replace h3 : (belowC (madeD x0).1 12).2 = 1 := of_decide_eq_true h3
   refine at_regq [{}, {}, {}, { nw := true }, { ids := [13], frz := true }] { ts := [2, 3, 4, 5, 6, 7], os := [1, 2, 3, 4, 5, 6, 7, 8, 9, 10, 11] } [I64 ((madeD x0).2.2.2.2.2.1 + 1), B_spec_l1Int.pre (belowC (madeD x0).1 12).1 ([0, (madeD x0).2.2.2.2.2.1 + 1, 9], ())] gamOK hT h (by kernel_rfl) ⟨⟨by first | omega | (simp only [lsA]; omega) | (simp <;> omega), by first | omega | (simp only [lsA]; omega) | (simp <;> omega)⟩, (by exact ⟨(below_ok (madeD_ok hpre).1), by simp, by simp⟩), trivial⟩ fun a w h => in_normal (then_normal (wp_seq ?_))
   refine at_anyq [{}, {}, {}, {}, {}, {}] { ts := [2, 3, 4], os := [1, 2, 3, 4, 5, 6, 7, 8] } [] gamOK hT mixed h (by kernel_rfl) trivial fun a w h => then_normal (wp_ret ?_)
   have hr4 : (((pickC (belowC (madeD x0).1 12).1 ([0, (madeD x0).2.2.2.2.2.1 + 1, 9])).1, (madeD x0).2.1, (madeD x0).2.2.1, ((madeD x0).2.2.2.1, ((madeD x0).2.2.2.2.1, ((pickC (belowC (madeD x0).1 12).1 ([0, (madeD x0).2.2.2.2.2.1 + 1, 9])).2, (madeD x0).2.2.2.2.2.2)))) : T109 × T26 × (List Int) × T31) = anyM x0 := by (unfold anyM; rw [if_neg h1, if_pos h3])
   exact at_returnB (B := B_spec_l19Any) (c0 := x0) (x := (())) ((pickC (belowC (madeD x0).1 12).1 ([0, (madeD x0).2.2.2.2.2.1 + 1, 9])).1) ((madeD x0).2.1, ((madeD x0).2.2.1, (((madeD x0).2.2.2.1, ((madeD x0).2.2.2.2.1, ((pickC (belowC (madeD x0).1 12).1 ([0, (madeD x0).2.2.2.2.2.1 + 1, 9])).2, (madeD x0).2.2.2.2.2.2))), ()))) [(Value.pointer (some ⟨b0, 0, none⟩)) = (Value.pointer (some ⟨b0, 0, none⟩))] h (by kernel_rfl) ⟨rfl, trivial⟩ (congrArg (a₁ := ((pickC (belowC (madeD x0).1 12).1 ([0, (madeD x0).2.2.2.2.2.1 + 1, 9])).1, (madeD x0).2.1, (madeD x0).2.2.1, ((madeD x0).2.2.2.1, ((madeD x0).2.2.2.2.1, ((pickC (belowC (madeD x0).1 12).1 ([0, (madeD x0).2.2.2.2.2.1 + 1, 9])).2, (madeD x0).2.2.2.2.2.2))))) (a₂ := anyM x0) (fun (z : T109 × T26 × (List Int) × T31) => z.1) hr4) (congrArg (a₁ := ((pickC (belowC (madeD x0).1 12).1 ([0, (madeD x0).2.2.2.2.2.1 + 1, 9])).1, (madeD x0).2.1, (madeD x0).2.2.1, ((madeD x0).2.2.2.1, ((madeD x0).2.2.2.2.1, ((pickC (belowC (madeD x0).1 12).1 ([0, (madeD x0).2.2.2.2.2.1 + 1, 9])).2, (madeD x0).2.2.2.2.2.2))))) (a₂ := anyM x0) (fun (z : T109 × T26 × (List Int) × T31) => (z.2.1, z.2.2.1, z.2.2.2, ())) hr4)
  ·replace h3 : ¬ ((belowC (madeD x0).1 12).2 = 1) := of_decide_eq_false h3
   refine wp_seq ?_
   refine at_regq [] { ts := [0, 2, 3, 4, 5, 6, 7, 15, 31], os := [1, 2, 3, 4, 5, 6, 7, 8, 9, 10, 11] } [] gamOK hT h (by kernel_rfl) trivial fun a w h => then_normal ?_
   refine at_test (decide ((belowC (madeD x0).1 12).2 = 2)) h (by kernel_rfl) (fun h5 => ?_) (fun h5 => ?_)
   ·replace h5 : (belowC (madeD x0).1 12).2 = 2 := of_decide_eq_true h5
    refine at_anyq [{}, {}, {}, {}, {}, {}] { ts := [2, 3, 4, 5, 6, 7], os := [1, 2, 3, 4, 5, 6, 7, 8, 9, 10, 11] } [B_spec_l4Group.pre (belowC (madeD x0).1 12).1 (()), (0 : Int) ≤ 0 ∧ 0 < ((List.length (madeD x0).2.2.2.2.2.2.2.1 : Nat) : Int), 0 < List.length (madeD x0).2.2.2.2.2.2.2.1] gamOK hT mixed h (by kernel_rfl) ⟨(by exact (below_ok (madeD_ok hpre).1)), (by refine ⟨?_, ?_⟩ <;> (first | omega | (simp only [lsA]; omega) | (simp <;> omega))), (by first | omega | (simp only [lsA]; omega) | (simp <;> omega)), trivial⟩ fun a w h => in_normal (then_normal (wp_seq ?_))
    refine at_anyq [{}, {}, {}, {}, {}, {}] { ts := [2, 3, 4], os := [1, 2, 3, 4, 5, 6, 7, 8] } [] gamOK hT mixed h (by kernel_rfl) trivial fun a w h => then_normal (wp_ret ?_)
    have hr6 : (((grpE (belowC (madeD x0).1 12).1).1, (madeD x0).2.1, (madeD x0).2.2.1, ((madeD x0).2.2.2.1, ((madeD x0).2.2.2.2.1, ((madeD x0).2.2.2.2.2.1, ((madeD x0).2.2.2.2.2.2.1, ((List.set (madeD x0).2.2.2.2.2.2.2.1 0 (grpE (belowC (madeD x0).1 12).1).2), (madeD x0).2.2.2.2.2.2.2.2)))))) : T109 × T26 × (List Int) × T31) = anyM x0 := by (unfold anyM; rw [if_neg h1, if_neg h3, if_pos h5])
    exact at_returnB (B := B_spec_l19Any) (c0 := x0) (x := (())) ((grpE (belowC (madeD x0).1 12).1).1) ((madeD x0).2.1, ((madeD x0).2.2.1, (((madeD x0).2.2.2.1, ((madeD x0).2.2.2.2.1, ((madeD x0).2.2.2.2.2.1, ((madeD x0).2.2.2.2.2.2.1, ((List.set (madeD x0).2.2.2.2.2.2.2.1 0 (grpE (belowC (madeD x0).1 12).1).2), (madeD x0).2.2.2.2.2.2.2.2))))), ()))) [(Value.pointer (some ⟨b0, 0, none⟩)) = (Value.pointer (some ⟨b0, 0, none⟩))] h (by kernel_rfl) ⟨rfl, trivial⟩ (congrArg (a₁ := ((grpE (belowC (madeD x0).1 12).1).1, (madeD x0).2.1, (madeD x0).2.2.1, ((madeD x0).2.2.2.1, ((madeD x0).2.2.2.2.1, ((madeD x0).2.2.2.2.2.1, ((madeD x0).2.2.2.2.2.2.1, ((List.set (madeD x0).2.2.2.2.2.2.2.1 0 (grpE (belowC (madeD x0).1 12).1).2), (madeD x0).2.2.2.2.2.2.2.2))))))) (a₂ := anyM x0) (fun (z : T109 × T26 × (List Int) × T31) => z.1) hr6) (congrArg (a₁ := ((grpE (belowC (madeD x0).1 12).1).1, (madeD x0).2.1, (madeD x0).2.2.1, ((madeD x0).2.2.2.1, ((madeD x0).2.2.2.2.1, ((madeD x0).2.2.2.2.2.1, ((madeD x0).2.2.2.2.2.2.1, ((List.set (madeD x0).2.2.2.2.2.2.2.1 0 (grpE (belowC (madeD x0).1 12).1).2), (madeD x0).2.2.2.2.2.2.2.2))))))) (a₂ := anyM x0) (fun (z : T109 × T26 × (List Int) × T31) => (z.2.1, z.2.2.1, z.2.2.2, ())) hr6)
   ·replace h5 : ¬ ((belowC (madeD x0).1 12).2 = 2) := of_decide_eq_false h5
    refine wp_seq ?_
    refine at_regq [] { ts := [0, 2, 3, 4, 5, 6, 7, 15, 38], os := [1, 2, 3, 4, 5, 6, 7, 8, 9, 10, 11] } [] gamOK hT h (by kernel_rfl) trivial fun a w h => then_normal ?_
    refine at_test (decide ((belowC (madeD x0).1 12).2 = 3)) h (by kernel_rfl) (fun h7 => ?_) (fun h7 => ?_)
    ·replace h7 : (belowC (madeD x0).1 12).2 = 3 := of_decide_eq_true h7
     refine at_regq [{}, { ids := [14], frz := true }] { ts := [2, 3, 4, 5, 6, 7], os := [1, 2, 3, 4, 5, 6, 7, 8, 9, 10, 11] } [B_spec_l1Int.pre (belowC (madeD x0).1 12).1 ([(-1), 5, 2147483646, 2147483647], ())] gamOK hT h (by kernel_rfl) ⟨(by exact ⟨(below_ok (madeD_ok hpre).1), by simp, by simp⟩), trivial⟩ fun a w h => in_normal (then_normal (wp_seq ?_))
     refine at_anyq [{}, {}, {}, {}, {}, {}] { ts := [2, 3, 4], os := [1, 2, 3, 4, 5, 6, 7, 8] } [] gamOK hT mixed h (by kernel_rfl) trivial fun a w h => then_normal (wp_ret ?_)
     have hr8 : (((pickC (belowC (madeD x0).1 12).1 ([(-1), 5, 2147483646, 2147483647])).1, (madeD x0).2.1, (madeD x0).2.2.1, ((madeD x0).2.2.2.1, ((madeD x0).2.2.2.2.1, ((madeD x0).2.2.2.2.2.1, ((madeD x0).2.2.2.2.2.2.1, ((madeD x0).2.2.2.2.2.2.2.1, (pickC (belowC (madeD x0).1 12).1 ([(-1), 5, 2147483646, 2147483647])).2)))))) : T109 × T26 × (List Int) × T31) = anyM x0 := by (unfold anyM; rw [if_neg h1, if_neg h3, if_neg h5, if_pos h7])
     exact at_returnB (B := B_spec_l19Any) (c0 := x0) (x := (())) ((pickC (belowC (madeD x0).1 12).1 ([(-1), 5, 2147483646, 2147483647])).1) ((madeD x0).2.1, ((madeD x0).2.2.1, (((madeD x0).2.2.2.1, ((madeD x0).2.2.2.2.1, ((madeD x0).2.2.2.2.2.1, ((madeD x0).2.2.2.2.2.2.1, ((madeD x0).2.2.2.2.2.2.2.1, (pickC (belowC (madeD x0).1 12).1 ([(-1), 5, 2147483646, 2147483647])).2))))), ()))) [(Value.pointer (some ⟨b0, 0, none⟩)) = (Value.pointer (some ⟨b0, 0, none⟩))] h (by kernel_rfl) ⟨rfl, trivial⟩ (congrArg (a₁ := ((pickC (belowC (madeD x0).1 12).1 ([(-1), 5, 2147483646, 2147483647])).1, (madeD x0).2.1, (madeD x0).2.2.1, ((madeD x0).2.2.2.1, ((madeD x0).2.2.2.2.1, ((madeD x0).2.2.2.2.2.1, ((madeD x0).2.2.2.2.2.2.1, ((madeD x0).2.2.2.2.2.2.2.1, (pickC (belowC (madeD x0).1 12).1 ([(-1), 5, 2147483646, 2147483647])).2))))))) (a₂ := anyM x0) (fun (z : T109 × T26 × (List Int) × T31) => z.1) hr8) (congrArg (a₁ := ((pickC (belowC (madeD x0).1 12).1 ([(-1), 5, 2147483646, 2147483647])).1, (madeD x0).2.1, (madeD x0).2.2.1, ((madeD x0).2.2.2.1, ((madeD x0).2.2.2.2.1, ((madeD x0).2.2.2.2.2.1, ((madeD x0).2.2.2.2.2.2.1, ((madeD x0).2.2.2.2.2.2.2.1, (pickC (belowC (madeD x0).1 12).1 ([(-1), 5, 2147483646, 2147483647])).2))))))) (a₂ := anyM x0) (fun (z : T109 × T26 × (List Int) × T31) => (z.2.1, z.2.2.1, z.2.2.2, ())) hr8)
    ·replace h7 : ¬ ((belowC (madeD x0).1 12).2 = 3) := of_decide_eq_false h7
     refine wp_seq ?_
     refine at_regq [] { ts := [0, 2, 3, 4, 5, 6, 7, 44], os := [1, 2, 3, 4, 5, 6, 7, 8, 9, 10, 11] } [] gamOK hT h (by kernel_rfl) trivial fun a w h => then_normal ?_
     refine at_test (decide ((belowC (madeD x0).1 12).2 = 4)) h (by kernel_rfl) (fun h9 => ?_) (fun h9 => ?_)
     ·replace h9 : (belowC (madeD x0).1 12).2 = 4 := of_decide_eq_true h9
      refine at_regq [{}, {}, {}, { ids := [15] }] { ts := [2, 3, 4, 5, 6, 7], os := [1, 2, 3, 4, 5, 6, 8, 9, 10, 11, 15] } [B_spec_l18Key.pre (belowC (madeD x0).1 12).1 ((madeD x0).2.2.2.2.2.2.1, ())] gamOK hT h (by kernel_rfl) ⟨(by exact (below_ok (madeD_ok hpre).1)), trivial⟩ fun a w h => in_normal (then_normal (wp_seq ?_))
      refine at_anyq [{}, {}, {}, {}, {}, {}] { ts := [2, 3, 4], os := [1, 2, 3, 4, 5, 6, 8, 15] } [] gamOK hT mixed h (by kernel_rfl) trivial fun a w h => then_normal (wp_ret ?_)
      have hr10 : (((keyE (belowC (madeD x0).1 12).1 (madeD x0).2.2.2.2.2.2.1).1, (madeD x0).2.1, (keyE (belowC (madeD x0).1 12).1 (madeD x0).2.2.2.2.2.2.1).2, (madeD x0).2.2.2) : T109 × T26 × (List Int) × T31) = anyM x0 := by (unfold anyM; rw [if_neg h1, if_neg h3, if_neg h5, if_neg h7, if_pos h9])
      exact at_returnB (B := B_spec_l19Any) (c0 := x0) (x := (())) ((keyE (belowC (madeD x0).1 12).1 (madeD x0).2.2.2.2.2.2.1).1) ((madeD x0).2.1, ((keyE (belowC (madeD x0).1 12).1 (madeD x0).2.2.2.2.2.2.1).2, ((madeD x0).2.2.2, ()))) [(Value.pointer (some ⟨b0, 0, none⟩)) = (Value.pointer (some ⟨b0, 0, none⟩))] h (by kernel_rfl) ⟨rfl, trivial⟩ (congrArg (a₁ := ((keyE (belowC (madeD x0).1 12).1 (madeD x0).2.2.2.2.2.2.1).1, (madeD x0).2.1, (keyE (belowC (madeD x0).1 12).1 (madeD x0).2.2.2.2.2.2.1).2, (madeD x0).2.2.2)) (a₂ := anyM x0) (fun (z : T109 × T26 × (List Int) × T31) => z.1) hr10) (congrArg (a₁ := ((keyE (belowC (madeD x0).1 12).1 (madeD x0).2.2.2.2.2.2.1).1, (madeD x0).2.1, (keyE (belowC (madeD x0).1 12).1 (madeD x0).2.2.2.2.2.2.1).2, (madeD x0).2.2.2)) (a₂ := anyM x0) (fun (z : T109 × T26 × (List Int) × T31) => (z.2.1, z.2.2.1, z.2.2.2, ())) hr10)
     ·replace h9 : ¬ ((belowC (madeD x0).1 12).2 = 4) := of_decide_eq_false h9
      refine wp_skip (in_normal (then_normal (wp_seq ?_)))
      refine at_anyq [{}, {}, {}, {}, {}, {}] { ts := [2, 3, 4], os := [1, 2, 3, 4, 5, 6, 7, 8] } [] gamOK hT mixed h (by kernel_rfl) trivial fun a w h => then_normal (wp_ret ?_)
      have hr11 : (((belowC (madeD x0).1 12).1, (madeD x0).2.1, (madeD x0).2.2.1, (madeD x0).2.2.2) : T109 × T26 × (List Int) × T31) = anyM x0 := by (unfold anyM; rw [if_neg h1, if_neg h3, if_neg h5, if_neg h7, if_neg h9])
      exact at_returnB (B := B_spec_l19Any) (c0 := x0) (x := (())) ((belowC (madeD x0).1 12).1) ((madeD x0).2.1, ((madeD x0).2.2.1, ((madeD x0).2.2.2, ()))) [(Value.pointer (some ⟨b0, 0, none⟩)) = (Value.pointer (some ⟨b0, 0, none⟩))] h (by kernel_rfl) ⟨rfl, trivial⟩ (congrArg (a₁ := ((belowC (madeD x0).1 12).1, (madeD x0).2.1, (madeD x0).2.2.1, (madeD x0).2.2.2)) (a₂ := anyM x0) (fun (z : T109 × T26 × (List Int) × T31) => z.1) hr11) (congrArg (a₁ := ((belowC (madeD x0).1 12).1, (madeD x0).2.1, (madeD x0).2.2.1, (madeD x0).2.2.2)) (a₂ := anyM x0) (fun (z : T109 × T26 × (List Int) × T31) => (z.2.1, z.2.2.1, z.2.2.2, ())) hr11)
theorem anyM_ok {x : T109} (h : 0 ≤ x.2.1) : 0 ≤ (anyM x).1.2.1 ∧ validG (anyM x).2.1 = true ∧ List.length (anyM x).2.2.1 ≤ 17 ∧ List.length (anyM x).2.2.2.2.2.2.2.1 ≤ 8 := by
 obtain ⟨hm1, hm2, hm3, ms, msrc, hm4, hm5⟩ := madeD_ok h
 have hmb := below_ok (n := 12) hm1
 have hmv := validG_t hm2.1
 have hml : List.length (madeD x).2.2.2.2.2.2.2.1 = List.length (madeD x).2.1.2 := by rw [hm5]; show List.length (hashSyms _ _) = _; unfold hashSyms; rw [if_pos hm3, List.length_map]
 have hkl := (validK_t hm3.1).1
 unfold anyM
 (repeat' split) <;> refine ⟨?_, hm2.1, ?_, ?_⟩ <;> first
  | exact pickC_ok hmb
  | exact grpE_ok hmb
  | exact (keyE_ok hmb).1
  | exact hmb
  | (have := (keyE_ok (n := (madeD x).2.2.2.2.2.2.1) hmb).2; dsimp only; omega)
  | (dsimp only; omega)
  | (simp; omega)

theorem linkMAC_bd (k : Int) (l : T53) : 0 ≤ linkMAC k l ∧ linkMAC k l < 2147483647 := keyed_bd _ _
theorem sendMAC_lo {m f t r : Int} {p : T42} : -9223372036854775808 ≤ (sendOnLink m f t r p).2.2.2.2 + 1 := by
 have := linkMAC_bd (nodeKey m f) (f, t, r, p, 0)
 show _ ≤ linkMAC (nodeKey m f) (f, t, r, p, 0) + 1; omega
theorem sendMAC_hi {m f t r : Int} {p : T42} : (sendOnLink m f t r p).2.2.2.2 + 1 ≤ 9223372036854775807 := by
 have := linkMAC_bd (nodeKey m f) (f, t, r, p, 0)
 show linkMAC (nodeKey m f) (f, t, r, p, 0) + 1 ≤ _; omega
theorem sendFrom_lo {m f t r : Int} {p : T42} (h : 0 ≤ f ∧ f < 4) : -9223372036854775808 ≤ (sendOnLink m f t r p).1 + 1 := by show _ ≤ f + 1; omega
theorem sendFrom_hi {m f t r : Int} {p : T42} (h : 0 ≤ f ∧ f < 4) : (sendOnLink m f t r p).1 + 1 ≤ 9223372036854775807 := by show f + 1 ≤ _; omega
@[irreducible]
def linkD (x0 : T109) (x1 : Int) (x2 : T26) : T109 × T53 := (if (onceC (pktD x0 x2).1 3).2 = true then (if (onceC (belowC (onceC (pktD x0 x2).1 3).1 9).1 8).2 = true then (if (belowC (belowC (belowC (belowC (anyP (onceC (belowC (onceC (pktD x0 x2).1 3).1 9).1 8).1 x2).1 4).1 4).1 6).1 8).2 = 0 then ((belowC (belowC (belowC (belowC (anyP (onceC (belowC (onceC (pktD x0 x2).1 3).1 9).1 8).1 x2).1 4).1 4).1 6).1 8).1, ((sendOnLink x1 (belowC (anyP (onceC (belowC (onceC (pktD x0 x2).1 3).1 9).1 8).1 x2).1 4).2 (belowC (belowC (anyP (onceC (belowC (onceC (pktD x0 x2).1 3).1 9).1 8).1 x2).1 4).1 4).2 (belowC (belowC (belowC (anyP (onceC (belowC (onceC (pktD x0 x2).1 3).1 9).1 8).1 x2).1 4).1 4).1 6).2 (anyP (onceC (belowC (onceC (pktD x0 x2).1 3).1 9).1 8).1 x2).2).1, ((sendOnLink x1 (belowC (anyP (onceC (belowC (onceC (pktD x0 x2).1 3).1 9).1 8).1 x2).1 4).2 (belowC (belowC (anyP (onceC (belowC (onceC (pktD x0 x2).1 3).1 9).1 8).1 x2).1 4).1 4).2 (belowC (belowC (belowC (anyP (onceC (belowC (onceC (pktD x0 x2).1 3).1 9).1 8).1 x2).1 4).1 4).1 6).2 (anyP (onceC (belowC (onceC (pktD x0 x2).1 3).1 9).1 8).1 x2).2).2.1, ((sendOnLink x1 (belowC (anyP (onceC (belowC (onceC (pktD x0 x2).1 3).1 9).1 8).1 x2).1 4).2 (belowC (belowC (anyP (onceC (belowC (onceC (pktD x0 x2).1 3).1 9).1 8).1 x2).1 4).1 4).2 (belowC (belowC (belowC (anyP (onceC (belowC (onceC (pktD x0 x2).1 3).1 9).1 8).1 x2).1 4).1 4).1 6).2 (anyP (onceC (belowC (onceC (pktD x0 x2).1 3).1 9).1 8).1 x2).2).2.2.1, ((sendOnLink x1 (belowC (anyP (onceC (belowC (onceC (pktD x0 x2).1 3).1 9).1 8).1 x2).1 4).2 (belowC (belowC (anyP (onceC (belowC (onceC (pktD x0 x2).1 3).1 9).1 8).1 x2).1 4).1 4).2 (belowC (belowC (belowC (anyP (onceC (belowC (onceC (pktD x0 x2).1 3).1 9).1 8).1 x2).1 4).1 4).1 6).2 (anyP (onceC (belowC (onceC (pktD x0 x2).1 3).1 9).1 8).1 x2).2).2.2.2.1, (sendOnLink x1 (belowC (anyP (onceC (belowC (onceC (pktD x0 x2).1 3).1 9).1 8).1 x2).1 4).2 (belowC (belowC (anyP (onceC (belowC (onceC (pktD x0 x2).1 3).1 9).1 8).1 x2).1 4).1 4).2 (belowC (belowC (belowC (anyP (onceC (belowC (onceC (pktD x0 x2).1 3).1 9).1 8).1 x2).1 4).1 4).1 6).2 (anyP (onceC (belowC (onceC (pktD x0 x2).1 3).1 9).1 8).1 x2).2).2.2.2.2 + 1))))) else (if (belowC (belowC (belowC (belowC (anyP (onceC (belowC (onceC (pktD x0 x2).1 3).1 9).1 8).1 x2).1 4).1 4).1 6).1 8).2 = 1 then ((belowC (belowC (belowC (belowC (anyP (onceC (belowC (onceC (pktD x0 x2).1 3).1 9).1 8).1 x2).1 4).1 4).1 6).1 8).1, ((sendOnLink x1 (belowC (anyP (onceC (belowC (onceC (pktD x0 x2).1 3).1 9).1 8).1 x2).1 4).2 (belowC (belowC (anyP (onceC (belowC (onceC (pktD x0 x2).1 3).1 9).1 8).1 x2).1 4).1 4).2 (belowC (belowC (belowC (anyP (onceC (belowC (onceC (pktD x0 x2).1 3).1 9).1 8).1 x2).1 4).1 4).1 6).2 (anyP (onceC (belowC (onceC (pktD x0 x2).1 3).1 9).1 8).1 x2).2).1 + 1, (sendOnLink x1 (belowC (anyP (onceC (belowC (onceC (pktD x0 x2).1 3).1 9).1 8).1 x2).1 4).2 (belowC (belowC (anyP (onceC (belowC (onceC (pktD x0 x2).1 3).1 9).1 8).1 x2).1 4).1 4).2 (belowC (belowC (belowC (anyP (onceC (belowC (onceC (pktD x0 x2).1 3).1 9).1 8).1 x2).1 4).1 4).1 6).2 (anyP (onceC (belowC (onceC (pktD x0 x2).1 3).1 9).1 8).1 x2).2).2)) else ((belowC (belowC (belowC (belowC (anyP (onceC (belowC (onceC (pktD x0 x2).1 3).1 9).1 8).1 x2).1 4).1 4).1 6).1 8).1, (sendOnLink x1 (belowC (anyP (onceC (belowC (onceC (pktD x0 x2).1 3).1 9).1 8).1 x2).1 4).2 (belowC (belowC (anyP (onceC (belowC (onceC (pktD x0 x2).1 3).1 9).1 8).1 x2).1 4).1 4).2 (belowC (belowC (belowC (anyP (onceC (belowC (onceC (pktD x0 x2).1 3).1 9).1 8).1 x2).1 4).1 4).1 6).2 (anyP (onceC (belowC (onceC (pktD x0 x2).1 3).1 9).1 8).1 x2).2)))) else (if (belowC (belowC (belowC (belowC (onceC (belowC (onceC (pktD x0 x2).1 3).1 9).1 8).1 4).1 4).1 6).1 8).2 = 0 then ((belowC (belowC (belowC (belowC (onceC (belowC (onceC (pktD x0 x2).1 3).1 9).1 8).1 4).1 4).1 6).1 8).1, ((sendOnLink x1 (belowC (onceC (belowC (onceC (pktD x0 x2).1 3).1 9).1 8).1 4).2 (belowC (belowC (onceC (belowC (onceC (pktD x0 x2).1 3).1 9).1 8).1 4).1 4).2 (belowC (belowC (belowC (onceC (belowC (onceC (pktD x0 x2).1 3).1 9).1 8).1 4).1 4).1 6).2 ((pktD x0 x2).2.1, ((pktD x0 x2).2.2.1, (List.set (pktD x0 x2).2.2.2 0 (Int.tmod ((((pktD x0 x2).2.2.2.getD 0 0) + 1) + (belowC (onceC (pktD x0 x2).1 3).1 9).2) 1019))))).1, ((sendOnLink x1 (belowC (onceC (belowC (onceC (pktD x0 x2).1 3).1 9).1 8).1 4).2 (belowC (belowC (onceC (belowC (onceC (pktD x0 x2).1 3).1 9).1 8).1 4).1 4).2 (belowC (belowC (belowC (onceC (belowC (onceC (pktD x0 x2).1 3).1 9).1 8).1 4).1 4).1 6).2 ((pktD x0 x2).2.1, ((pktD x0 x2).2.2.1, (List.set (pktD x0 x2).2.2.2 0 (Int.tmod ((((pktD x0 x2).2.2.2.getD 0 0) + 1) + (belowC (onceC (pktD x0 x2).1 3).1 9).2) 1019))))).2.1, ((sendOnLink x1 (belowC (onceC (belowC (onceC (pktD x0 x2).1 3).1 9).1 8).1 4).2 (belowC (belowC (onceC (belowC (onceC (pktD x0 x2).1 3).1 9).1 8).1 4).1 4).2 (belowC (belowC (belowC (onceC (belowC (onceC (pktD x0 x2).1 3).1 9).1 8).1 4).1 4).1 6).2 ((pktD x0 x2).2.1, ((pktD x0 x2).2.2.1, (List.set (pktD x0 x2).2.2.2 0 (Int.tmod ((((pktD x0 x2).2.2.2.getD 0 0) + 1) + (belowC (onceC (pktD x0 x2).1 3).1 9).2) 1019))))).2.2.1, ((sendOnLink x1 (belowC (onceC (belowC (onceC (pktD x0 x2).1 3).1 9).1 8).1 4).2 (belowC (belowC (onceC (belowC (onceC (pktD x0 x2).1 3).1 9).1 8).1 4).1 4).2 (belowC (belowC (belowC (onceC (belowC (onceC (pktD x0 x2).1 3).1 9).1 8).1 4).1 4).1 6).2 ((pktD x0 x2).2.1, ((pktD x0 x2).2.2.1, (List.set (pktD x0 x2).2.2.2 0 (Int.tmod ((((pktD x0 x2).2.2.2.getD 0 0) + 1) + (belowC (onceC (pktD x0 x2).1 3).1 9).2) 1019))))).2.2.2.1, (sendOnLink x1 (belowC (onceC (belowC (onceC (pktD x0 x2).1 3).1 9).1 8).1 4).2 (belowC (belowC (onceC (belowC (onceC (pktD x0 x2).1 3).1 9).1 8).1 4).1 4).2 (belowC (belowC (belowC (onceC (belowC (onceC (pktD x0 x2).1 3).1 9).1 8).1 4).1 4).1 6).2 ((pktD x0 x2).2.1, ((pktD x0 x2).2.2.1, (List.set (pktD x0 x2).2.2.2 0 (Int.tmod ((((pktD x0 x2).2.2.2.getD 0 0) + 1) + (belowC (onceC (pktD x0 x2).1 3).1 9).2) 1019))))).2.2.2.2 + 1))))) else (if (belowC (belowC (belowC (belowC (onceC (belowC (onceC (pktD x0 x2).1 3).1 9).1 8).1 4).1 4).1 6).1 8).2 = 1 then ((belowC (belowC (belowC (belowC (onceC (belowC (onceC (pktD x0 x2).1 3).1 9).1 8).1 4).1 4).1 6).1 8).1, ((sendOnLink x1 (belowC (onceC (belowC (onceC (pktD x0 x2).1 3).1 9).1 8).1 4).2 (belowC (belowC (onceC (belowC (onceC (pktD x0 x2).1 3).1 9).1 8).1 4).1 4).2 (belowC (belowC (belowC (onceC (belowC (onceC (pktD x0 x2).1 3).1 9).1 8).1 4).1 4).1 6).2 ((pktD x0 x2).2.1, ((pktD x0 x2).2.2.1, (List.set (pktD x0 x2).2.2.2 0 (Int.tmod ((((pktD x0 x2).2.2.2.getD 0 0) + 1) + (belowC (onceC (pktD x0 x2).1 3).1 9).2) 1019))))).1 + 1, (sendOnLink x1 (belowC (onceC (belowC (onceC (pktD x0 x2).1 3).1 9).1 8).1 4).2 (belowC (belowC (onceC (belowC (onceC (pktD x0 x2).1 3).1 9).1 8).1 4).1 4).2 (belowC (belowC (belowC (onceC (belowC (onceC (pktD x0 x2).1 3).1 9).1 8).1 4).1 4).1 6).2 ((pktD x0 x2).2.1, ((pktD x0 x2).2.2.1, (List.set (pktD x0 x2).2.2.2 0 (Int.tmod ((((pktD x0 x2).2.2.2.getD 0 0) + 1) + (belowC (onceC (pktD x0 x2).1 3).1 9).2) 1019))))).2)) else ((belowC (belowC (belowC (belowC (onceC (belowC (onceC (pktD x0 x2).1 3).1 9).1 8).1 4).1 4).1 6).1 8).1, (sendOnLink x1 (belowC (onceC (belowC (onceC (pktD x0 x2).1 3).1 9).1 8).1 4).2 (belowC (belowC (onceC (belowC (onceC (pktD x0 x2).1 3).1 9).1 8).1 4).1 4).2 (belowC (belowC (belowC (onceC (belowC (onceC (pktD x0 x2).1 3).1 9).1 8).1 4).1 4).1 6).2 ((pktD x0 x2).2.1, ((pktD x0 x2).2.2.1, (List.set (pktD x0 x2).2.2.2 0 (Int.tmod ((((pktD x0 x2).2.2.2.getD 0 0) + 1) + (belowC (onceC (pktD x0 x2).1 3).1 9).2) 1019))))))))) else (if (onceC (onceC (pktD x0 x2).1 3).1 8).2 = true then (if (belowC (belowC (belowC (belowC (anyP (onceC (onceC (pktD x0 x2).1 3).1 8).1 x2).1 4).1 4).1 6).1 8).2 = 0 then ((belowC (belowC (belowC (belowC (anyP (onceC (onceC (pktD x0 x2).1 3).1 8).1 x2).1 4).1 4).1 6).1 8).1, ((sendOnLink x1 (belowC (anyP (onceC (onceC (pktD x0 x2).1 3).1 8).1 x2).1 4).2 (belowC (belowC (anyP (onceC (onceC (pktD x0 x2).1 3).1 8).1 x2).1 4).1 4).2 (belowC (belowC (belowC (anyP (onceC (onceC (pktD x0 x2).1 3).1 8).1 x2).1 4).1 4).1 6).2 (anyP (onceC (onceC (pktD x0 x2).1 3).1 8).1 x2).2).1, ((sendOnLink x1 (belowC (anyP (onceC (onceC (pktD x0 x2).1 3).1 8).1 x2).1 4).2 (belowC (belowC (anyP (onceC (onceC (pktD x0 x2).1 3).1 8).1 x2).1 4).1 4).2 (belowC (belowC (belowC (anyP (onceC (onceC (pktD x0 x2).1 3).1 8).1 x2).1 4).1 4).1 6).2 (anyP (onceC (onceC (pktD x0 x2).1 3).1 8).1 x2).2).2.1, ((sendOnLink x1 (belowC (anyP (onceC (onceC (pktD x0 x2).1 3).1 8).1 x2).1 4).2 (belowC (belowC (anyP (onceC (onceC (pktD x0 x2).1 3).1 8).1 x2).1 4).1 4).2 (belowC (belowC (belowC (anyP (onceC (onceC (pktD x0 x2).1 3).1 8).1 x2).1 4).1 4).1 6).2 (anyP (onceC (onceC (pktD x0 x2).1 3).1 8).1 x2).2).2.2.1, ((sendOnLink x1 (belowC (anyP (onceC (onceC (pktD x0 x2).1 3).1 8).1 x2).1 4).2 (belowC (belowC (anyP (onceC (onceC (pktD x0 x2).1 3).1 8).1 x2).1 4).1 4).2 (belowC (belowC (belowC (anyP (onceC (onceC (pktD x0 x2).1 3).1 8).1 x2).1 4).1 4).1 6).2 (anyP (onceC (onceC (pktD x0 x2).1 3).1 8).1 x2).2).2.2.2.1, (sendOnLink x1 (belowC (anyP (onceC (onceC (pktD x0 x2).1 3).1 8).1 x2).1 4).2 (belowC (belowC (anyP (onceC (onceC (pktD x0 x2).1 3).1 8).1 x2).1 4).1 4).2 (belowC (belowC (belowC (anyP (onceC (onceC (pktD x0 x2).1 3).1 8).1 x2).1 4).1 4).1 6).2 (anyP (onceC (onceC (pktD x0 x2).1 3).1 8).1 x2).2).2.2.2.2 + 1))))) else (if (belowC (belowC (belowC (belowC (anyP (onceC (onceC (pktD x0 x2).1 3).1 8).1 x2).1 4).1 4).1 6).1 8).2 = 1 then ((belowC (belowC (belowC (belowC (anyP (onceC (onceC (pktD x0 x2).1 3).1 8).1 x2).1 4).1 4).1 6).1 8).1, ((sendOnLink x1 (belowC (anyP (onceC (onceC (pktD x0 x2).1 3).1 8).1 x2).1 4).2 (belowC (belowC (anyP (onceC (onceC (pktD x0 x2).1 3).1 8).1 x2).1 4).1 4).2 (belowC (belowC (belowC (anyP (onceC (onceC (pktD x0 x2).1 3).1 8).1 x2).1 4).1 4).1 6).2 (anyP (onceC (onceC (pktD x0 x2).1 3).1 8).1 x2).2).1 + 1, (sendOnLink x1 (belowC (anyP (onceC (onceC (pktD x0 x2).1 3).1 8).1 x2).1 4).2 (belowC (belowC (anyP (onceC (onceC (pktD x0 x2).1 3).1 8).1 x2).1 4).1 4).2 (belowC (belowC (belowC (anyP (onceC (onceC (pktD x0 x2).1 3).1 8).1 x2).1 4).1 4).1 6).2 (anyP (onceC (onceC (pktD x0 x2).1 3).1 8).1 x2).2).2)) else ((belowC (belowC (belowC (belowC (anyP (onceC (onceC (pktD x0 x2).1 3).1 8).1 x2).1 4).1 4).1 6).1 8).1, (sendOnLink x1 (belowC (anyP (onceC (onceC (pktD x0 x2).1 3).1 8).1 x2).1 4).2 (belowC (belowC (anyP (onceC (onceC (pktD x0 x2).1 3).1 8).1 x2).1 4).1 4).2 (belowC (belowC (belowC (anyP (onceC (onceC (pktD x0 x2).1 3).1 8).1 x2).1 4).1 4).1 6).2 (anyP (onceC (onceC (pktD x0 x2).1 3).1 8).1 x2).2)))) else (if (belowC (belowC (belowC (belowC (onceC (onceC (pktD x0 x2).1 3).1 8).1 4).1 4).1 6).1 8).2 = 0 then ((belowC (belowC (belowC (belowC (onceC (onceC (pktD x0 x2).1 3).1 8).1 4).1 4).1 6).1 8).1, ((sendOnLink x1 (belowC (onceC (onceC (pktD x0 x2).1 3).1 8).1 4).2 (belowC (belowC (onceC (onceC (pktD x0 x2).1 3).1 8).1 4).1 4).2 (belowC (belowC (belowC (onceC (onceC (pktD x0 x2).1 3).1 8).1 4).1 4).1 6).2 (pktD x0 x2).2).1, ((sendOnLink x1 (belowC (onceC (onceC (pktD x0 x2).1 3).1 8).1 4).2 (belowC (belowC (onceC (onceC (pktD x0 x2).1 3).1 8).1 4).1 4).2 (belowC (belowC (belowC (onceC (onceC (pktD x0 x2).1 3).1 8).1 4).1 4).1 6).2 (pktD x0 x2).2).2.1, ((sendOnLink x1 (belowC (onceC (onceC (pktD x0 x2).1 3).1 8).1 4).2 (belowC (belowC (onceC (onceC (pktD x0 x2).1 3).1 8).1 4).1 4).2 (belowC (belowC (belowC (onceC (onceC (pktD x0 x2).1 3).1 8).1 4).1 4).1 6).2 (pktD x0 x2).2).2.2.1, ((sendOnLink x1 (belowC (onceC (onceC (pktD x0 x2).1 3).1 8).1 4).2 (belowC (belowC (onceC (onceC (pktD x0 x2).1 3).1 8).1 4).1 4).2 (belowC (belowC (belowC (onceC (onceC (pktD x0 x2).1 3).1 8).1 4).1 4).1 6).2 (pktD x0 x2).2).2.2.2.1, (sendOnLink x1 (belowC (onceC (onceC (pktD x0 x2).1 3).1 8).1 4).2 (belowC (belowC (onceC (onceC (pktD x0 x2).1 3).1 8).1 4).1 4).2 (belowC (belowC (belowC (onceC (onceC (pktD x0 x2).1 3).1 8).1 4).1 4).1 6).2 (pktD x0 x2).2).2.2.2.2 + 1))))) else (if (belowC (belowC (belowC (belowC (onceC (onceC (pktD x0 x2).1 3).1 8).1 4).1 4).1 6).1 8).2 = 1 then ((belowC (belowC (belowC (belowC (onceC (onceC (pktD x0 x2).1 3).1 8).1 4).1 4).1 6).1 8).1, ((sendOnLink x1 (belowC (onceC (onceC (pktD x0 x2).1 3).1 8).1 4).2 (belowC (belowC (onceC (onceC (pktD x0 x2).1 3).1 8).1 4).1 4).2 (belowC (belowC (belowC (onceC (onceC (pktD x0 x2).1 3).1 8).1 4).1 4).1 6).2 (pktD x0 x2).2).1 + 1, (sendOnLink x1 (belowC (onceC (onceC (pktD x0 x2).1 3).1 8).1 4).2 (belowC (belowC (onceC (onceC (pktD x0 x2).1 3).1 8).1 4).1 4).2 (belowC (belowC (belowC (onceC (onceC (pktD x0 x2).1 3).1 8).1 4).1 4).1 6).2 (pktD x0 x2).2).2)) else ((belowC (belowC (belowC (belowC (onceC (onceC (pktD x0 x2).1 3).1 8).1 4).1 4).1 6).1 8).1, (sendOnLink x1 (belowC (onceC (onceC (pktD x0 x2).1 3).1 8).1 4).2 (belowC (belowC (onceC (onceC (pktD x0 x2).1 3).1 8).1 4).1 4).2 (belowC (belowC (belowC (onceC (onceC (pktD x0 x2).1 3).1 8).1 4).1 4).1 6).2 (pktD x0 x2).2))))))
abbrev Q_spec_l28Link := (fun (x0 : T109) (x1 : Int) (x2 : T26) => 0 ≤ x0.2.1 ∧ validG x2 = true)
def B_spec_l28Link : BS := { t := 109, s := s109, dom := [(.int 3), s26], cod := [s53], pre := fun y x => Q_spec_l28Link y x.1 x.2.1, upd := fun y x => (linkD y x.1 x.2.1).1, g := fun y x => ((linkD y x.1 x.2.1).2, ()) }
def S_spec_l28Link : Sum := bSum 74 B_spec_l28Link
def S_spec_l28Link_tab : List (Nat × Sum) := [(120, S_spec_l11Packet), (121, S_spec_l1Once), (73, S_spec_l1Below), (122, S_spec_l11Any), (123, S_spec_SendOnLink)]
theorem S_spec_l28Link_ok : FnOK Try.prog 74 S_spec_l28Link := by
 refine at_enterB (B := B_spec_l28Link) 55 (fun v y x => ⟨[(0, aP 1 0), (1, aI x.1), (2, aG [cI x.2.1.1, .ro s27 x.2.1.2])], [(1, oX 109 [.ro (.u8 5) y.1, cI y.2.1, cI y.2.2]), (2, oP 1 v)]⟩) Try.func74 rfl (by kernel_rfl) (fun v y x => rfl) ?_
 rintro w0 Z0 b0 x0 ⟨x1, x2, u⟩ a w
 revert x0 x1 x2
 intro (x0 : T109) (x1 : Int) (x2 : T26) hpre hlens0 hlens h
 replace h : At w0 Z0 [b0] 55 ⟨[(0, aP 1 0), (1, aI x1), (2, aG [cI x2.1, .ro s27 x2.2])], [(1, oX 109 [.ro (.u8 5) x0.1, cI x0.2.1, cI x0.2.2]), (2, oP 1 (Value.pointer (some ⟨b0, 0, none⟩)))]⟩ a w := h
 replace hpre : Q_spec_l28Link x0 x1 x2 := hpre
 have hl1 : List.length x0.1 ≤ 9223372036854775807 := hlens0.1.1
 have hu0 : u8L x0.1 := hlens0.1.2
 have hl2 : List.length x2.2 ≤ 9223372036854775807 := hlens.2.1.2.1
 have hT : TabOK Try.prog S_spec_l28Link_tab := (.cons S_spec_l11Packet_ok (.cons S_spec_l1Once_ok (.cons S_spec_l1Below_ok (.cons S_spec_l11Any_ok (.cons S_spec_SendOnLink_ok .nil)))))
 have hpk := pktD_ok hpre.1 hpre.2
 have hpl := pktD_len hpre.1 hpre.2
 have hp0 := hpl.2.2 0
 have hpp := hpl.2.1
 have hc1 := hpk.1
 have hc2 := once_ok (n := 3) hc1
 have hc3 := below_ok (n := 9) hc2
 have hb9 := below_bd (onceC (pktD x0 x2).1 3).1 (n := 9) (by decide)
 have hb4 : ∀ q : T109, 0 ≤ (belowC q 4).2 ∧ (belowC q 4).2 < 4 := fun q => below_bd q (by decide)
 refine wp_seq ?_
 refine at_regq [{ ids := [3] }, { ids := [4] }] { ts := [0, 1, 5, 6], os := [1, 2, 3, 4] } [] gamOK hT h (by kernel_rfl) trivial fun a w h => then_normal (wp_seq ?_)
 refine at_regq [{}, {}, { ids := [5, 6] }, { ids := [7] }] { ts := [0, 1, 5, 6, 7], os := [1, 2, 3, 4, 5, 6, 7] } [B_spec_l11Packet.pre x0 (x2, ())] gamOK hT h (by kernel_rfl) ⟨(by exact ⟨hpre.1, hpre.2⟩), trivial⟩ fun a w h => then_normal (wp_seq (wp_seq ?_))
 refine at_regq [] { ts := [0, 1, 5, 6, 7, 13], os := [1, 2, 3, 4, 5, 6, 7] } [B_spec_l1Once.pre (pktD x0 x2).1 (3, ())] gamOK hT h (by kernel_rfl) ⟨(by exact (pktD_ok hpre.1 hpre.2).1), trivial⟩ fun a w h => then_normal ?_
 refine at_test ((onceC (pktD x0 x2).1 3).2) h (by kernel_rfl) (fun h1 => ?_) (fun h1 => ?_)
 ·refine at_anyq [{}, {}, {}, {}, {}, {}, { nw := true }, {}, {}, { nw := true }, {}, {}, {}] { ts := [0, 1, 5, 6, 7], os := [1, 2, 3, 4, 5, 6, 7] } [(0 : Int) ≤ 0 ∧ 0 < ((List.length (pktD x0 x2).2.2.2 : Nat) : Int), 0 < List.length (pktD x0 x2).2.2.2, I64 (((pktD x0 x2).2.2.2.getD 0 0) + 1), B_spec_l1Below.pre (onceC (pktD x0 x2).1 3).1 (9, ()), I64 ((((pktD x0 x2).2.2.2.getD 0 0) + 1) + (belowC (onceC (pktD x0 x2).1 3).1 9).2), (1019 : Int) ≠ 0, (0 : Int) ≤ 0 ∧ 0 < ((List.length (pktD x0 x2).2.2.2 : Nat) : Int), 0 < List.length (pktD x0 x2).2.2.2] gamOK hT mixed h (by kernel_rfl) ⟨(by refine ⟨?_, ?_⟩ <;> (first | omega | (simp only [lsA]; omega) | exact sendMAC_lo | exact sendMAC_hi | exact sendFrom_lo (hb4 _) | exact sendFrom_hi (hb4 _) | (simp <;> omega))), (by first | omega | (simp only [lsA]; omega) | exact sendMAC_lo | exact sendMAC_hi | exact sendFrom_lo (hb4 _) | exact sendFrom_hi (hb4 _) | (simp <;> omega)), ⟨by first | omega | (simp only [lsA]; omega) | exact sendMAC_lo | exact sendMAC_hi | exact sendFrom_lo (hb4 _) | exact sendFrom_hi (hb4 _) | (simp <;> omega), by first | omega | (simp only [lsA]; omega) | exact sendMAC_lo | exact sendMAC_hi | exact sendFrom_lo (hb4 _) | exact sendFrom_hi (hb4 _) | (simp <;> omega)⟩, (by exact (once_ok (pktD_ok hpre.1 hpre.2).1)), ⟨by first | omega | (simp only [lsA]; omega) | exact sendMAC_lo | exact sendMAC_hi | exact sendFrom_lo (hb4 _) | exact sendFrom_hi (hb4 _) | (simp <;> omega), by first | omega | (simp only [lsA]; omega) | exact sendMAC_lo | exact sendMAC_hi | exact sendFrom_lo (hb4 _) | exact sendFrom_hi (hb4 _) | (simp <;> omega)⟩, (by first | omega | (simp only [lsA]; omega) | exact sendMAC_lo | exact sendMAC_hi | exact sendFrom_lo (hb4 _) | exact sendFrom_hi (hb4 _) | (simp <;> omega)), (by refine ⟨?_, ?_⟩ <;> (first | omega | (simp only [lsA]; omega) | exact sendMAC_lo | exact sendMAC_hi | exact sendFrom_lo (hb4 _) | exact sendFrom_hi (hb4 _) | (simp <;> omega))), (by first | omega | (simp only [lsA]; omega) | exact sendMAC_lo | exact sendMAC_hi | exact sendFrom_lo (hb4 _) | exact sendFrom_hi (hb4 _) | (simp <;> omega)), trivial⟩ fun a w h => then_normal (wp_seq (wp_seq ?_))
  refine at_regq [] { ts := [0, 1, 5, 6, 7, 27], os := [1, 2, 3, 4, 5, 6, 7] } [B_spec_l1Once.pre (belowC (onceC (pktD x0 x2).1 3).1 9).1 (8, ())] gamOK hT h (by kernel_rfl) ⟨(by exact (below_ok (once_ok (pktD_ok hpre.1 hpre.2).1))), trivial⟩ fun a w h => then_normal ?_
  refine at_test ((onceC (belowC (onceC (pktD x0 x2).1 3).1 9).1 8).2) h (by kernel_rfl) (fun h2 => ?_) (fun h2 => ?_)
  ·refine at_regq [{}, {}, { ids := [8, 9] }] { ts := [0, 1, 6, 7], os := [1, 2, 4, 7, 8, 9] } [B_spec_l11Any.pre (onceC (belowC (onceC (pktD x0 x2).1 3).1 9).1 8).1 (x2, ())] gamOK hT h (by kernel_rfl) ⟨(by exact ⟨(once_ok (below_ok (once_ok (pktD_ok hpre.1 hpre.2).1))), hpre.2⟩), trivial⟩ fun a w h => then_normal (wp_seq ?_)
   refine at_anyq [{}, {}, {}, {}, {}, {}, {}, {}, { ids := [10, 11] }, { ids := [12] }, {}] { ts := [0, 6, 8], os := [1, 2, 4, 10, 11, 12] } [B_spec_l1Below.pre (anyP (onceC (belowC (onceC (pktD x0 x2).1 3).1 9).1 8).1 x2).1 (4, ()), B_spec_l1Below.pre (belowC (anyP (onceC (belowC (onceC (pktD x0 x2).1 3).1 9).1 8).1 x2).1 4).1 (4, ()), B_spec_l1Below.pre (belowC (belowC (anyP (onceC (belowC (onceC (pktD x0 x2).1 3).1 9).1 8).1 x2).1 4).1 4).1 (6, ()), Q_spec_SendOnLink x1 (belowC (anyP (onceC (belowC (onceC (pktD x0 x2).1 3).1 9).1 8).1 x2).1 4).2 (belowC (belowC (anyP (onceC (belowC (onceC (pktD x0 x2).1 3).1 9).1 8).1 x2).1 4).1 4).2 (belowC (belowC (belowC (anyP (onceC (belowC (onceC (pktD x0 x2).1 3).1 9).1 8).1 x2).1 4).1 4).1 6).2 (anyP (onceC (belowC (onceC (pktD x0 x2).1 3).1 9).1 8).1 x2).2] gamOK hT mixed h (by kernel_rfl) ⟨(by exact (anyP_ok (once_ok (below_ok (once_ok (pktD_ok hpre.1 hpre.2).1))) hpre.2).1), (by exact (below_ok (anyP_ok (once_ok (below_ok (once_ok (pktD_ok hpre.1 hpre.2).1))) hpre.2).1)), (by exact (below_ok (below_ok (anyP_ok (once_ok (below_ok (once_ok (pktD_ok hpre.1 hpre.2).1))) hpre.2).1))), (by exact (And.intro trivial (anyP_fit (once_ok (below_ok (once_ok (pktD_ok hpre.1 hpre.2).1))) hpre.2) : True ∧ _).2), trivial⟩ fun a w h => then_normal (wp_seq (wp_seq ?_))
   refine at_regq [] { ts := [6, 8, 41], os := [1, 2, 4, 10, 11, 12] } [B_spec_l1Below.pre (belowC (belowC (belowC (anyP (onceC (belowC (onceC (pktD x0 x2).1 3).1 9).1 8).1 x2).1 4).1 4).1 6).1 (8, ())] gamOK hT h (by kernel_rfl) ⟨(by exact (below_ok (below_ok (below_ok (anyP_ok (once_ok (below_ok (once_ok (pktD_ok hpre.1 hpre.2).1))) hpre.2).1)))), trivial⟩ fun a w h => then_normal (wp_block (wp_seq ?_))
   refine at_regq [] { ts := [6, 8, 41, 42], os := [1, 2, 4, 10, 11, 12] } [] gamOK hT h (by kernel_rfl) trivial fun a w h => then_normal ?_
   refine at_test (decide ((belowC (belowC (belowC (belowC (anyP (onceC (belowC (onceC (pktD x0 x2).1 3).1 9).1 8).1 x2).1 4).1 4).1 6).1 8).2 = 0)) h (by kernel_rfl) (fun h3 => ?_) (fun h3 => ?_)
   ·replace h3 : (belowC (belowC (belowC (belowC (anyP (onceC (belowC (onceC (pktD x0 x2).1 3).1 9).1 8).1 x2).1 4).1 4).1 6).1 8).2 = 0 := of_decide_eq_true h3
    refine at_regq [{}, {}, { nw := true }] { ts := [6, 8], os := [1, 2, 4, 10, 11, 12] } [I64 ((sendOnLink x1 (belowC (anyP (onceC (belowC (onceC (pktD x0 x2).1 3).1 9).1 8).1 x2).1 4).2 (belowC (belowC (anyP (onceC (belowC (onceC (pktD x0 x2).1 3).1 9).1 8).1 x2).1 4).1 4).2 (belowC (belowC (belowC (anyP (onceC (belowC (onceC (pktD x0 x2).1 3).1 9).1 8).1 x2).1 4).1 4).1 6).2 (anyP (onceC (belowC (onceC (pktD x0 x2).1 3).1 9).1 8).1 x2).2).2.2.2.2 + 1)] gamOK hT h (by kernel_rfl) ⟨⟨by first | omega | (simp only [lsA]; omega) | exact sendMAC_lo | exact sendMAC_hi | exact sendFrom_lo (hb4 _) | exact sendFrom_hi (hb4 _) | (simp <;> omega), by first | omega | (simp only [lsA]; omega) | exact sendMAC_lo | exact sendMAC_hi | exact sendFrom_lo (hb4 _) | exact sendFrom_hi (hb4 _) | (simp <;> omega)⟩, trivial⟩ fun a w h => in_normal (then_normal (wp_seq ?_))
    refine at_regq [] { ts := [6], os := [1, 2, 4, 10, 11] } [] gamOK hT h (by kernel_rfl) trivial fun a w h => then_normal (wp_ret ?_)
    have hr4 : (((belowC (belowC (belowC (belowC (anyP (onceC (belowC (onceC (pktD x0 x2).1 3).1 9).1 8).1 x2).1 4).1 4).1 6).1 8).1, ((sendOnLink x1 (belowC (anyP (onceC (belowC (onceC (pktD x0 x2).1 3).1 9).1 8).1 x2).1 4).2 (belowC (belowC (anyP (onceC (belowC (onceC (pktD x0 x2).1 3).1 9).1 8).1 x2).1 4).1 4).2 (belowC (belowC (belowC (anyP (onceC (belowC (onceC (pktD x0 x2).1 3).1 9).1 8).1 x2).1 4).1 4).1 6).2 (anyP (onceC (belowC (onceC (pktD x0 x2).1 3).1 9).1 8).1 x2).2).1, ((sendOnLink x1 (belowC (anyP (onceC (belowC (onceC (pktD x0 x2).1 3).1 9).1 8).1 x2).1 4).2 (belowC (belowC (anyP (onceC (belowC (onceC (pktD x0 x2).1 3).1 9).1 8).1 x2).1 4).1 4).2 (belowC (belowC (belowC (anyP (onceC (belowC (onceC (pktD x0 x2).1 3).1 9).1 8).1 x2).1 4).1 4).1 6).2 (anyP (onceC (belowC (onceC (pktD x0 x2).1 3).1 9).1 8).1 x2).2).2.1, ((sendOnLink x1 (belowC (anyP (onceC (belowC (onceC (pktD x0 x2).1 3).1 9).1 8).1 x2).1 4).2 (belowC (belowC (anyP (onceC (belowC (onceC (pktD x0 x2).1 3).1 9).1 8).1 x2).1 4).1 4).2 (belowC (belowC (belowC (anyP (onceC (belowC (onceC (pktD x0 x2).1 3).1 9).1 8).1 x2).1 4).1 4).1 6).2 (anyP (onceC (belowC (onceC (pktD x0 x2).1 3).1 9).1 8).1 x2).2).2.2.1, ((sendOnLink x1 (belowC (anyP (onceC (belowC (onceC (pktD x0 x2).1 3).1 9).1 8).1 x2).1 4).2 (belowC (belowC (anyP (onceC (belowC (onceC (pktD x0 x2).1 3).1 9).1 8).1 x2).1 4).1 4).2 (belowC (belowC (belowC (anyP (onceC (belowC (onceC (pktD x0 x2).1 3).1 9).1 8).1 x2).1 4).1 4).1 6).2 (anyP (onceC (belowC (onceC (pktD x0 x2).1 3).1 9).1 8).1 x2).2).2.2.2.1, (sendOnLink x1 (belowC (anyP (onceC (belowC (onceC (pktD x0 x2).1 3).1 9).1 8).1 x2).1 4).2 (belowC (belowC (anyP (onceC (belowC (onceC (pktD x0 x2).1 3).1 9).1 8).1 x2).1 4).1 4).2 (belowC (belowC (belowC (anyP (onceC (belowC (onceC (pktD x0 x2).1 3).1 9).1 8).1 x2).1 4).1 4).1 6).2 (anyP (onceC (belowC (onceC (pktD x0 x2).1 3).1 9).1 8).1 x2).2).2.2.2.2 + 1))))) : T109 × T53) = linkD x0 x1 x2 := by (unfold linkD; rw [if_pos h1, if_pos h2, if_pos h3])
    exact at_returnB (B := B_spec_l28Link) (c0 := x0) (x := (x1, x2, ())) ((belowC (belowC (belowC (belowC (anyP (onceC (belowC (onceC (pktD x0 x2).1 3).1 9).1 8).1 x2).1 4).1 4).1 6).1 8).1) (((sendOnLink x1 (belowC (anyP (onceC (belowC (onceC (pktD x0 x2).1 3).1 9).1 8).1 x2).1 4).2 (belowC (belowC (anyP (onceC (belowC (onceC (pktD x0 x2).1 3).1 9).1 8).1 x2).1 4).1 4).2 (belowC (belowC (belowC (anyP (onceC (belowC (onceC (pktD x0 x2).1 3).1 9).1 8).1 x2).1 4).1 4).1 6).2 (anyP (onceC (belowC (onceC (pktD x0 x2).1 3).1 9).1 8).1 x2).2).1, ((sendOnLink x1 (belowC (anyP (onceC (belowC (onceC (pktD x0 x2).1 3).1 9).1 8).1 x2).1 4).2 (belowC (belowC (anyP (onceC (belowC (onceC (pktD x0 x2).1 3).1 9).1 8).1 x2).1 4).1 4).2 (belowC (belowC (belowC (anyP (onceC (belowC (onceC (pktD x0 x2).1 3).1 9).1 8).1 x2).1 4).1 4).1 6).2 (anyP (onceC (belowC (onceC (pktD x0 x2).1 3).1 9).1 8).1 x2).2).2.1, ((sendOnLink x1 (belowC (anyP (onceC (belowC (onceC (pktD x0 x2).1 3).1 9).1 8).1 x2).1 4).2 (belowC (belowC (anyP (onceC (belowC (onceC (pktD x0 x2).1 3).1 9).1 8).1 x2).1 4).1 4).2 (belowC (belowC (belowC (anyP (onceC (belowC (onceC (pktD x0 x2).1 3).1 9).1 8).1 x2).1 4).1 4).1 6).2 (anyP (onceC (belowC (onceC (pktD x0 x2).1 3).1 9).1 8).1 x2).2).2.2.1, ((sendOnLink x1 (belowC (anyP (onceC (belowC (onceC (pktD x0 x2).1 3).1 9).1 8).1 x2).1 4).2 (belowC (belowC (anyP (onceC (belowC (onceC (pktD x0 x2).1 3).1 9).1 8).1 x2).1 4).1 4).2 (belowC (belowC (belowC (anyP (onceC (belowC (onceC (pktD x0 x2).1 3).1 9).1 8).1 x2).1 4).1 4).1 6).2 (anyP (onceC (belowC (onceC (pktD x0 x2).1 3).1 9).1 8).1 x2).2).2.2.2.1, (sendOnLink x1 (belowC (anyP (onceC (belowC (onceC (pktD x0 x2).1 3).1 9).1 8).1 x2).1 4).2 (belowC (belowC (anyP (onceC (belowC (onceC (pktD x0 x2).1 3).1 9).1 8).1 x2).1 4).1 4).2 (belowC (belowC (belowC (anyP (onceC (belowC (onceC (pktD x0 x2).1 3).1 9).1 8).1 x2).1 4).1 4).1 6).2 (anyP (onceC (belowC (onceC (pktD x0 x2).1 3).1 9).1 8).1 x2).2).2.2.2.2 + 1)))), ()) [(Value.pointer (some ⟨b0, 0, none⟩)) = (Value.pointer (some ⟨b0, 0, none⟩))] h (by kernel_rfl) ⟨rfl, trivial⟩ (congrArg (a₁ := ((belowC (belowC (belowC (belowC (anyP (onceC (belowC (onceC (pktD x0 x2).1 3).1 9).1 8).1 x2).1 4).1 4).1 6).1 8).1, ((sendOnLink x1 (belowC (anyP (onceC (belowC (onceC (pktD x0 x2).1 3).1 9).1 8).1 x2).1 4).2 (belowC (belowC (anyP (onceC (belowC (onceC (pktD x0 x2).1 3).1 9).1 8).1 x2).1 4).1 4).2 (belowC (belowC (belowC (anyP (onceC (belowC (onceC (pktD x0 x2).1 3).1 9).1 8).1 x2).1 4).1 4).1 6).2 (anyP (onceC (belowC (onceC (pktD x0 x2).1 3).1 9).1 8).1 x2).2).1, ((sendOnLink x1 (belowC (anyP (onceC (belowC (onceC (pktD x0 x2).1 3).1 9).1 8).1 x2).1 4).2 (belowC (belowC (anyP (onceC (belowC (onceC (pktD x0 x2).1 3).1 9).1 8).1 x2).1 4).1 4).2 (belowC (belowC (belowC (anyP (onceC (belowC (onceC (pktD x0 x2).1 3).1 9).1 8).1 x2).1 4).1 4).1 6).2 (anyP (onceC (belowC (onceC (pktD x0 x2).1 3).1 9).1 8).1 x2).2).2.1, ((sendOnLink x1 (belowC (anyP (onceC (belowC (onceC (pktD x0 x2).1 3).1 9).1 8).1 x2).1 4).2 (belowC (belowC (anyP (onceC (belowC (onceC (pktD x0 x2).1 3).1 9).1 8).1 x2).1 4).1 4).2 (belowC (belowC (belowC (anyP (onceC (belowC (onceC (pktD x0 x2).1 3).1 9).1 8).1 x2).1 4).1 4).1 6).2 (anyP (onceC (belowC (onceC (pktD x0 x2).1 3).1 9).1 8).1 x2).2).2.2.1, ((sendOnLink x1 (belowC (anyP (onceC (belowC (onceC (pktD x0 x2).1 3).1 9).1 8).1 x2).1 4).2 (belowC (belowC (anyP (onceC (belowC (onceC (pktD x0 x2).1 3).1 9).1 8).1 x2).1 4).1 4).2 (belowC (belowC (belowC (anyP (onceC (belowC (onceC (pktD x0 x2).1 3).1 9).1 8).1 x2).1 4).1 4).1 6).2 (anyP (onceC (belowC (onceC (pktD x0 x2).1 3).1 9).1 8).1 x2).2).2.2.2.1, (sendOnLink x1 (belowC (anyP (onceC (belowC (onceC (pktD x0 x2).1 3).1 9).1 8).1 x2).1 4).2 (belowC (belowC (anyP (onceC (belowC (onceC (pktD x0 x2).1 3).1 9).1 8).1 x2).1 4).1 4).2 (belowC (belowC (belowC (anyP (onceC (belowC (onceC (pktD x0 x2).1 3).1 9).1 8).1 x2).1 4).1 4).1 6).2 (anyP (onceC (belowC (onceC (pktD x0 x2).1 3).1 9).1 8).1 x2).2).2.2.2.2 + 1)))))) (a₂ := linkD x0 x1 x2) (fun (z : T109 × T53) => z.1) hr4) (congrArg (a₁ := ((belowC (belowC (belowC (belowC (anyP (onceC (belowC (onceC (pktD x0 x2).1 3).1 9).1 8).1 x2).1 4).1 4).1 6).1 8).1, ((sendOnLink x1 (belowC (anyP (onceC (belowC (onceC (pktD x0 x2).1 3).1 9).1 8).1 x2).1 4).2 (belowC (belowC (anyP (onceC (belowC (onceC (pktD x0 x2).1 3).1 9).1 8).1 x2).1 4).1 4).2 (belowC (belowC (belowC (anyP (onceC (belowC (onceC (pktD x0 x2).1 3).1 9).1 8).1 x2).1 4).1 4).1 6).2 (anyP (onceC (belowC (onceC (pktD x0 x2).1 3).1 9).1 8).1 x2).2).1, ((sendOnLink x1 (belowC (anyP (onceC (belowC (onceC (pktD x0 x2).1 3).1 9).1 8).1 x2).1 4).2 (belowC (belowC (anyP (onceC (belowC (onceC (pktD x0 x2).1 3).1 9).1 8).1 x2).1 4).1 4).2 (belowC (belowC (belowC (anyP (onceC (belowC (onceC (pktD x0 x2).1 3).1 9).1 8).1 x2).1 4).1 4).1 6).2 (anyP (onceC (belowC (onceC (pktD x0 x2).1 3).1 9).1 8).1 x2).2).2.1, ((sendOnLink x1 (belowC (anyP (onceC (belowC (onceC (pktD x0 x2).1 3).1 9).1 8).1 x2).1 4).2 (belowC (belowC (anyP (onceC (belowC (onceC (pktD x0 x2).1 3).1 9).1 8).1 x2).1 4).1 4).2 (belowC (belowC (belowC (anyP (onceC (belowC (onceC (pktD x0 x2).1 3).1 9).1 8).1 x2).1 4).1 4).1 6).2 (anyP (onceC (belowC (onceC (pktD x0 x2).1 3).1 9).1 8).1 x2).2).2.2.1, ((sendOnLink x1 (belowC (anyP (onceC (belowC (onceC (pktD x0 x2).1 3).1 9).1 8).1 x2).1 4).2 (belowC (belowC (anyP (onceC (belowC (onceC (pktD x0 x2).1 3).1 9).1 8).1 x2).1 4).1 4).2 (belowC (belowC (belowC (anyP (onceC (belowC (onceC (pktD x0 x2).1 3).1 9).1 8).1 x2).1 4).1 4).1 6).2 (anyP (onceC (belowC (onceC (pktD x0 x2).1 3).1 9).1 8).1 x2).2).2.2.2.1, (sendOnLink x1 (belowC (anyP (onceC (belowC (onceC (pktD x0 x2).1 3).1 9).1 8).1 x2).1 4).2 (belowC (belowC (anyP (onceC (belowC (onceC (pktD x0 x2).1 3).1 9).1 8).1 x2).1 4).1 4).2 (belowC (belowC (belowC (anyP (onceC (belowC (onceC (pktD x0 x2).1 3).1 9).1 8).1 x2).1 4).1 4).1 6).2 (anyP (onceC (belowC (onceC (pktD x0 x2).1 3).1 9).1 8).1 x2).2).2.2.2.2 + 1)))))) (a₂ := linkD x0 x1 x2) (fun (z : T109 × T53) => (z.2, ())) hr4)
   ·replace h3 : ¬ ((belowC (belowC (belowC (belowC (anyP (onceC (belowC (onceC (pktD x0 x2).1 3).1 9).1 8).1 x2).1 4).1 4).1 6).1 8).2 = 0) := of_decide_eq_false h3
    refine wp_seq ?_
    refine at_regq [] { ts := [6, 8, 48], os := [1, 2, 4, 10, 11, 12] } [] gamOK hT h (by kernel_rfl) trivial fun a w h => then_normal ?_
    refine at_test (decide ((belowC (belowC (belowC (belowC (anyP (onceC (belowC (onceC (pktD x0 x2).1 3).1 9).1 8).1 x2).1 4).1 4).1 6).1 8).2 = 1)) h (by kernel_rfl) (fun h5 => ?_) (fun h5 => ?_)
    ·replace h5 : (belowC (belowC (belowC (belowC (anyP (onceC (belowC (onceC (pktD x0 x2).1 3).1 9).1 8).1 x2).1 4).1 4).1 6).1 8).2 = 1 := of_decide_eq_true h5
     refine at_regq [{}, {}, { nw := true }] { ts := [6, 8], os := [1, 2, 4, 10, 11, 12] } [I64 ((sendOnLink x1 (belowC (anyP (onceC (belowC (onceC (pktD x0 x2).1 3).1 9).1 8).1 x2).1 4).2 (belowC (belowC (anyP (onceC (belowC (onceC (pktD x0 x2).1 3).1 9).1 8).1 x2).1 4).1 4).2 (belowC (belowC (belowC (anyP (onceC (belowC (onceC (pktD x0 x2).1 3).1 9).1 8).1 x2).1 4).1 4).1 6).2 (anyP (onceC (belowC (onceC (pktD x0 x2).1 3).1 9).1 8).1 x2).2).1 + 1)] gamOK hT h (by kernel_rfl) ⟨⟨by first | omega | (simp only [lsA]; omega) | exact sendMAC_lo | exact sendMAC_hi | exact sendFrom_lo (hb4 _) | exact sendFrom_hi (hb4 _) | (simp <;> omega), by first | omega | (simp only [lsA]; omega) | exact sendMAC_lo | exact sendMAC_hi | exact sendFrom_lo (hb4 _) | exact sendFrom_hi (hb4 _) | (simp <;> omega)⟩, trivial⟩ fun a w h => in_normal (then_normal (wp_seq ?_))
     refine at_regq [] { ts := [6], os := [1, 2, 4, 10, 11] } [] gamOK hT h (by kernel_rfl) trivial fun a w h => then_normal (wp_ret ?_)
     have hr6 : (((belowC (belowC (belowC (belowC (anyP (onceC (belowC (onceC (pktD x0 x2).1 3).1 9).1 8).1 x2).1 4).1 4).1 6).1 8).1, ((sendOnLink x1 (belowC (anyP (onceC (belowC (onceC (pktD x0 x2).1 3).1 9).1 8).1 x2).1 4).2 (belowC (belowC (anyP (onceC (belowC (onceC (pktD x0 x2).1 3).1 9).1 8).1 x2).1 4).1 4).2 (belowC (belowC (belowC (anyP (onceC (belowC (onceC (pktD x0 x2).1 3).1 9).1 8).1 x2).1 4).1 4).1 6).2 (anyP (onceC (belowC (onceC (pktD x0 x2).1 3).1 9).1 8).1 x2).2).1 + 1, (sendOnLink x1 (belowC (anyP (onceC (belowC (onceC (pktD x0 x2).1 3).1 9).1 8).1 x2).1 4).2 (belowC (belowC (anyP (onceC (belowC (onceC (pktD x0 x2).1 3).1 9).1 8).1 x2).1 4).1 4).2 (belowC (belowC (belowC (anyP (onceC (belowC (onceC (pktD x0 x2).1 3).1 9).1 8).1 x2).1 4).1 4).1 6).2 (anyP (onceC (belowC (onceC (pktD x0 x2).1 3).1 9).1 8).1 x2).2).2)) : T109 × T53) = linkD x0 x1 x2 := by (unfold linkD; rw [if_pos h1, if_pos h2, if_neg h3, if_pos h5])
     exact at_returnB (B := B_spec_l28Link) (c0 := x0) (x := (x1, x2, ())) ((belowC (belowC (belowC (belowC (anyP (onceC (belowC (onceC (pktD x0 x2).1 3).1 9).1 8).1 x2).1 4).1 4).1 6).1 8).1) (((sendOnLink x1 (belowC (anyP (onceC (belowC (onceC (pktD x0 x2).1 3).1 9).1 8).1 x2).1 4).2 (belowC (belowC (anyP (onceC (belowC (onceC (pktD x0 x2).1 3).1 9).1 8).1 x2).1 4).1 4).2 (belowC (belowC (belowC (anyP (onceC (belowC (onceC (pktD x0 x2).1 3).1 9).1 8).1 x2).1 4).1 4).1 6).2 (anyP (onceC (belowC (onceC (pktD x0 x2).1 3).1 9).1 8).1 x2).2).1 + 1, (sendOnLink x1 (belowC (anyP (onceC (belowC (onceC (pktD x0 x2).1 3).1 9).1 8).1 x2).1 4).2 (belowC (belowC (anyP (onceC (belowC (onceC (pktD x0 x2).1 3).1 9).1 8).1 x2).1 4).1 4).2 (belowC (belowC (belowC (anyP (onceC (belowC (onceC (pktD x0 x2).1 3).1 9).1 8).1 x2).1 4).1 4).1 6).2 (anyP (onceC (belowC (onceC (pktD x0 x2).1 3).1 9).1 8).1 x2).2).2), ()) [(Value.pointer (some ⟨b0, 0, none⟩)) = (Value.pointer (some ⟨b0, 0, none⟩))] h (by kernel_rfl) ⟨rfl, trivial⟩ (congrArg (a₁ := ((belowC (belowC (belowC (belowC (anyP (onceC (belowC (onceC (pktD x0 x2).1 3).1 9).1 8).1 x2).1 4).1 4).1 6).1 8).1, ((sendOnLink x1 (belowC (anyP (onceC (belowC (onceC (pktD x0 x2).1 3).1 9).1 8).1 x2).1 4).2 (belowC (belowC (anyP (onceC (belowC (onceC (pktD x0 x2).1 3).1 9).1 8).1 x2).1 4).1 4).2 (belowC (belowC (belowC (anyP (onceC (belowC (onceC (pktD x0 x2).1 3).1 9).1 8).1 x2).1 4).1 4).1 6).2 (anyP (onceC (belowC (onceC (pktD x0 x2).1 3).1 9).1 8).1 x2).2).1 + 1, (sendOnLink x1 (belowC (anyP (onceC (belowC (onceC (pktD x0 x2).1 3).1 9).1 8).1 x2).1 4).2 (belowC (belowC (anyP (onceC (belowC (onceC (pktD x0 x2).1 3).1 9).1 8).1 x2).1 4).1 4).2 (belowC (belowC (belowC (anyP (onceC (belowC (onceC (pktD x0 x2).1 3).1 9).1 8).1 x2).1 4).1 4).1 6).2 (anyP (onceC (belowC (onceC (pktD x0 x2).1 3).1 9).1 8).1 x2).2).2))) (a₂ := linkD x0 x1 x2) (fun (z : T109 × T53) => z.1) hr6) (congrArg (a₁ := ((belowC (belowC (belowC (belowC (anyP (onceC (belowC (onceC (pktD x0 x2).1 3).1 9).1 8).1 x2).1 4).1 4).1 6).1 8).1, ((sendOnLink x1 (belowC (anyP (onceC (belowC (onceC (pktD x0 x2).1 3).1 9).1 8).1 x2).1 4).2 (belowC (belowC (anyP (onceC (belowC (onceC (pktD x0 x2).1 3).1 9).1 8).1 x2).1 4).1 4).2 (belowC (belowC (belowC (anyP (onceC (belowC (onceC (pktD x0 x2).1 3).1 9).1 8).1 x2).1 4).1 4).1 6).2 (anyP (onceC (belowC (onceC (pktD x0 x2).1 3).1 9).1 8).1 x2).2).1 + 1, (sendOnLink x1 (belowC (anyP (onceC (belowC (onceC (pktD x0 x2).1 3).1 9).1 8).1 x2).1 4).2 (belowC (belowC (anyP (onceC (belowC (onceC (pktD x0 x2).1 3).1 9).1 8).1 x2).1 4).1 4).2 (belowC (belowC (belowC (anyP (onceC (belowC (onceC (pktD x0 x2).1 3).1 9).1 8).1 x2).1 4).1 4).1 6).2 (anyP (onceC (belowC (onceC (pktD x0 x2).1 3).1 9).1 8).1 x2).2).2))) (a₂ := linkD x0 x1 x2) (fun (z : T109 × T53) => (z.2, ())) hr6)
    ·replace h5 : ¬ ((belowC (belowC (belowC (belowC (anyP (onceC (belowC (onceC (pktD x0 x2).1 3).1 9).1 8).1 x2).1 4).1 4).1 6).1 8).2 = 1) := of_decide_eq_false h5
     refine wp_skip (in_normal (then_normal (wp_seq ?_)))
     refine at_regq [] { ts := [6], os := [1, 2, 4, 10, 11] } [] gamOK hT h (by kernel_rfl) trivial fun a w h => then_normal (wp_ret ?_)
     have hr7 : (((belowC (belowC (belowC (belowC (anyP (onceC (belowC (onceC (pktD x0 x2).1 3).1 9).1 8).1 x2).1 4).1 4).1 6).1 8).1, (sendOnLink x1 (belowC (anyP (onceC (belowC (onceC (pktD x0 x2).1 3).1 9).1 8).1 x2).1 4).2 (belowC (belowC (anyP (onceC (belowC (onceC (pktD x0 x2).1 3).1 9).1 8).1 x2).1 4).1 4).2 (belowC (belowC (belowC (anyP (onceC (belowC (onceC (pktD x0 x2).1 3).1 9).1 8).1 x2).1 4).1 4).1 6).2 (anyP (onceC (belowC (onceC (pktD x0 x2).1 3).1 9).1 8).1 x2).2)) : T109 × T53) = linkD x0 x1 x2 := by (unfold linkD; rw [if_pos h1, if_pos h2, if_neg h3, if_neg h5])
     exact at_returnB (B := B_spec_l28Link) (c0 := x0) (x := (x1, x2, ())) ((belowC (belowC (belowC (belowC (anyP (onceC (belowC (onceC (pktD x0 x2).1 3).1 9).1 8).1 x2).1 4).1 4).1 6).1 8).1) ((sendOnLink x1 (belowC (anyP (onceC (belowC (onceC (pktD x0 x2).1 3).1 9).1 8).1 x2).1 4).2 (belowC (belowC (anyP (onceC (belowC (onceC (pktD x0 x2).1 3).1 9).1 8).1 x2).1 4).1 4).2 (belowC (belowC (belowC (anyP (onceC (belowC (onceC (pktD x0 x2).1 3).1 9).1 8).1 x2).1 4).1 4).1 6).2 (anyP (onceC (belowC (onceC (pktD x0 x2).1 3).1 9).1 8).1 x2).2), ()) [(Value.pointer (some ⟨b0, 0, none⟩)) = (Value.pointer (some ⟨b0, 0, none⟩))] h (by kernel_rfl) ⟨rfl, trivial⟩ (congrArg (a₁ := ((belowC (belowC (belowC (belowC (anyP (onceC (belowC (onceC (pktD x0 x2).1 3).1 9).1 8).1 x2).1 4).1 4).1 6).1 8).1, (sendOnLink x1 (belowC (anyP (onceC (belowC (onceC (pktD x0 x2).1 3).1 9).1 8).1 x2).1 4).2 (belowC (belowC (anyP (onceC (belowC (onceC (pktD x0 x2).1 3).1 9).1 8).1 x2).1 4).1 4).2 (belowC (belowC (belowC (anyP (onceC (belowC (onceC (pktD x0 x2).1 3).1 9).1 8).1 x2).1 4).1 4).1 6).2 (anyP (onceC (belowC (onceC (pktD x0 x2).1 3).1 9).1 8).1 x2).2))) (a₂ := linkD x0 x1 x2) (fun (z : T109 × T53) => z.1) hr7) (congrArg (a₁ := ((belowC (belowC (belowC (belowC (anyP (onceC (belowC (onceC (pktD x0 x2).1 3).1 9).1 8).1 x2).1 4).1 4).1 6).1 8).1, (sendOnLink x1 (belowC (anyP (onceC (belowC (onceC (pktD x0 x2).1 3).1 9).1 8).1 x2).1 4).2 (belowC (belowC (anyP (onceC (belowC (onceC (pktD x0 x2).1 3).1 9).1 8).1 x2).1 4).1 4).2 (belowC (belowC (belowC (anyP (onceC (belowC (onceC (pktD x0 x2).1 3).1 9).1 8).1 x2).1 4).1 4).1 6).2 (anyP (onceC (belowC (onceC (pktD x0 x2).1 3).1 9).1 8).1 x2).2))) (a₂ := linkD x0 x1 x2) (fun (z : T109 × T53) => (z.2, ())) hr7)
  ·refine wp_skip (then_normal (wp_seq ?_))
   refine at_anyq [{}, {}, {}, {}, {}, {}, {}, {}, { ids := [13, 14] }, { ids := [15] }, {}] { ts := [0, 6, 8], os := [1, 2, 4, 13, 14, 15] } [B_spec_l1Below.pre (onceC (belowC (onceC (pktD x0 x2).1 3).1 9).1 8).1 (4, ()), B_spec_l1Below.pre (belowC (onceC (belowC (onceC (pktD x0 x2).1 3).1 9).1 8).1 4).1 (4, ()), B_spec_l1Below.pre (belowC (belowC (onceC (belowC (onceC (pktD x0 x2).1 3).1 9).1 8).1 4).1 4).1 (6, ()), Q_spec_SendOnLink x1 (belowC (onceC (belowC (onceC (pktD x0 x2).1 3).1 9).1 8).1 4).2 (belowC (belowC (onceC (belowC (onceC (pktD x0 x2).1 3).1 9).1 8).1 4).1 4).2 (belowC (belowC (belowC (onceC (belowC (onceC (pktD x0 x2).1 3).1 9).1 8).1 4).1 4).1 6).2 ((pktD x0 x2).2.1, ((pktD x0 x2).2.2.1, (List.set (pktD x0 x2).2.2.2 0 (Int.tmod ((((pktD x0 x2).2.2.2.getD 0 0) + 1) + (belowC (onceC (pktD x0 x2).1 3).1 9).2) 1019))))] gamOK hT mixed h (by kernel_rfl) ⟨(by exact (once_ok (below_ok (once_ok (pktD_ok hpre.1 hpre.2).1)))), (by exact (below_ok (once_ok (below_ok (once_ok (pktD_ok hpre.1 hpre.2).1))))), (by exact (below_ok (below_ok (once_ok (below_ok (once_ok (pktD_ok hpre.1 hpre.2).1)))))), (by exact ⟨(And.intro trivial (pktD_fit hpre.1 hpre.2) : True ∧ _).2.1, ⟨(And.intro trivial (pktD_fit hpre.1 hpre.2) : True ∧ _).2.2.1, (Sh.fit_len (t := 27) (s := .int 3) rfl (by rw [List.length_set]; omega))⟩⟩), trivial⟩ fun a w h => then_normal (wp_seq (wp_seq ?_))
   refine at_regq [] { ts := [6, 8, 41], os := [1, 2, 4, 13, 14, 15] } [B_spec_l1Below.pre (belowC (belowC (belowC (onceC (belowC (onceC (pktD x0 x2).1 3).1 9).1 8).1 4).1 4).1 6).1 (8, ())] gamOK hT h (by kernel_rfl) ⟨(by exact (below_ok (below_ok (below_ok (once_ok (below_ok (once_ok (pktD_ok hpre.1 hpre.2).1))))))), trivial⟩ fun a w h => then_normal (wp_block (wp_seq ?_))
   refine at_regq [] { ts := [6, 8, 41, 42], os := [1, 2, 4, 13, 14, 15] } [] gamOK hT h (by kernel_rfl) trivial fun a w h => then_normal ?_
   refine at_test (decide ((belowC (belowC (belowC (belowC (onceC (belowC (onceC (pktD x0 x2).1 3).1 9).1 8).1 4).1 4).1 6).1 8).2 = 0)) h (by kernel_rfl) (fun h8 => ?_) (fun h8 => ?_)
   ·replace h8 : (belowC (belowC (belowC (belowC (onceC (belowC (onceC (pktD x0 x2).1 3).1 9).1 8).1 4).1 4).1 6).1 8).2 = 0 := of_decide_eq_true h8
    refine at_regq [{}, {}, { nw := true }] { ts := [6, 8], os := [1, 2, 4, 13, 14, 15] } [I64 ((sendOnLink x1 (belowC (onceC (belowC (onceC (pktD x0 x2).1 3).1 9).1 8).1 4).2 (belowC (belowC (onceC (belowC (onceC (pktD x0 x2).1 3).1 9).1 8).1 4).1 4).2 (belowC (belowC (belowC (onceC (belowC (onceC (pktD x0 x2).1 3).1 9).1 8).1 4).1 4).1 6).2 ((pktD x0 x2).2.1, ((pktD x0 x2).2.2.1, (List.set (pktD x0 x2).2.2.2 0 (Int.tmod ((((pktD x0 x2).2.2.2.getD 0 0) + 1) + (belowC (onceC (pktD x0 x2).1 3).1 9).2) 1019))))).2.2.2.2 + 1)] gamOK hT h (by kernel_rfl) ⟨⟨by (have hA0 := tmod_f ((((pktD x0 x2).2.2.2.getD 0 0) + 1) + (belowC (onceC (pktD x0 x2).1 3).1 9).2) 1019; first | omega | (simp only [lsA]; omega) | exact sendMAC_lo | exact sendMAC_hi | exact sendFrom_lo (hb4 _) | exact sendFrom_hi (hb4 _) | (simp <;> omega)), by (have hA0 := tmod_f ((((pktD x0 x2).2.2.2.getD 0 0) + 1) + (belowC (onceC (pktD x0 x2).1 3).1 9).2) 1019; first | omega | (simp only [lsA]; omega) | exact sendMAC_lo | exact sendMAC_hi | exact sendFrom_lo (hb4 _) | exact sendFrom_hi (hb4 _) | (simp <;> omega))⟩, trivial⟩ fun a w h => in_normal (then_normal (wp_seq ?_))
    refine at_regq [] { ts := [6], os := [1, 2, 4, 13, 14] } [] gamOK hT h (by kernel_rfl) trivial fun a w h => then_normal (wp_ret ?_)
    have hr9 : (((belowC (belowC (belowC (belowC (onceC (belowC (onceC (pktD x0 x2).1 3).1 9).1 8).1 4).1 4).1 6).1 8).1, ((sendOnLink x1 (belowC (onceC (belowC (onceC (pktD x0 x2).1 3).1 9).1 8).1 4).2 (belowC (belowC (onceC (belowC (onceC (pktD x0 x2).1 3).1 9).1 8).1 4).1 4).2 (belowC (belowC (belowC (onceC (belowC (onceC (pktD x0 x2).1 3).1 9).1 8).1 4).1 4).1 6).2 ((pktD x0 x2).2.1, ((pktD x0 x2).2.2.1, (List.set (pktD x0 x2).2.2.2 0 (Int.tmod ((((pktD x0 x2).2.2.2.getD 0 0) + 1) + (belowC (onceC (pktD x0 x2).1 3).1 9).2) 1019))))).1, ((sendOnLink x1 (belowC (onceC (belowC (onceC (pktD x0 x2).1 3).1 9).1 8).1 4).2 (belowC (belowC (onceC (belowC (onceC (pktD x0 x2).1 3).1 9).1 8).1 4).1 4).2 (belowC (belowC (belowC (onceC (belowC (onceC (pktD x0 x2).1 3).1 9).1 8).1 4).1 4).1 6).2 ((pktD x0 x2).2.1, ((pktD x0 x2).2.2.1, (List.set (pktD x0 x2).2.2.2 0 (Int.tmod ((((pktD x0 x2).2.2.2.getD 0 0) + 1) + (belowC (onceC (pktD x0 x2).1 3).1 9).2) 1019))))).2.1, ((sendOnLink x1 (belowC (onceC (belowC (onceC (pktD x0 x2).1 3).1 9).1 8).1 4).2 (belowC (belowC (onceC (belowC (onceC (pktD x0 x2).1 3).1 9).1 8).1 4).1 4).2 (belowC (belowC (belowC (onceC (belowC (onceC (pktD x0 x2).1 3).1 9).1 8).1 4).1 4).1 6).2 ((pktD x0 x2).2.1, ((pktD x0 x2).2.2.1, (List.set (pktD x0 x2).2.2.2 0 (Int.tmod ((((pktD x0 x2).2.2.2.getD 0 0) + 1) + (belowC (onceC (pktD x0 x2).1 3).1 9).2) 1019))))).2.2.1, ((sendOnLink x1 (belowC (onceC (belowC (onceC (pktD x0 x2).1 3).1 9).1 8).1 4).2 (belowC (belowC (onceC (belowC (onceC (pktD x0 x2).1 3).1 9).1 8).1 4).1 4).2 (belowC (belowC (belowC (onceC (belowC (onceC (pktD x0 x2).1 3).1 9).1 8).1 4).1 4).1 6).2 ((pktD x0 x2).2.1, ((pktD x0 x2).2.2.1, (List.set (pktD x0 x2).2.2.2 0 (Int.tmod ((((pktD x0 x2).2.2.2.getD 0 0) + 1) + (belowC (onceC (pktD x0 x2).1 3).1 9).2) 1019))))).2.2.2.1, (sendOnLink x1 (belowC (onceC (belowC (onceC (pktD x0 x2).1 3).1 9).1 8).1 4).2 (belowC (belowC (onceC (belowC (onceC (pktD x0 x2).1 3).1 9).1 8).1 4).1 4).2 (belowC (belowC (belowC (onceC (belowC (onceC (pktD x0 x2).1 3).1 9).1 8).1 4).1 4).1 6).2 ((pktD x0 x2).2.1, ((pktD x0 x2).2.2.1, (List.set (pktD x0 x2).2.2.2 0 (Int.tmod ((((pktD x0 x2).2.2.2.getD 0 0) + 1) + (belowC (onceC (pktD x0 x2).1 3).1 9).2) 1019))))).2.2.2.2 + 1))))) : T109 × T53) = linkD x0 x1 x2 := by (unfold linkD; rw [if_pos h1, if_neg (neT h2), if_pos h8])
    exact at_returnB (B := B_spec_l28Link) (c0 := x0) (x := (x1, x2, ())) ((belowC (belowC (belowC (belowC (onceC (belowC (onceC (pktD x0 x2).1 3).1 9).1 8).1 4).1 4).1 6).1 8).1) (((sendOnLink x1 (belowC (onceC (belowC (onceC (pktD x0 x2).1 3).1 9).1 8).1 4).2 (belowC (belowC (onceC (belowC (onceC (pktD x0 x2).1 3).1 9).1 8).1 4).1 4).2 (belowC (belowC (belowC (onceC (belowC (onceC (pktD x0 x2).1 3).1 9).1 8).1 4).1 4).1 6).2 ((pktD x0 x2).2.1, ((pktD x0 x2).2.2.1, (List.set (pktD x0 x2).2.2.2 0 (Int.tmod ((((pktD x0 x2).2.2.2.getD 0 0) + 1) + (belowC (onceC (pktD x0 x2).1 3).1 9).2) 1019))))).1, ((sendOnLink x1 (belowC (onceC (belowC (onceC (pktD x0 x2).1 3).1 9).1 8).1 4).2 (belowC (belowC (onceC (belowC (onceC (pktD x0 x2).1 3).1 9).1 8).1 4).1 4).2 (belowC (belowC (belowC (onceC (belowC (onceC (pktD x0 x2).1 3).1 9).1 8).1 4).1 4).1 6).2 ((pktD x0 x2).2.1, ((pktD x0 x2).2.2.1, (List.set (pktD x0 x2).2.2.2 0 (Int.tmod ((((pktD x0 x2).2.2.2.getD 0 0) + 1) + (belowC (onceC (pktD x0 x2).1 3).1 9).2) 1019))))).2.1, ((sendOnLink x1 (belowC (onceC (belowC (onceC (pktD x0 x2).1 3).1 9).1 8).1 4).2 (belowC (belowC (onceC (belowC (onceC (pktD x0 x2).1 3).1 9).1 8).1 4).1 4).2 (belowC (belowC (belowC (onceC (belowC (onceC (pktD x0 x2).1 3).1 9).1 8).1 4).1 4).1 6).2 ((pktD x0 x2).2.1, ((pktD x0 x2).2.2.1, (List.set (pktD x0 x2).2.2.2 0 (Int.tmod ((((pktD x0 x2).2.2.2.getD 0 0) + 1) + (belowC (onceC (pktD x0 x2).1 3).1 9).2) 1019))))).2.2.1, ((sendOnLink x1 (belowC (onceC (belowC (onceC (pktD x0 x2).1 3).1 9).1 8).1 4).2 (belowC (belowC (onceC (belowC (onceC (pktD x0 x2).1 3).1 9).1 8).1 4).1 4).2 (belowC (belowC (belowC (onceC (belowC (onceC (pktD x0 x2).1 3).1 9).1 8).1 4).1 4).1 6).2 ((pktD x0 x2).2.1, ((pktD x0 x2).2.2.1, (List.set (pktD x0 x2).2.2.2 0 (Int.tmod ((((pktD x0 x2).2.2.2.getD 0 0) + 1) + (belowC (onceC (pktD x0 x2).1 3).1 9).2) 1019))))).2.2.2.1, (sendOnLink x1 (belowC (onceC (belowC (onceC (pktD x0 x2).1 3).1 9).1 8).1 4).2 (belowC (belowC (onceC (belowC (onceC (pktD x0 x2).1 3).1 9).1 8).1 4).1 4).2 (belowC (belowC (belowC (onceC (belowC (onceC (pktD x0 x2).1 3).1 9).1 8).1 4).1 4).1 6).2 ((pktD x0 x2).2.1, ((pktD x0 x2).2.2.1, (List.set (pktD x0 x2).2.2.2 0 (Int.tmod ((((pktD x0 x2).2.2.2.getD 0 0) + 1) + (belowC (onceC (pktD x0 x2).1 3).1 9).2) 1019))))).2.2.2.2 + 1)))), ()) [(Value.pointer (some ⟨b0, 0, none⟩)) = (Value.pointer (some ⟨b0, 0, none⟩))] h (by kernel_rfl) ⟨rfl, trivial⟩ (congrArg (a₁ := ((belowC (belowC (belowC (belowC (onceC (belowC (onceC (pktD x0 x2).1 3).1 9).1 8).1 4).1 4).1 6).1 8).1, ((sendOnLink x1 (belowC (onceC (belowC (onceC (pktD x0 x2).1 3).1 9).1 8).1 4).2 (belowC (belowC (onceC (belowC (onceC (pktD x0 x2).1 3).1 9).1 8).1 4).1 4).2 (belowC (belowC (belowC (onceC (belowC (onceC (pktD x0 x2).1 3).1 9).1 8).1 4).1 4).1 6).2 ((pktD x0 x2).2.1, ((pktD x0 x2).2.2.1, (List.set (pktD x0 x2).2.2.2 0 (Int.tmod ((((pktD x0 x2).2.2.2.getD 0 0) + 1) + (belowC (onceC (pktD x0 x2).1 3).1 9).2) 1019))))).1, ((sendOnLink x1 (belowC (onceC (belowC (onceC (pktD x0 x2).1 3).1 9).1 8).1 4).2 (belowC (belowC (onceC (belowC (onceC (pktD x0 x2).1 3).1 9).1 8).1 4).1 4).2 (belowC (belowC (belowC (onceC (belowC (onceC (pktD x0 x2).1 3).1 9).1 8).1 4).1 4).1 6).2 ((pktD x0 x2).2.1, ((pktD x0 x2).2.2.1, (List.set (pktD x0 x2).2.2.2 0 (Int.tmod ((((pktD x0 x2).2.2.2.getD 0 0) + 1) + (belowC (onceC (pktD x0 x2).1 3).1 9).2) 1019))))).2.1, ((sendOnLink x1 (belowC (onceC (belowC (onceC (pktD x0 x2).1 3).1 9).1 8).1 4).2 (belowC (belowC (onceC (belowC (onceC (pktD x0 x2).1 3).1 9).1 8).1 4).1 4).2 (belowC (belowC (belowC (onceC (belowC (onceC (pktD x0 x2).1 3).1 9).1 8).1 4).1 4).1 6).2 ((pktD x0 x2).2.1, ((pktD x0 x2).2.2.1, (List.set (pktD x0 x2).2.2.2 0 (Int.tmod ((((pktD x0 x2).2.2.2.getD 0 0) + 1) + (belowC (onceC (pktD x0 x2).1 3).1 9).2) 1019))))).2.2.1, ((sendOnLink x1 (belowC (onceC (belowC (onceC (pktD x0 x2).1 3).1 9).1 8).1 4).2 (belowC (belowC (onceC (belowC (onceC (pktD x0 x2).1 3).1 9).1 8).1 4).1 4).2 (belowC (belowC (belowC (onceC (belowC (onceC (pktD x0 x2).1 3).1 9).1 8).1 4).1 4).1 6).2 ((pktD x0 x2).2.1, ((pktD x0 x2).2.2.1, (List.set (pktD x0 x2).2.2.2 0 (Int.tmod ((((pktD x0 x2).2.2.2.getD 0 0) + 1) + (belowC (onceC (pktD x0 x2).1 3).1 9).2) 1019))))).2.2.2.1, (sendOnLink x1 (belowC (onceC (belowC (onceC (pktD x0 x2).1 3).1 9).1 8).1 4).2 (belowC (belowC (onceC (belowC (onceC (pktD x0 x2).1 3).1 9).1 8).1 4).1 4).2 (belowC (belowC (belowC (onceC (belowC (onceC (pktD x0 x2).1 3).1 9).1 8).1 4).1 4).1 6).2 ((pktD x0 x2).2.1, ((pktD x0 x2).2.2.1, (List.set (pktD x0 x2).2.2.2 0 (Int.tmod ((((pktD x0 x2).2.2.2.getD 0 0) + 1) + (belowC (onceC (pktD x0 x2).1 3).1 9).2) 1019))))).2.2.2.2 + 1)))))) (a₂ := linkD x0 x1 x2) (fun (z : T109 × T53) => z.1) hr9) (congrArg (a₁ := ((belowC (belowC (belowC (belowC (onceC (belowC (onceC (pktD x0 x2).1 3).1 9).1 8).1 4).1 4).1 6).1 8).1, ((sendOnLink x1 (belowC (onceC (belowC (onceC (pktD x0 x2).1 3).1 9).1 8).1 4).2 (belowC (belowC (onceC (belowC (onceC (pktD x0 x2).1 3).1 9).1 8).1 4).1 4).2 (belowC (belowC (belowC (onceC (belowC (onceC (pktD x0 x2).1 3).1 9).1 8).1 4).1 4).1 6).2 ((pktD x0 x2).2.1, ((pktD x0 x2).2.2.1, (List.set (pktD x0 x2).2.2.2 0 (Int.tmod ((((pktD x0 x2).2.2.2.getD 0 0) + 1) + (belowC (onceC (pktD x0 x2).1 3).1 9).2) 1019))))).1, ((sendOnLink x1 (belowC (onceC (belowC (onceC (pktD x0 x2).1 3).1 9).1 8).1 4).2 (belowC (belowC (onceC (belowC (onceC (pktD x0 x2).1 3).1 9).1 8).1 4).1 4).2 (belowC (belowC (belowC (onceC (belowC (onceC (pktD x0 x2).1 3).1 9).1 8).1 4).1 4).1 6).2 ((pktD x0 x2).2.1, ((pktD x0 x2).2.2.1, (List.set (pktD x0 x2).2.2.2 0 (Int.tmod ((((pktD x0 x2).2.2.2.getD 0 0) + 1) + (belowC (onceC (pktD x0 x2).1 3).1 9).2) 1019))))).2.1, ((sendOnLink x1 (belowC (onceC (belowC (onceC (pktD x0 x2).1 3).1 9).1 8).1 4).2 (belowC (belowC (onceC (belowC (onceC (pktD x0 x2).1 3).1 9).1 8).1 4).1 4).2 (belowC (belowC (belowC (onceC (belowC (onceC (pktD x0 x2).1 3).1 9).1 8).1 4).1 4).1 6).2 ((pktD x0 x2).2.1, ((pktD x0 x2).2.2.1, (List.set (pktD x0 x2).2.2.2 0 (Int.tmod ((((pktD x0 x2).2.2.2.getD 0 0) + 1) + (belowC (onceC (pktD x0 x2).1 3).1 9).2) 1019))))).2.2.1, ((sendOnLink x1 (belowC (onceC (belowC (onceC (pktD x0 x2).1 3).1 9).1 8).1 4).2 (belowC (belowC (onceC (belowC (onceC (pktD x0 x2).1 3).1 9).1 8).1 4).1 4).2 (belowC (belowC (belowC (onceC (belowC (onceC (pktD x0 x2).1 3).1 9).1 8).1 4).1 4).1 6).2 ((pktD x0 x2).2.1, ((pktD x0 x2).2.2.1, (List.set (pktD x0 x2).2.2.2 0 (Int.tmod ((((pktD x0 x2).2.2.2.getD 0 0) + 1) + (belowC (onceC (pktD x0 x2).1 3).1 9).2) 1019))))).2.2.2.1, (sendOnLink x1 (belowC (onceC (belowC (onceC (pktD x0 x2).1 3).1 9).1 8).1 4).2 (belowC (belowC (onceC (belowC (onceC (pktD x0 x2).1 3).1 9).1 8).1 4).1 4).2 (belowC (belowC (belowC (onceC (belowC (onceC (pktD x0 x2).1 3).1 9).1 8).1 4).1 4).1 6).2 ((pktD x0 x2).2.1, ((pktD x0 x2).2.2.1, (List.set (pktD x0 x2).2.2.2 0 (Int.tmod ((((pktD x0 x2).2.2.2.getD 0 0) + 1) + (belowC (onceC (pktD x0 x2).1 3).1 9).2) 1019))))).2.2.2.2 + 1)))))) (a₂ := linkD x0 x1 x2) (fun (z : T109 × T53) => (z.2, ())) hr9)
   ·replace h8 : ¬ ((belowC (belowC (belowC (belowC (onceC (belowC (onceC (pktD x0 x2).1 3).1 9).1 8).1 4).1 4).1 6).1 8).2 = 0) := of_decide_eq_false h8
    refine wp_seq ?_
    refine at_regq [] { ts := [6, 8, 48], os := [1, 2, 4, 13, 14, 15] } [] gamOK hT h (by kernel_rfl) trivial fun a w h => then_normal ?_
    refine at_test (decide ((belowC (belowC (belowC (belowC (onceC (belowC (onceC (pktD x0 x2).1 3).1 9).1 8).1 4).1 4).1 6).1 8).2 = 1)) h (by kernel_rfl) (fun h10 => ?_) (fun h10 => ?_)
    ·replace h10 : (belowC (belowC (belowC (belowC (onceC (belowC (onceC (pktD x0 x2).1 3).1 9).1 8).1 4).1 4).1 6).1 8).2 = 1 := of_decide_eq_true h10
     refine at_regq [{}, {}, { nw := true }] { ts := [6, 8], os := [1, 2, 4, 13, 14, 15] } [I64 ((sendOnLink x1 (belowC (onceC (belowC (onceC (pktD x0 x2).1 3).1 9).1 8).1 4).2 (belowC (belowC (onceC (belowC (onceC (pktD x0 x2).1 3).1 9).1 8).1 4).1 4).2 (belowC (belowC (belowC (onceC (belowC (onceC (pktD x0 x2).1 3).1 9).1 8).1 4).1 4).1 6).2 ((pktD x0 x2).2.1, ((pktD x0 x2).2.2.1, (List.set (pktD x0 x2).2.2.2 0 (Int.tmod ((((pktD x0 x2).2.2.2.getD 0 0) + 1) + (belowC (onceC (pktD x0 x2).1 3).1 9).2) 1019))))).1 + 1)] gamOK hT h (by kernel_rfl) ⟨⟨by (have hA0 := tmod_f ((((pktD x0 x2).2.2.2.getD 0 0) + 1) + (belowC (onceC (pktD x0 x2).1 3).1 9).2) 1019; first | omega | (simp only [lsA]; omega) | exact sendMAC_lo | exact sendMAC_hi | exact sendFrom_lo (hb4 _) | exact sendFrom_hi (hb4 _) | (simp <;> omega)), by (have hA0 := tmod_f ((((pktD x0 x2).2.2.2.getD 0 0) + 1) + (belowC (onceC (pktD x0 x2).1 3).1 9).2) 1019; first | omega | (simp only [lsA]; omega) | exact sendMAC_lo | exact sendMAC_hi | exact sendFrom_lo (hb4 _) | exact sendFrom_hi (hb4 _) | (simp <;> omega))⟩, trivial⟩ fun a w h => in_normal (then_normal (wp_seq ?_))
     refine at_regq [] { ts := [6], os := [1, 2, 4, 13, 14] } [] gamOK hT h (by kernel_rfl) trivial fun a w h => then_normal (wp_ret ?_)
     have hr11 : (((belowC (belowC (belowC (belowC (onceC (belowC (onceC (pktD x0 x2).1 3).1 9).1 8).1 4).1 4).1 6).1 8).1, ((sendOnLink x1 (belowC (onceC (belowC (onceC (pktD x0 x2).1 3).1 9).1 8).1 4).2 (belowC (belowC (onceC (belowC (onceC (pktD x0 x2).1 3).1 9).1 8).1 4).1 4).2 (belowC (belowC (belowC (onceC (belowC (onceC (pktD x0 x2).1 3).1 9).1 8).1 4).1 4).1 6).2 ((pktD x0 x2).2.1, ((pktD x0 x2).2.2.1, (List.set (pktD x0 x2).2.2.2 0 (Int.tmod ((((pktD x0 x2).2.2.2.getD 0 0) + 1) + (belowC (onceC (pktD x0 x2).1 3).1 9).2) 1019))))).1 + 1, (sendOnLink x1 (belowC (onceC (belowC (onceC (pktD x0 x2).1 3).1 9).1 8).1 4).2 (belowC (belowC (onceC (belowC (onceC (pktD x0 x2).1 3).1 9).1 8).1 4).1 4).2 (belowC (belowC (belowC (onceC (belowC (onceC (pktD x0 x2).1 3).1 9).1 8).1 4).1 4).1 6).2 ((pktD x0 x2).2.1, ((pktD x0 x2).2.2.1, (List.set (pktD x0 x2).2.2.2 0 (Int.tmod ((((pktD x0 x2).2.2.2.getD 0 0) + 1) + (belowC (onceC (pktD x0 x2).1 3).1 9).2) 1019))))).2)) : T109 × T53) = linkD x0 x1 x2 := by (unfold linkD; rw [if_pos h1, if_neg (neT h2), if_neg h8, if_pos h10])
     exact at_returnB (B := B_spec_l28Link) (c0 := x0) (x := (x1, x2, ())) ((belowC (belowC (belowC (belowC (onceC (belowC (onceC (pktD x0 x2).1 3).1 9).1 8).1 4).1 4).1 6).1 8).1) (((sendOnLink x1 (belowC (onceC (belowC (onceC (pktD x0 x2).1 3).1 9).1 8).1 4).2 (belowC (belowC (onceC (belowC (onceC (pktD x0 x2).1 3).1 9).1 8).1 4).1 4).2 (belowC (belowC (belowC (onceC (belowC (onceC (pktD x0 x2).1 3).1 9).1 8).1 4).1 4).1 6).2 ((pktD x0 x2).2.1, ((pktD x0 x2).2.2.1, (List.set (pktD x0 x2).2.2.2 0 (Int.tmod ((((pktD x0 x2).2.2.2.getD 0 0) + 1) + (belowC (onceC (pktD x0 x2).1 3).1 9).2) 1019))))).1 + 1, (sendOnLink x1 (belowC (onceC (belowC (onceC (pktD x0 x2).1 3).1 9).1 8).1 4).2 (belowC (belowC (onceC (belowC (onceC (pktD x0 x2).1 3).1 9).1 8).1 4).1 4).2 (belowC (belowC (belowC (onceC (belowC (onceC (pktD x0 x2).1 3).1 9).1 8).1 4).1 4).1 6).2 ((pktD x0 x2).2.1, ((pktD x0 x2).2.2.1, (List.set (pktD x0 x2).2.2.2 0 (Int.tmod ((((pktD x0 x2).2.2.2.getD 0 0) + 1) + (belowC (onceC (pktD x0 x2).1 3).1 9).2) 1019))))).2), ()) [(Value.pointer (some ⟨b0, 0, none⟩)) = (Value.pointer (some ⟨b0, 0, none⟩))] h (by kernel_rfl) ⟨rfl, trivial⟩ (congrArg (a₁ := ((belowC (belowC (belowC (belowC (onceC (belowC (onceC (pktD x0 x2).1 3).1 9).1 8).1 4).1 4).1 6).1 8).1, ((sendOnLink x1 (belowC (onceC (belowC (onceC (pktD x0 x2).1 3).1 9).1 8).1 4).2 (belowC (belowC (onceC (belowC (onceC (pktD x0 x2).1 3).1 9).1 8).1 4).1 4).2 (belowC (belowC (belowC (onceC (belowC (onceC (pktD x0 x2).1 3).1 9).1 8).1 4).1 4).1 6).2 ((pktD x0 x2).2.1, ((pktD x0 x2).2.2.1, (List.set (pktD x0 x2).2.2.2 0 (Int.tmod ((((pktD x0 x2).2.2.2.getD 0 0) + 1) + (belowC (onceC (pktD x0 x2).1 3).1 9).2) 1019))))).1 + 1, (sendOnLink x1 (belowC (onceC (belowC (onceC (pktD x0 x2).1 3).1 9).1 8).1 4).2 (belowC (belowC (onceC (belowC (onceC (pktD x0 x2).1 3).1 9).1 8).1 4).1 4).2 (belowC (belowC (belowC (onceC (belowC (onceC (pktD x0 x2).1 3).1 9).1 8).1 4).1 4).1 6).2 ((pktD x0 x2).2.1, ((pktD x0 x2).2.2.1, (List.set (pktD x0 x2).2.2.2 0 (Int.tmod ((((pktD x0 x2).2.2.2.getD 0 0) + 1) + (belowC (onceC (pktD x0 x2).1 3).1 9).2) 1019))))).2))) (a₂ := linkD x0 x1 x2) (fun (z : T109 × T53) => z.1) hr11) (congrArg (a₁ := ((belowC (belowC (belowC (belowC (onceC (belowC (onceC (pktD x0 x2).1 3).1 9).1 8).1 4).1 4).1 6).1 8).1, ((sendOnLink x1 (belowC (onceC (belowC (onceC (pktD x0 x2).1 3).1 9).1 8).1 4).2 (belowC (belowC (onceC (belowC (onceC (pktD x0 x2).1 3).1 9).1 8).1 4).1 4).2 (belowC (belowC (belowC (onceC (belowC (onceC (pktD x0 x2).1 3).1 9).1 8).1 4).1 4).1 6).2 ((pktD x0 x2).2.1, ((pktD x0 x2).2.2.1, (List.set (pktD x0 x2).2.2.2 0 (Int.tmod ((((pktD x0 x2).2.2.2.getD 0 0) + 1) + (belowC (onceC (pktD x0 x2).1 3).1 9).2) 1019))))).1 + 1, (sendOnLink x1 (belowC (onceC (belowC (onceC (pktD x0 x2).1 3).1 9).1 8).1 4).2 (belowC (belowC (onceC (belowC (onceC (pktD x0 x2).1 3).1 9).1 8).1 4).1 4).2 (belowC (belowC (belowC (onceC (belowC (onceC (pktD x0 x2).1 3).1 9).1 8).1 4).1 4).1 6).2 ((pktD x0 x2).2.1, ((pktD x0 x2).2.2.1, (List.set (pktD x0 x2).2.2.2 0 (Int.tmod ((((pktD x0 x2).2.2.2.getD 0 0) + 1) + (belowC (onceC (pktD x0 x2).1 3).1 9).2) 1019))))).2))) (a₂ := linkD x0 x1 x2) (fun (z : T109 × T53) => (z.2, ())) hr11)
    ·replace h10 : ¬ ((belowC (belowC (belowC (belowC (onceC (belowC (onceC (pktD x0 x2).1 3).1 9).1 8).1 4).1 4).1 6).1 8).2 = 1) := of_decide_eq_false h10
     refine wp_skip (in_normal (then_normal (wp_seq ?_)))
     refine at_regq [] { ts := [6], os := [1, 2, 4, 13, 14] } [] gamOK hT h (by kernel_rfl) trivial fun a w h => then_normal (wp_ret ?_)
     have hr12 : (((belowC (belowC (belowC (belowC (onceC (belowC (onceC (pktD x0 x2).1 3).1 9).1 8).1 4).1 4).1 6).1 8).1, (sendOnLink x1 (belowC (onceC (belowC (onceC (pktD x0 x2).1 3).1 9).1 8).1 4).2 (belowC (belowC (onceC (belowC (onceC (pktD x0 x2).1 3).1 9).1 8).1 4).1 4).2 (belowC (belowC (belowC (onceC (belowC (onceC (pktD x0 x2).1 3).1 9).1 8).1 4).1 4).1 6).2 ((pktD x0 x2).2.1, ((pktD x0 x2).2.2.1, (List.set (pktD x0 x2).2.2.2 0 (Int.tmod ((((pktD x0 x2).2.2.2.getD 0 0) + 1) + (belowC (onceC (pktD x0 x2).1 3).1 9).2) 1019)))))) : T109 × T53) = linkD x0 x1 x2 := by (unfold linkD; rw [if_pos h1, if_neg (neT h2), if_neg h8, if_neg h10])
     exact at_returnB (B := B_spec_l28Link) (c0 := x0) (x := (x1, x2, ())) ((belowC (belowC (belowC (belowC (onceC (belowC (onceC (pktD x0 x2).1 3).1 9).1 8).1 4).1 4).1 6).1 8).1) ((sendOnLink x1 (belowC (onceC (belowC (onceC (pktD x0 x2).1 3).1 9).1 8).1 4).2 (belowC (belowC (onceC (belowC (onceC (pktD x0 x2).1 3).1 9).1 8).1 4).1 4).2 (belowC (belowC (belowC (onceC (belowC (onceC (pktD x0 x2).1 3).1 9).1 8).1 4).1 4).1 6).2 ((pktD x0 x2).2.1, ((pktD x0 x2).2.2.1, (List.set (pktD x0 x2).2.2.2 0 (Int.tmod ((((pktD x0 x2).2.2.2.getD 0 0) + 1) + (belowC (onceC (pktD x0 x2).1 3).1 9).2) 1019))))), ()) [(Value.pointer (some ⟨b0, 0, none⟩)) = (Value.pointer (some ⟨b0, 0, none⟩))] h (by kernel_rfl) ⟨rfl, trivial⟩ (congrArg (a₁ := ((belowC (belowC (belowC (belowC (onceC (belowC (onceC (pktD x0 x2).1 3).1 9).1 8).1 4).1 4).1 6).1 8).1, (sendOnLink x1 (belowC (onceC (belowC (onceC (pktD x0 x2).1 3).1 9).1 8).1 4).2 (belowC (belowC (onceC (belowC (onceC (pktD x0 x2).1 3).1 9).1 8).1 4).1 4).2 (belowC (belowC (belowC (onceC (belowC (onceC (pktD x0 x2).1 3).1 9).1 8).1 4).1 4).1 6).2 ((pktD x0 x2).2.1, ((pktD x0 x2).2.2.1, (List.set (pktD x0 x2).2.2.2 0 (Int.tmod ((((pktD x0 x2).2.2.2.getD 0 0) + 1) + (belowC (onceC (pktD x0 x2).1 3).1 9).2) 1019))))))) (a₂ := linkD x0 x1 x2) (fun (z : T109 × T53) => z.1) hr12) (congrArg (a₁ := ((belowC (belowC (belowC (belowC (onceC (belowC (onceC (pktD x0 x2).1 3).1 9).1 8).1 4).1 4).1 6).1 8).1, (sendOnLink x1 (belowC (onceC (belowC (onceC (pktD x0 x2).1 3).1 9).1 8).1 4).2 (belowC (belowC (onceC (belowC (onceC (pktD x0 x2).1 3).1 9).1 8).1 4).1 4).2 (belowC (belowC (belowC (onceC (belowC (onceC (pktD x0 x2).1 3).1 9).1 8).1 4).1 4).1 6).2 ((pktD x0 x2).2.1, ((pktD x0 x2).2.2.1, (List.set (pktD x0 x2).2.2.2 0 (Int.tmod ((((pktD x0 x2).2.2.2.getD 0 0) + 1) + (belowC (onceC (pktD x0 x2).1 3).1 9).2) 1019))))))) (a₂ := linkD x0 x1 x2) (fun (z : T109 × T53) => (z.2, ())) hr12)
 ·refine wp_skip (then_normal (wp_seq (wp_seq ?_)))
  refine at_regq [] { ts := [0, 1, 5, 6, 7, 27], os := [1, 2, 3, 4, 5, 6, 7] } [B_spec_l1Once.pre (onceC (pktD x0 x2).1 3).1 (8, ())] gamOK hT h (by kernel_rfl) ⟨(by exact (once_ok (pktD_ok hpre.1 hpre.2).1)), trivial⟩ fun a w h => then_normal ?_
  refine at_test ((onceC (onceC (pktD x0 x2).1 3).1 8).2) h (by kernel_rfl) (fun h13 => ?_) (fun h13 => ?_)
  ·refine at_regq [{}, {}, { ids := [16, 17] }] { ts := [0, 1, 6, 7], os := [1, 2, 4, 7, 16, 17] } [B_spec_l11Any.pre (onceC (onceC (pktD x0 x2).1 3).1 8).1 (x2, ())] gamOK hT h (by kernel_rfl) ⟨(by exact ⟨(once_ok (once_ok (pktD_ok hpre.1 hpre.2).1)), hpre.2⟩), trivial⟩ fun a w h => then_normal (wp_seq ?_)
   refine at_anyq [{}, {}, {}, {}, {}, {}, {}, {}, { ids := [18, 19] }, { ids := [20] }, {}] { ts := [0, 6, 8], os := [1, 2, 4, 18, 19, 20] } [B_spec_l1Below.pre (anyP (onceC (onceC (pktD x0 x2).1 3).1 8).1 x2).1 (4, ()), B_spec_l1Below.pre (belowC (anyP (onceC (onceC (pktD x0 x2).1 3).1 8).1 x2).1 4).1 (4, ()), B_spec_l1Below.pre (belowC (belowC (anyP (onceC (onceC (pktD x0 x2).1 3).1 8).1 x2).1 4).1 4).1 (6, ()), Q_spec_SendOnLink x1 (belowC (anyP (onceC (onceC (pktD x0 x2).1 3).1 8).1 x2).1 4).2 (belowC (belowC (anyP (onceC (onceC (pktD x0 x2).1 3).1 8).1 x2).1 4).1 4).2 (belowC (belowC (belowC (anyP (onceC (onceC (pktD x0 x2).1 3).1 8).1 x2).1 4).1 4).1 6).2 (anyP (onceC (onceC (pktD x0 x2).1 3).1 8).1 x2).2] gamOK hT mixed h (by kernel_rfl) ⟨(by exact (anyP_ok (once_ok (once_ok (pktD_ok hpre.1 hpre.2).1)) hpre.2).1), (by exact (below_ok (anyP_ok (once_ok (once_ok (pktD_ok hpre.1 hpre.2).1)) hpre.2).1)), (by exact (below_ok (below_ok (anyP_ok (once_ok (once_ok (pktD_ok hpre.1 hpre.2).1)) hpre.2).1))), (by exact (And.intro trivial (anyP_fit (once_ok (once_ok (pktD_ok hpre.1 hpre.2).1)) hpre.2) : True ∧ _).2), trivial⟩ fun a w h => then_normal (wp_seq (wp_seq ?_))
   refine at_regq [] { ts := [6, 8, 41], os := [1, 2, 4, 18, 19, 20] } [B_spec_l1Below.pre (belowC (belowC (belowC (anyP (onceC (onceC (pktD x0 x2).1 3).1 8).1 x2).1 4).1 4).1 6).1 (8, ())] gamOK hT h (by kernel_rfl) ⟨(by exact (below_ok (below_ok (below_ok (anyP_ok (once_ok (once_ok (pktD_ok hpre.1 hpre.2).1)) hpre.2).1)))), trivial⟩ fun a w h => then_normal (wp_block (wp_seq ?_))
   refine at_regq [] { ts := [6, 8, 41, 42], os := [1, 2, 4, 18, 19, 20] } [] gamOK hT h (by kernel_rfl) trivial fun a w h => then_normal ?_
   refine at_test (decide ((belowC (belowC (belowC (belowC (anyP (onceC (onceC (pktD x0 x2).1 3).1 8).1 x2).1 4).1 4).1 6).1 8).2 = 0)) h (by kernel_rfl) (fun h14 => ?_) (fun h14 => ?_)
   ·replace h14 : (belowC (belowC (belowC (belowC (anyP (onceC (onceC (pktD x0 x2).1 3).1 8).1 x2).1 4).1 4).1 6).1 8).2 = 0 := of_decide_eq_true h14
    refine at_regq [{}, {}, { nw := true }] { ts := [6, 8], os := [1, 2, 4, 18, 19, 20] } [I64 ((sendOnLink x1 (belowC (anyP (onceC (onceC (pktD x0 x2).1 3).1 8).1 x2).1 4).2 (belowC (belowC (anyP (onceC (onceC (pktD x0 x2).1 3).1 8).1 x2).1 4).1 4).2 (belowC (belowC (belowC (anyP (onceC (onceC (pktD x0 x2).1 3).1 8).1 x2).1 4).1 4).1 6).2 (anyP (onceC (onceC (pktD x0 x2).1 3).1 8).1 x2).2).2.2.2.2 + 1)] gamOK hT h (by kernel_rfl) ⟨⟨by first | omega | (simp only [lsA]; omega) | exact sendMAC_lo | exact sendMAC_hi | exact sendFrom_lo (hb4 _) | exact sendFrom_hi (hb4 _) | (simp <;> omega), by first | omega | (simp only [lsA]; omega) | exact sendMAC_lo | exact sendMAC_hi | exact sendFrom_lo (hb4 _) | exact sendFrom_hi (hb4 _) | (simp <;> omega)⟩, trivial⟩ fun a w h => in_normal (then_normal (wp_seq ?_))
    refine at_regq [] { ts := [6], os := [1, 2, 4, 18, 19] } [] gamOK hT h (by kernel_rfl) trivial fun a w h => then_normal (wp_ret ?_)
    have hr15 : (((belowC (belowC (belowC (belowC (anyP (onceC (onceC (pktD x0 x2).1 3).1 8).1 x2).1 4).1 4).1 6).1 8).1, ((sendOnLink x1 (belowC (anyP (onceC (onceC (pktD x0 x2).1 3).1 8).1 x2).1 4).2 (belowC (belowC (anyP (onceC (onceC (pktD x0 x2).1 3).1 8).1 x2).1 4).1 4).2 (belowC (belowC (belowC (anyP (onceC (onceC (pktD x0 x2).1 3).1 8).1 x2).1 4).1 4).1 6).2 (anyP (onceC (onceC (pktD x0 x2).1 3).1 8).1 x2).2).1, ((sendOnLink x1 (belowC (anyP (onceC (onceC (pktD x0 x2).1 3).1 8).1 x2).1 4).2 (belowC (belowC (anyP (onceC (onceC (pktD x0 x2).1 3).1 8).1 x2).1 4).1 4).2 (belowC (belowC (belowC (anyP (onceC (onceC (pktD x0 x2).1 3).1 8).1 x2).1 4).1 4).1 6).2 (anyP (onceC (onceC (pktD x0 x2).1 3).1 8).1 x2).2).2.1, ((sendOnLink x1 (belowC (anyP (onceC (onceC (pktD x0 x2).1 3).1 8).1 x2).1 4).2 (belowC (belowC (anyP (onceC (onceC (pktD x0 x2).1 3).1 8).1 x2).1 4).1 4).2 (belowC (belowC (belowC (anyP (onceC (onceC (pktD x0 x2).1 3).1 8).1 x2).1 4).1 4).1 6).2 (anyP (onceC (onceC (pktD x0 x2).1 3).1 8).1 x2).2).2.2.1, ((sendOnLink x1 (belowC (anyP (onceC (onceC (pktD x0 x2).1 3).1 8).1 x2).1 4).2 (belowC (belowC (anyP (onceC (onceC (pktD x0 x2).1 3).1 8).1 x2).1 4).1 4).2 (belowC (belowC (belowC (anyP (onceC (onceC (pktD x0 x2).1 3).1 8).1 x2).1 4).1 4).1 6).2 (anyP (onceC (onceC (pktD x0 x2).1 3).1 8).1 x2).2).2.2.2.1, (sendOnLink x1 (belowC (anyP (onceC (onceC (pktD x0 x2).1 3).1 8).1 x2).1 4).2 (belowC (belowC (anyP (onceC (onceC (pktD x0 x2).1 3).1 8).1 x2).1 4).1 4).2 (belowC (belowC (belowC (anyP (onceC (onceC (pktD x0 x2).1 3).1 8).1 x2).1 4).1 4).1 6).2 (anyP (onceC (onceC (pktD x0 x2).1 3).1 8).1 x2).2).2.2.2.2 + 1))))) : T109 × T53) = linkD x0 x1 x2 := by (unfold linkD; rw [if_neg (neT h1), if_pos h13, if_pos h14])
    exact at_returnB (B := B_spec_l28Link) (c0 := x0) (x := (x1, x2, ())) ((belowC (belowC (belowC (belowC (anyP (onceC (onceC (pktD x0 x2).1 3).1 8).1 x2).1 4).1 4).1 6).1 8).1) (((sendOnLink x1 (belowC (anyP (onceC (onceC (pktD x0 x2).1 3).1 8).1 x2).1 4).2 (belowC (belowC (anyP (onceC (onceC (pktD x0 x2).1 3).1 8).1 x2).1 4).1 4).2 (belowC (belowC (belowC (anyP (onceC (onceC (pktD x0 x2).1 3).1 8).1 x2).1 4).1 4).1 6).2 (anyP (onceC (onceC (pktD x0 x2).1 3).1 8).1 x2).2).1, ((sendOnLink x1 (belowC (anyP (onceC (onceC (pktD x0 x2).1 3).1 8).1 x2).1 4).2 (belowC (belowC (anyP (onceC (onceC (pktD x0 x2).1 3).1 8).1 x2).1 4).1 4).2 (belowC (belowC (belowC (anyP (onceC (onceC (pktD x0 x2).1 3).1 8).1 x2).1 4).1 4).1 6).2 (anyP (onceC (onceC (pktD x0 x2).1 3).1 8).1 x2).2).2.1, ((sendOnLink x1 (belowC (anyP (onceC (onceC (pktD x0 x2).1 3).1 8).1 x2).1 4).2 (belowC (belowC (anyP (onceC (onceC (pktD x0 x2).1 3).1 8).1 x2).1 4).1 4).2 (belowC (belowC (belowC (anyP (onceC (onceC (pktD x0 x2).1 3).1 8).1 x2).1 4).1 4).1 6).2 (anyP (onceC (onceC (pktD x0 x2).1 3).1 8).1 x2).2).2.2.1, ((sendOnLink x1 (belowC (anyP (onceC (onceC (pktD x0 x2).1 3).1 8).1 x2).1 4).2 (belowC (belowC (anyP (onceC (onceC (pktD x0 x2).1 3).1 8).1 x2).1 4).1 4).2 (belowC (belowC (belowC (anyP (onceC (onceC (pktD x0 x2).1 3).1 8).1 x2).1 4).1 4).1 6).2 (anyP (onceC (onceC (pktD x0 x2).1 3).1 8).1 x2).2).2.2.2.1, (sendOnLink x1 (belowC (anyP (onceC (onceC (pktD x0 x2).1 3).1 8).1 x2).1 4).2 (belowC (belowC (anyP (onceC (onceC (pktD x0 x2).1 3).1 8).1 x2).1 4).1 4).2 (belowC (belowC (belowC (anyP (onceC (onceC (pktD x0 x2).1 3).1 8).1 x2).1 4).1 4).1 6).2 (anyP (onceC (onceC (pktD x0 x2).1 3).1 8).1 x2).2).2.2.2.2 + 1)))), ()) [(Value.pointer (some ⟨b0, 0, none⟩)) = (Value.pointer (some ⟨b0, 0, none⟩))] h (by kernel_rfl) ⟨rfl, trivial⟩ (congrArg (a₁ := ((belowC (belowC (belowC (belowC (anyP (onceC (onceC (pktD x0 x2).1 3).1 8).1 x2).1 4).1 4).1 6).1 8).1, ((sendOnLink x1 (belowC (anyP (onceC (onceC (pktD x0 x2).1 3).1 8).1 x2).1 4).2 (belowC (belowC (anyP (onceC (onceC (pktD x0 x2).1 3).1 8).1 x2).1 4).1 4).2 (belowC (belowC (belowC (anyP (onceC (onceC (pktD x0 x2).1 3).1 8).1 x2).1 4).1 4).1 6).2 (anyP (onceC (onceC (pktD x0 x2).1 3).1 8).1 x2).2).1, ((sendOnLink x1 (belowC (anyP (onceC (onceC (pktD x0 x2).1 3).1 8).1 x2).1 4).2 (belowC (belowC (anyP (onceC (onceC (pktD x0 x2).1 3).1 8).1 x2).1 4).1 4).2 (belowC (belowC (belowC (anyP (onceC (onceC (pktD x0 x2).1 3).1 8).1 x2).1 4).1 4).1 6).2 (anyP (onceC (onceC (pktD x0 x2).1 3).1 8).1 x2).2).2.1, ((sendOnLink x1 (belowC (anyP (onceC (onceC (pktD x0 x2).1 3).1 8).1 x2).1 4).2 (belowC (belowC (anyP (onceC (onceC (pktD x0 x2).1 3).1 8).1 x2).1 4).1 4).2 (belowC (belowC (belowC (anyP (onceC (onceC (pktD x0 x2).1 3).1 8).1 x2).1 4).1 4).1 6).2 (anyP (onceC (onceC (pktD x0 x2).1 3).1 8).1 x2).2).2.2.1, ((sendOnLink x1 (belowC (anyP (onceC (onceC (pktD x0 x2).1 3).1 8).1 x2).1 4).2 (belowC (belowC (anyP (onceC (onceC (pktD x0 x2).1 3).1 8).1 x2).1 4).1 4).2 (belowC (belowC (belowC (anyP (onceC (onceC (pktD x0 x2).1 3).1 8).1 x2).1 4).1 4).1 6).2 (anyP (onceC (onceC (pktD x0 x2).1 3).1 8).1 x2).2).2.2.2.1, (sendOnLink x1 (belowC (anyP (onceC (onceC (pktD x0 x2).1 3).1 8).1 x2).1 4).2 (belowC (belowC (anyP (onceC (onceC (pktD x0 x2).1 3).1 8).1 x2).1 4).1 4).2 (belowC (belowC (belowC (anyP (onceC (onceC (pktD x0 x2).1 3).1 8).1 x2).1 4).1 4).1 6).2 (anyP (onceC (onceC (pktD x0 x2).1 3).1 8).1 x2).2).2.2.2.2 + 1)))))) (a₂ := linkD x0 x1 x2) (fun (z : T109 × T53) => z.1) hr15) (congrArg (a₁ := ((belowC (belowC (belowC (belowC (anyP (onceC (onceC (pktD x0 x2).1 3).1 8).1 x2).1 4).1 4).1 6).1 8).1, ((sendOnLink x1 (belowC (anyP (onceC (onceC (pktD x0 x2).1 3).1 8).1 x2).1 4).2 (belowC (belowC (anyP (onceC (onceC (pktD x0 x2).1 3).1 8).1 x2).1 4).1 4).2 (belowC (belowC (belowC (anyP (onceC (onceC (pktD x0 x2).1 3).1 8).1 x2).1 4).1 4).1 6).2 (anyP (onceC (onceC (pktD x0 x2).1 3).1 8).1 x2).2).1, ((sendOnLink x1 (belowC (anyP (onceC (onceC (pktD x0 x2).1 3).1 8).1 x2).1 4).2 (belowC (belowC (anyP (onceC (onceC (pktD x0 x2).1 3).1 8).1 x2).1 4).1 4).2 (belowC (belowC (belowC (anyP (onceC (onceC (pktD x0 x2).1 3).1 8).1 x2).1 4).1 4).1 6).2 (anyP (onceC (onceC (pktD x0 x2).1 3).1 8).1 x2).2).2.1, ((sendOnLink x1 (belowC (anyP (onceC (onceC (pktD x0 x2).1 3).1 8).1 x2).1 4).2 (belowC (belowC (anyP (onceC (onceC (pktD x0 x2).1 3).1 8).1 x2).1 4).1 4).2 (belowC (belowC (belowC (anyP (onceC (onceC (pktD x0 x2).1 3).1 8).1 x2).1 4).1 4).1 6).2 (anyP (onceC (onceC (pktD x0 x2).1 3).1 8).1 x2).2).2.2.1, ((sendOnLink x1 (belowC (anyP (onceC (onceC (pktD x0 x2).1 3).1 8).1 x2).1 4).2 (belowC (belowC (anyP (onceC (onceC (pktD x0 x2).1 3).1 8).1 x2).1 4).1 4).2 (belowC (belowC (belowC (anyP (onceC (onceC (pktD x0 x2).1 3).1 8).1 x2).1 4).1 4).1 6).2 (anyP (onceC (onceC (pktD x0 x2).1 3).1 8).1 x2).2).2.2.2.1, (sendOnLink x1 (belowC (anyP (onceC (onceC (pktD x0 x2).1 3).1 8).1 x2).1 4).2 (belowC (belowC (anyP (onceC (onceC (pktD x0 x2).1 3).1 8).1 x2).1 4).1 4).2 (belowC (belowC (belowC (anyP (onceC (onceC (pktD x0 x2).1 3).1 8).1 x2).1 4).1 4).1 6).2 (anyP (onceC (onceC (pktD x0 x2).1 3).1 8).1 x2).2).2.2.2.2 + 1)))))) (a₂ := linkD x0 x1 x2) (fun (z : T109 × T53) => (z.2, ())) hr15)
   ·replace h14 : ¬ ((belowC (belowC (belowC (belowC (anyP (onceC (onceC (pktD x0 x2).1 3).1 8).1 x2).1 4).1 4).1 6).1 8).2 = 0) := of_decide_eq_false h14
    refine wp_seq ?_
    refine at_regq [] { ts := [6, 8, 48], os := [1, 2, 4, 18, 19, 20] } [] gamOK hT h (by kernel_rfl) trivial fun a w h => then_normal ?_
    refine at_test (decide ((belowC (belowC (belowC (belowC (anyP (onceC (onceC (pktD x0 x2).1 3).1 8).1 x2).1 4).1 4).1 6).1 8).2 = 1)) h (by kernel_rfl) (fun h16 => ?_) (fun h16 => ?_)
    ·replace h16 : (belowC (belowC (belowC (belowC (anyP (onceC (onceC (pktD x0 x2).1 3).1 8).1 x2).1 4).1 4).1 6).1 8).2 = 1 := of_decide_eq_true h16
     refine at_regq [{}, {}, { nw := true }] { ts := [6, 8], os := [1, 2, 4, 18, 19, 20] } [I64 ((sendOnLink x1 (belowC (anyP (onceC (onceC (pktD x0 x2).1 3).1 8).1 x2).1 4).2 (belowC (belowC (anyP (onceC (onceC (pktD x0 x2).1 3).1 8).1 x2).1 4).1 4).2 (belowC (belowC (belowC (anyP (onceC (onceC (pktD x0 x2).1 3).1 8).1 x2).1 4).1 4).1 6).2 (anyP (onceC (onceC (pktD x0 x2).1 3).1 8).1 x2).2).1 + 1)] gamOK hT h (by kernel_rfl) ⟨⟨by first | omega | (simp only [lsA]; omega) | exact sendMAC_lo | exact sendMAC_hi | exact sendFrom_lo (hb4 _) | exact sendFrom_hi (hb4 _) | (simp <;> omega), by first | omega | (simp only [lsA]; omega) | exact sendMAC_lo | exact sendMAC_hi | exact sendFrom_lo (hb4 _) | exact sendFrom_hi (hb4 _) | (simp <;> omega)⟩, trivial⟩ fun a w h => in_normal (then_normal (wp_seq ?_))
     refine at_regq [] { ts := [6], os := [1, 2, 4, 18, 19] } [] gamOK hT h (by kernel_rfl) trivial fun a w h => then_normal (wp_ret ?_)
     have hr17 : (((belowC (belowC (belowC (belowC (anyP (onceC (onceC (pktD x0 x2).1 3).1 8).1 x2).1 4).1 4).1 6).1 8).1, ((sendOnLink x1 (belowC (anyP (onceC (onceC (pktD x0 x2).1 3).1 8).1 x2).1 4).2 (belowC (belowC (anyP (onceC (onceC (pktD x0 x2).1 3).1 8).1 x2).1 4).1 4).2 (belowC (belowC (belowC (anyP (onceC (onceC (pktD x0 x2).1 3).1 8).1 x2).1 4).1 4).1 6).2 (anyP (onceC (onceC (pktD x0 x2).1 3).1 8).1 x2).2).1 + 1, (sendOnLink x1 (belowC (anyP (onceC (onceC (pktD x0 x2).1 3).1 8).1 x2).1 4).2 (belowC (belowC (anyP (onceC (onceC (pktD x0 x2).1 3).1 8).1 x2).1 4).1 4).2 (belowC (belowC (belowC (anyP (onceC (onceC (pktD x0 x2).1 3).1 8).1 x2).1 4).1 4).1 6).2 (anyP (onceC (onceC (pktD x0 x2).1 3).1 8).1 x2).2).2)) : T109 × T53) = linkD x0 x1 x2 := by (unfold linkD; rw [if_neg (neT h1), if_pos h13, if_neg h14, if_pos h16])
     exact at_returnB (B := B_spec_l28Link) (c0 := x0) (x := (x1, x2, ())) ((belowC (belowC (belowC (belowC (anyP (onceC (onceC (pktD x0 x2).1 3).1 8).1 x2).1 4).1 4).1 6).1 8).1) (((sendOnLink x1 (belowC (anyP (onceC (onceC (pktD x0 x2).1 3).1 8).1 x2).1 4).2 (belowC (belowC (anyP (onceC (onceC (pktD x0 x2).1 3).1 8).1 x2).1 4).1 4).2 (belowC (belowC (belowC (anyP (onceC (onceC (pktD x0 x2).1 3).1 8).1 x2).1 4).1 4).1 6).2 (anyP (onceC (onceC (pktD x0 x2).1 3).1 8).1 x2).2).1 + 1, (sendOnLink x1 (belowC (anyP (onceC (onceC (pktD x0 x2).1 3).1 8).1 x2).1 4).2 (belowC (belowC (anyP (onceC (onceC (pktD x0 x2).1 3).1 8).1 x2).1 4).1 4).2 (belowC (belowC (belowC (anyP (onceC (onceC (pktD x0 x2).1 3).1 8).1 x2).1 4).1 4).1 6).2 (anyP (onceC (onceC (pktD x0 x2).1 3).1 8).1 x2).2).2), ()) [(Value.pointer (some ⟨b0, 0, none⟩)) = (Value.pointer (some ⟨b0, 0, none⟩))] h (by kernel_rfl) ⟨rfl, trivial⟩ (congrArg (a₁ := ((belowC (belowC (belowC (belowC (anyP (onceC (onceC (pktD x0 x2).1 3).1 8).1 x2).1 4).1 4).1 6).1 8).1, ((sendOnLink x1 (belowC (anyP (onceC (onceC (pktD x0 x2).1 3).1 8).1 x2).1 4).2 (belowC (belowC (anyP (onceC (onceC (pktD x0 x2).1 3).1 8).1 x2).1 4).1 4).2 (belowC (belowC (belowC (anyP (onceC (onceC (pktD x0 x2).1 3).1 8).1 x2).1 4).1 4).1 6).2 (anyP (onceC (onceC (pktD x0 x2).1 3).1 8).1 x2).2).1 + 1, (sendOnLink x1 (belowC (anyP (onceC (onceC (pktD x0 x2).1 3).1 8).1 x2).1 4).2 (belowC (belowC (anyP (onceC (onceC (pktD x0 x2).1 3).1 8).1 x2).1 4).1 4).2 (belowC (belowC (belowC (anyP (onceC (onceC (pktD x0 x2).1 3).1 8).1 x2).1 4).1 4).1 6).2 (anyP (onceC (onceC (pktD x0 x2).1 3).1 8).1 x2).2).2))) (a₂ := linkD x0 x1 x2) (fun (z : T109 × T53) => z.1) hr17) (congrArg (a₁ := ((belowC (belowC (belowC (belowC (anyP (onceC (onceC (pktD x0 x2).1 3).1 8).1 x2).1 4).1 4).1 6).1 8).1, ((sendOnLink x1 (belowC (anyP (onceC (onceC (pktD x0 x2).1 3).1 8).1 x2).1 4).2 (belowC (belowC (anyP (onceC (onceC (pktD x0 x2).1 3).1 8).1 x2).1 4).1 4).2 (belowC (belowC (belowC (anyP (onceC (onceC (pktD x0 x2).1 3).1 8).1 x2).1 4).1 4).1 6).2 (anyP (onceC (onceC (pktD x0 x2).1 3).1 8).1 x2).2).1 + 1, (sendOnLink x1 (belowC (anyP (onceC (onceC (pktD x0 x2).1 3).1 8).1 x2).1 4).2 (belowC (belowC (anyP (onceC (onceC (pktD x0 x2).1 3).1 8).1 x2).1 4).1 4).2 (belowC (belowC (belowC (anyP (onceC (onceC (pktD x0 x2).1 3).1 8).1 x2).1 4).1 4).1 6).2 (anyP (onceC (onceC (pktD x0 x2).1 3).1 8).1 x2).2).2))) (a₂ := linkD x0 x1 x2) (fun (z : T109 × T53) => (z.2, ())) hr17)
    ·replace h16 : ¬ ((belowC (belowC (belowC (belowC (anyP (onceC (onceC (pktD x0 x2).1 3).1 8).1 x2).1 4).1 4).1 6).1 8).2 = 1) := of_decide_eq_false h16
     refine wp_skip (in_normal (then_normal (wp_seq ?_)))
     refine at_regq [] { ts := [6], os := [1, 2, 4, 18, 19] } [] gamOK hT h (by kernel_rfl) trivial fun a w h => then_normal (wp_ret ?_)
     have hr18 : (((belowC (belowC (belowC (belowC (anyP (onceC (onceC (pktD x0 x2).1 3).1 8).1 x2).1 4).1 4).1 6).1 8).1, (sendOnLink x1 (belowC (anyP (onceC (onceC (pktD x0 x2).1 3).1 8).1 x2).1 4).2 (belowC (belowC (anyP (onceC (onceC (pktD x0 x2).1 3).1 8).1 x2).1 4).1 4).2 (belowC (belowC (belowC (anyP (onceC (onceC (pktD x0 x2).1 3).1 8).1 x2).1 4).1 4).1 6).2 (anyP (onceC (onceC (pktD x0 x2).1 3).1 8).1 x2).2)) : T109 × T53) = linkD x0 x1 x2 := by (unfold linkD; rw [if_neg (neT h1), if_pos h13, if_neg h14, if_neg h16])
     exact at_returnB (B := B_spec_l28Link) (c0 := x0) (x := (x1, x2, ())) ((belowC (belowC (belowC (belowC (anyP (onceC (onceC (pktD x0 x2).1 3).1 8).1 x2).1 4).1 4).1 6).1 8).1) ((sendOnLink x1 (belowC (anyP (onceC (onceC (pktD x0 x2).1 3).1 8).1 x2).1 4).2 (belowC (belowC (anyP (onceC (onceC (pktD x0 x2).1 3).1 8).1 x2).1 4).1 4).2 (belowC (belowC (belowC (anyP (onceC (onceC (pktD x0 x2).1 3).1 8).1 x2).1 4).1 4).1 6).2 (anyP (onceC (onceC (pktD x0 x2).1 3).1 8).1 x2).2), ()) [(Value.pointer (some ⟨b0, 0, none⟩)) = (Value.pointer (some ⟨b0, 0, none⟩))] h (by kernel_rfl) ⟨rfl, trivial⟩ (congrArg (a₁ := ((belowC (belowC (belowC (belowC (anyP (onceC (onceC (pktD x0 x2).1 3).1 8).1 x2).1 4).1 4).1 6).1 8).1, (sendOnLink x1 (belowC (anyP (onceC (onceC (pktD x0 x2).1 3).1 8).1 x2).1 4).2 (belowC (belowC (anyP (onceC (onceC (pktD x0 x2).1 3).1 8).1 x2).1 4).1 4).2 (belowC (belowC (belowC (anyP (onceC (onceC (pktD x0 x2).1 3).1 8).1 x2).1 4).1 4).1 6).2 (anyP (onceC (onceC (pktD x0 x2).1 3).1 8).1 x2).2))) (a₂ := linkD x0 x1 x2) (fun (z : T109 × T53) => z.1) hr18) (congrArg (a₁ := ((belowC (belowC (belowC (belowC (anyP (onceC (onceC (pktD x0 x2).1 3).1 8).1 x2).1 4).1 4).1 6).1 8).1, (sendOnLink x1 (belowC (anyP (onceC (onceC (pktD x0 x2).1 3).1 8).1 x2).1 4).2 (belowC (belowC (anyP (onceC (onceC (pktD x0 x2).1 3).1 8).1 x2).1 4).1 4).2 (belowC (belowC (belowC (anyP (onceC (onceC (pktD x0 x2).1 3).1 8).1 x2).1 4).1 4).1 6).2 (anyP (onceC (onceC (pktD x0 x2).1 3).1 8).1 x2).2))) (a₂ := linkD x0 x1 x2) (fun (z : T109 × T53) => (z.2, ())) hr18)
  ·refine wp_skip (then_normal (wp_seq ?_))
   refine at_anyq [{}, {}, {}, {}, {}, {}, {}, {}, { ids := [21, 22] }, { ids := [23] }, {}] { ts := [0, 6, 8], os := [1, 2, 4, 21, 22, 23] } [B_spec_l1Below.pre (onceC (onceC (pktD x0 x2).1 3).1 8).1 (4, ()), B_spec_l1Below.pre (belowC (onceC (onceC (pktD x0 x2).1 3).1 8).1 4).1 (4, ()), B_spec_l1Below.pre (belowC (belowC (onceC (onceC (pktD x0 x2).1 3).1 8).1 4).1 4).1 (6, ()), Q_spec_SendOnLink x1 (belowC (onceC (onceC (pktD x0 x2).1 3).1 8).1 4).2 (belowC (belowC (onceC (onceC (pktD x0 x2).1 3).1 8).1 4).1 4).2 (belowC (belowC (belowC (onceC (onceC (pktD x0 x2).1 3).1 8).1 4).1 4).1 6).2 (pktD x0 x2).2] gamOK hT mixed h (by kernel_rfl) ⟨(by exact (once_ok (once_ok (pktD_ok hpre.1 hpre.2).1))), (by exact (below_ok (once_ok (once_ok (pktD_ok hpre.1 hpre.2).1)))), (by exact (below_ok (below_ok (once_ok (once_ok (pktD_ok hpre.1 hpre.2).1))))), (by exact (And.intro trivial (pktD_fit hpre.1 hpre.2) : True ∧ _).2), trivial⟩ fun a w h => then_normal (wp_seq (wp_seq ?_))
   refine at_regq [] { ts := [6, 8, 41], os := [1, 2, 4, 21, 22, 23] } [B_spec_l1Below.pre (belowC (belowC (belowC (onceC (onceC (pktD x0 x2).1 3).1 8).1 4).1 4).1 6).1 (8, ())] gamOK hT h (by kernel_rfl) ⟨(by exact (below_ok (below_ok (below_ok (once_ok (once_ok (pktD_ok hpre.1 hpre.2).1)))))), trivial⟩ fun a w h => then_normal (wp_block (wp_seq ?_))
   refine at_regq [] { ts := [6, 8, 41, 42], os := [1, 2, 4, 21, 22, 23] } [] gamOK hT h (by kernel_rfl) trivial fun a w h => then_normal ?_
   refine at_test (decide ((belowC (belowC (belowC (belowC (onceC (onceC (pktD x0 x2).1 3).1 8).1 4).1 4).1 6).1 8).2 = 0)) h (by kernel_rfl) (fun h19 => ?_) (fun h19 => ?_)
   ·replace h19 : (belowC (belowC (belowC (belowC (onceC (onceC (pktD x0 x2).1 3).1 8).1 4).1 4).1 6).1 8).2 = 0 := of_decide_eq_true h19
    refine at_regq [{}, {}, { nw := true }] { ts := [6, 8], os := [1, 2, 4, 21, 22, 23] } [I64 ((sendOnLink x1 (belowC (onceC (onceC (pktD x0 x2).1 3).1 8).1 4).2 (belowC (belowC (onceC (onceC (pktD x0 x2).1 3).1 8).1 4).1 4).2 (belowC (belowC (belowC (onceC (onceC (pktD x0 x2).1 3).1 8).1 4).1 4).1 6).2 (pktD x0 x2).2).2.2.2.2 + 1)] gamOK hT h (by kernel_rfl) ⟨⟨by first | omega | (simp only [lsA]; omega) | exact sendMAC_lo | exact sendMAC_hi | exact sendFrom_lo (hb4 _) | exact sendFrom_hi (hb4 _) | (simp <;> omega), by first | omega | (simp only [lsA]; omega) | exact sendMAC_lo | exact sendMAC_hi | exact sendFrom_lo (hb4 _) | exact sendFrom_hi (hb4 _) | (simp <;> omega)⟩, trivial⟩ fun a w h => in_normal (then_normal (wp_seq ?_))
    refine at_regq [] { ts := [6], os := [1, 2, 4, 21, 22] } [] gamOK hT h (by kernel_rfl) trivial fun a w h => then_normal (wp_ret ?_)
    have hr20 : (((belowC (belowC (belowC (belowC (onceC (onceC (pktD x0 x2).1 3).1 8).1 4).1 4).1 6).1 8).1, ((sendOnLink x1 (belowC (onceC (onceC (pktD x0 x2).1 3).1 8).1 4).2 (belowC (belowC (onceC (onceC (pktD x0 x2).1 3).1 8).1 4).1 4).2 (belowC (belowC (belowC (onceC (onceC (pktD x0 x2).1 3).1 8).1 4).1 4).1 6).2 (pktD x0 x2).2).1, ((sendOnLink x1 (belowC (onceC (onceC (pktD x0 x2).1 3).1 8).1 4).2 (belowC (belowC (onceC (onceC (pktD x0 x2).1 3).1 8).1 4).1 4).2 (belowC (belowC (belowC (onceC (onceC (pktD x0 x2).1 3).1 8).1 4).1 4).1 6).2 (pktD x0 x2).2).2.1, ((sendOnLink x1 (belowC (onceC (onceC (pktD x0 x2).1 3).1 8).1 4).2 (belowC (belowC (onceC (onceC (pktD x0 x2).1 3).1 8).1 4).1 4).2 (belowC (belowC (belowC (onceC (onceC (pktD x0 x2).1 3).1 8).1 4).1 4).1 6).2 (pktD x0 x2).2).2.2.1, ((sendOnLink x1 (belowC (onceC (onceC (pktD x0 x2).1 3).1 8).1 4).2 (belowC (belowC (onceC (onceC (pktD x0 x2).1 3).1 8).1 4).1 4).2 (belowC (belowC (belowC (onceC (onceC (pktD x0 x2).1 3).1 8).1 4).1 4).1 6).2 (pktD x0 x2).2).2.2.2.1, (sendOnLink x1 (belowC (onceC (onceC (pktD x0 x2).1 3).1 8).1 4).2 (belowC (belowC (onceC (onceC (pktD x0 x2).1 3).1 8).1 4).1 4).2 (belowC (belowC (belowC (onceC (onceC (pktD x0 x2).1 3).1 8).1 4).1 4).1 6).2 (pktD x0 x2).2).2.2.2.2 + 1))))) : T109 × T53) = linkD x0 x1 x2 := by (unfold linkD; rw [if_neg (neT h1), if_neg (neT h13), if_pos h19])
    exact at_returnB (B := B_spec_l28Link) (c0 := x0) (x := (x1, x2, ())) ((belowC (belowC (belowC (belowC (onceC (onceC (pktD x0 x2).1 3).1 8).1 4).1 4).1 6).1 8).1) (((sendOnLink x1 (belowC (onceC (onceC (pktD x0 x2).1 3).1 8).1 4).2 (belowC (belowC (onceC (onceC (pktD x0 x2).1 3).1 8).1 4).1 4).2 (belowC (belowC (belowC (onceC (onceC (pktD x0 x2).1 3).1 8).1 4).1 4).1 6).2 (pktD x0 x2).2).1, ((sendOnLink x1 (belowC (onceC (onceC (pktD x0 x2).1 3).1 8).1 4).2 (belowC (belowC (onceC (onceC (pktD x0 x2).1 3).1 8).1 4).1 4).2 (belowC (belowC (belowC (onceC (onceC (pktD x0 x2).1 3).1 8).1 4).1 4).1 6).2 (pktD x0 x2).2).2.1, ((sendOnLink x1 (belowC (onceC (onceC (pktD x0 x2).1 3).1 8).1 4).2 (belowC (belowC (onceC (onceC (pktD x0 x2).1 3).1 8).1 4).1 4).2 (belowC (belowC (belowC (onceC (onceC (pktD x0 x2).1 3).1 8).1 4).1 4).1 6).2 (pktD x0 x2).2).2.2.1, ((sendOnLink x1 (belowC (onceC (onceC (pktD x0 x2).1 3).1 8).1 4).2 (belowC (belowC (onceC (onceC (pktD x0 x2).1 3).1 8).1 4).1 4).2 (belowC (belowC (belowC (onceC (onceC (pktD x0 x2).1 3).1 8).1 4).1 4).1 6).2 (pktD x0 x2).2).2.2.2.1, (sendOnLink x1 (belowC (onceC (onceC (pktD x0 x2).1 3).1 8).1 4).2 (belowC (belowC (onceC (onceC (pktD x0 x2).1 3).1 8).1 4).1 4).2 (belowC (belowC (belowC (onceC (onceC (pktD x0 x2).1 3).1 8).1 4).1 4).1 6).2 (pktD x0 x2).2).2.2.2.2 + 1)))), ()) [(Value.pointer (some ⟨b0, 0, none⟩)) = (Value.pointer (some ⟨b0, 0, none⟩))] h (by kernel_rfl) ⟨rfl, trivial⟩ (congrArg (a₁ := ((belowC (belowC (belowC (belowC (onceC (onceC (pktD x0 x2).1 3).1 8).1 4).1 4).1 6).1 8).1, ((sendOnLink x1 (belowC (onceC (onceC (pktD x0 x2).1 3).1 8).1 4).2 (belowC (belowC (onceC (onceC (pktD x0 x2).1 3).1 8).1 4).1 4).2 (belowC (belowC (belowC (onceC (onceC (pktD x0 x2).1 3).1 8).1 4).1 4).1 6).2 (pktD x0 x2).2).1, ((sendOnLink x1 (belowC (onceC (onceC (pktD x0 x2).1 3).1 8).1 4).2 (belowC (belowC (onceC (onceC (pktD x0 x2).1 3).1 8).1 4).1 4).2 (belowC (belowC (belowC (onceC (onceC (pktD x0 x2).1 3).1 8).1 4).1 4).1 6).2 (pktD x0 x2).2).2.1, ((sendOnLink x1 (belowC (onceC (onceC (pktD x0 x2).1 3).1 8).1 4).2 (belowC (belowC (onceC (onceC (pktD x0 x2).1 3).1 8).1 4).1 4).2 (belowC (belowC (belowC (onceC (onceC (pktD x0 x2).1 3).1 8).1 4).1 4).1 6).2 (pktD x0 x2).2).2.2.1, ((sendOnLink x1 (belowC (onceC (onceC (pktD x0 x2).1 3).1 8).1 4).2 (belowC (belowC (onceC (onceC (pktD x0 x2).1 3).1 8).1 4).1 4).2 (belowC (belowC (belowC (onceC (onceC (pktD x0 x2).1 3).1 8).1 4).1 4).1 6).2 (pktD x0 x2).2).2.2.2.1, (sendOnLink x1 (belowC (onceC (onceC (pktD x0 x2).1 3).1 8).1 4).2 (belowC (belowC (onceC (onceC (pktD x0 x2).1 3).1 8).1 4).1 4).2 (belowC (belowC (belowC (onceC (onceC (pktD x0 x2).1 3).1 8).1 4).1 4).1 6).2 (pktD x0 x2).2).2.2.2.2 + 1)))))) (a₂ := linkD x0 x1 x2) (fun (z : T109 × T53) => z.1) hr20) (congrArg (a₁ := ((belowC (belowC (belowC (belowC (onceC (onceC (pktD x0 x2).1 3).1 8).1 4).1 4).1 6).1 8).1, ((sendOnLink x1 (belowC (onceC (onceC (pktD x0 x2).1 3).1 8).1 4).2 (belowC (belowC (onceC (onceC (pktD x0 x2).1 3).1 8).1 4).1 4).2 (belowC (belowC (belowC (onceC (onceC (pktD x0 x2).1 3).1 8).1 4).1 4).1 6).2 (pktD x0 x2).2).1, ((sendOnLink x1 (belowC (onceC (onceC (pktD x0 x2).1 3).1 8).1 4).2 (belowC (belowC (onceC (onceC (pktD x0 x2).1 3).1 8).1 4).1 4).2 (belowC (belowC (belowC (onceC (onceC (pktD x0 x2).1 3).1 8).1 4).1 4).1 6).2 (pktD x0 x2).2).2.1, ((sendOnLink x1 (belowC (onceC (onceC (pktD x0 x2).1 3).1 8).1 4).2 (belowC (belowC (onceC (onceC (pktD x0 x2).1 3).1 8).1 4).1 4).2 (belowC (belowC (belowC (onceC (onceC (pktD x0 x2).1 3).1 8).1 4).1 4).1 6).2 (pktD x0 x2).2).2.2.1, ((sendOnLink x1 (belowC (onceC (onceC (pktD x0 x2).1 3).1 8).1 4).2 (belowC (belowC (onceC (onceC (pktD x0 x2).1 3).1 8).1 4).1 4).2 (belowC (belowC (belowC (onceC (onceC (pktD x0 x2).1 3).1 8).1 4).1 4).1 6).2 (pktD x0 x2).2).2.2.2.1, (sendOnLink x1 (belowC (onceC (onceC (pktD x0 x2).1 3).1 8).1 4).2 (belowC (belowC (onceC (onceC (pktD x0 x2).1 3).1 8).1 4).1 4).2 (belowC (belowC (belowC (onceC (onceC (pktD x0 x2).1 3).1 8).1 4).1 4).1 6).2 (pktD x0 x2).2).2.2.2.2 + 1)))))) (a₂ := linkD x0 x1 x2) (fun (z : T109 × T53) => (z.2, ())) hr20)
   ·replace h19 : ¬ ((belowC (belowC (belowC (belowC (onceC (onceC (pktD x0 x2).1 3).1 8).1 4).1 4).1 6).1 8).2 = 0) := of_decide_eq_false h19
    refine wp_seq ?_
    refine at_regq [] { ts := [6, 8, 48], os := [1, 2, 4, 21, 22, 23] } [] gamOK hT h (by kernel_rfl) trivial fun a w h => then_normal ?_
    refine at_test (decide ((belowC (belowC (belowC (belowC (onceC (onceC (pktD x0 x2).1 3).1 8).1 4).1 4).1 6).1 8).2 = 1)) h (by kernel_rfl) (fun h21 => ?_) (fun h21 => ?_)
    ·replace h21 : (belowC (belowC (belowC (belowC (onceC (onceC (pktD x0 x2).1 3).1 8).1 4).1 4).1 6).1 8).2 = 1 := of_decide_eq_true h21
     refine at_regq [{}, {}, { nw := true }] { ts := [6, 8], os := [1, 2, 4, 21, 22, 23] } [I64 ((sendOnLink x1 (belowC (onceC (onceC (pktD x0 x2).1 3).1 8).1 4).2 (belowC (belowC (onceC (onceC (pktD x0 x2).1 3).1 8).1 4).1 4).2 (belowC (belowC (belowC (onceC (onceC (pktD x0 x2).1 3).1 8).1 4).1 4).1 6).2 (pktD x0 x2).2).1 + 1)] gamOK hT h (by kernel_rfl) ⟨⟨by first | omega | (simp only [lsA]; omega) | exact sendMAC_lo | exact sendMAC_hi | exact sendFrom_lo (hb4 _) | exact sendFrom_hi (hb4 _) | (simp <;> omega), by first | omega | (simp only [lsA]; omega) | exact sendMAC_lo | exact sendMAC_hi | exact sendFrom_lo (hb4 _) | exact sendFrom_hi (hb4 _) | (simp <;> omega)⟩, trivial⟩ fun a w h => in_normal (then_normal (wp_seq ?_))
     refine at_regq [] { ts := [6], os := [1, 2, 4, 21, 22] } [] gamOK hT h (by kernel_rfl) trivial fun a w h => then_normal (wp_ret ?_)
     have hr22 : (((belowC (belowC (belowC (belowC (onceC (onceC (pktD x0 x2).1 3).1 8).1 4).1 4).1 6).1 8).1, ((sendOnLink x1 (belowC (onceC (onceC (pktD x0 x2).1 3).1 8).1 4).2 (belowC (belowC (onceC (onceC (pktD x0 x2).1 3).1 8).1 4).1 4).2 (belowC (belowC (belowC (onceC (onceC (pktD x0 x2).1 3).1 8).1 4).1 4).1 6).2 (pktD x0 x2).2).1 + 1, (sendOnLink x1 (belowC (onceC (onceC (pktD x0 x2).1 3).1 8).1 4).2 (belowC (belowC (onceC (onceC (pktD x0 x2).1 3).1 8).1 4).1 4).2 (belowC (belowC (belowC (onceC (onceC (pktD x0 x2).1 3).1 8).1 4).1 4).1 6).2 (pktD x0 x2).2).2)) : T109 × T53) = linkD x0 x1 x2 := by (unfold linkD; rw [if_neg (neT h1), if_neg (neT h13), if_neg h19, if_pos h21])
     exact at_returnB (B := B_spec_l28Link) (c0 := x0) (x := (x1, x2, ())) ((belowC (belowC (belowC (belowC (onceC (onceC (pktD x0 x2).1 3).1 8).1 4).1 4).1 6).1 8).1) (((sendOnLink x1 (belowC (onceC (onceC (pktD x0 x2).1 3).1 8).1 4).2 (belowC (belowC (onceC (onceC (pktD x0 x2).1 3).1 8).1 4).1 4).2 (belowC (belowC (belowC (onceC (onceC (pktD x0 x2).1 3).1 8).1 4).1 4).1 6).2 (pktD x0 x2).2).1 + 1, (sendOnLink x1 (belowC (onceC (onceC (pktD x0 x2).1 3).1 8).1 4).2 (belowC (belowC (onceC (onceC (pktD x0 x2).1 3).1 8).1 4).1 4).2 (belowC (belowC (belowC (onceC (onceC (pktD x0 x2).1 3).1 8).1 4).1 4).1 6).2 (pktD x0 x2).2).2), ()) [(Value.pointer (some ⟨b0, 0, none⟩)) = (Value.pointer (some ⟨b0, 0, none⟩))] h (by kernel_rfl) ⟨rfl, trivial⟩ (congrArg (a₁ := ((belowC (belowC (belowC (belowC (onceC (onceC (pktD x0 x2).1 3).1 8).1 4).1 4).1 6).1 8).1, ((sendOnLink x1 (belowC (onceC (onceC (pktD x0 x2).1 3).1 8).1 4).2 (belowC (belowC (onceC (onceC (pktD x0 x2).1 3).1 8).1 4).1 4).2 (belowC (belowC (belowC (onceC (onceC (pktD x0 x2).1 3).1 8).1 4).1 4).1 6).2 (pktD x0 x2).2).1 + 1, (sendOnLink x1 (belowC (onceC (onceC (pktD x0 x2).1 3).1 8).1 4).2 (belowC (belowC (onceC (onceC (pktD x0 x2).1 3).1 8).1 4).1 4).2 (belowC (belowC (belowC (onceC (onceC (pktD x0 x2).1 3).1 8).1 4).1 4).1 6).2 (pktD x0 x2).2).2))) (a₂ := linkD x0 x1 x2) (fun (z : T109 × T53) => z.1) hr22) (congrArg (a₁ := ((belowC (belowC (belowC (belowC (onceC (onceC (pktD x0 x2).1 3).1 8).1 4).1 4).1 6).1 8).1, ((sendOnLink x1 (belowC (onceC (onceC (pktD x0 x2).1 3).1 8).1 4).2 (belowC (belowC (onceC (onceC (pktD x0 x2).1 3).1 8).1 4).1 4).2 (belowC (belowC (belowC (onceC (onceC (pktD x0 x2).1 3).1 8).1 4).1 4).1 6).2 (pktD x0 x2).2).1 + 1, (sendOnLink x1 (belowC (onceC (onceC (pktD x0 x2).1 3).1 8).1 4).2 (belowC (belowC (onceC (onceC (pktD x0 x2).1 3).1 8).1 4).1 4).2 (belowC (belowC (belowC (onceC (onceC (pktD x0 x2).1 3).1 8).1 4).1 4).1 6).2 (pktD x0 x2).2).2))) (a₂ := linkD x0 x1 x2) (fun (z : T109 × T53) => (z.2, ())) hr22)
    ·replace h21 : ¬ ((belowC (belowC (belowC (belowC (onceC (onceC (pktD x0 x2).1 3).1 8).1 4).1 4).1 6).1 8).2 = 1) := of_decide_eq_false h21
     refine wp_skip (in_normal (then_normal (wp_seq ?_)))
     refine at_regq [] { ts := [6], os := [1, 2, 4, 21, 22] } [] gamOK hT h (by kernel_rfl) trivial fun a w h => then_normal (wp_ret ?_)
     have hr23 : (((belowC (belowC (belowC (belowC (onceC (onceC (pktD x0 x2).1 3).1 8).1 4).1 4).1 6).1 8).1, (sendOnLink x1 (belowC (onceC (onceC (pktD x0 x2).1 3).1 8).1 4).2 (belowC (belowC (onceC (onceC (pktD x0 x2).1 3).1 8).1 4).1 4).2 (belowC (belowC (belowC (onceC (onceC (pktD x0 x2).1 3).1 8).1 4).1 4).1 6).2 (pktD x0 x2).2)) : T109 × T53) = linkD x0 x1 x2 := by (unfold linkD; rw [if_neg (neT h1), if_neg (neT h13), if_neg h19, if_neg h21])
     exact at_returnB (B := B_spec_l28Link) (c0 := x0) (x := (x1, x2, ())) ((belowC (belowC (belowC (belowC (onceC (onceC (pktD x0 x2).1 3).1 8).1 4).1 4).1 6).1 8).1) ((sendOnLink x1 (belowC (onceC (onceC (pktD x0 x2).1 3).1 8).1 4).2 (belowC (belowC (onceC (onceC (pktD x0 x2).1 3).1 8).1 4).1 4).2 (belowC (belowC (belowC (onceC (onceC (pktD x0 x2).1 3).1 8).1 4).1 4).1 6).2 (pktD x0 x2).2), ()) [(Value.pointer (some ⟨b0, 0, none⟩)) = (Value.pointer (some ⟨b0, 0, none⟩))] h (by kernel_rfl) ⟨rfl, trivial⟩ (congrArg (a₁ := ((belowC (belowC (belowC (belowC (onceC (onceC (pktD x0 x2).1 3).1 8).1 4).1 4).1 6).1 8).1, (sendOnLink x1 (belowC (onceC (onceC (pktD x0 x2).1 3).1 8).1 4).2 (belowC (belowC (onceC (onceC (pktD x0 x2).1 3).1 8).1 4).1 4).2 (belowC (belowC (belowC (onceC (onceC (pktD x0 x2).1 3).1 8).1 4).1 4).1 6).2 (pktD x0 x2).2))) (a₂ := linkD x0 x1 x2) (fun (z : T109 × T53) => z.1) hr23) (congrArg (a₁ := ((belowC (belowC (belowC (belowC (onceC (onceC (pktD x0 x2).1 3).1 8).1 4).1 4).1 6).1 8).1, (sendOnLink x1 (belowC (onceC (onceC (pktD x0 x2).1 3).1 8).1 4).2 (belowC (belowC (onceC (onceC (pktD x0 x2).1 3).1 8).1 4).1 4).2 (belowC (belowC (belowC (onceC (onceC (pktD x0 x2).1 3).1 8).1 4).1 4).1 6).2 (pktD x0 x2).2))) (a₂ := linkD x0 x1 x2) (fun (z : T109 × T53) => (z.2, ())) hr23)

theorem hashS_dvd (d v : Int) (hd : 0 ≤ d) : (2147483647 : Int) ∣ hashS d v - (d * 1000003 + v + 13) := by
 unfold hashS
 have h1 := modF_bd v
 have h2 : (2147483647 : Int) ∣ modF v 2147483647 - v := by
  unfold modF
  rw [if_pos (by decide)]
  have a1 := tmod_f v 2147483647 (by decide)
  have a2 := Int.tmod_add_mul_tdiv v 2147483647
  have a3 := Int.tmod_add_mul_tdiv (v.tmod 2147483647 + 2147483647) 2147483647
  exact ⟨1 - v.tdiv 2147483647 - (v.tmod 2147483647 + 2147483647).tdiv 2147483647, by omega⟩
 obtain ⟨q, hq⟩ := h2
 have a3 := Int.tmod_add_mul_tdiv (d * 1000003 + modF v 2147483647 + 13) 2147483647
 exact ⟨q - (d * 1000003 + modF v 2147483647 + 13).tdiv 2147483647, by omega⟩
theorem hashS_ge (d v : Int) (hd : 0 ≤ d) : 0 ≤ hashS d v := by
 unfold hashS
 have h1 := modF_bd v
 exact Int.tmod_nonneg _ (by omega)
theorem hashS_two {d d' v v' e : Int} (hd : 0 ≤ d) (hd' : 0 ≤ d') (h : (2147483647 : Int) ∣ d - d' - e) : (2147483647 : Int) ∣ hashS d v - hashS d' v' - (e * 1000003 + (v - v')) := by
 obtain ⟨q, hq⟩ := h
 obtain ⟨q1, h1⟩ := hashS_dvd d v hd
 obtain ⟨q2, h2⟩ := hashS_dvd d' v' hd'
 exact ⟨q * 1000003 + q1 - q2, by omega⟩
theorem prime_cancel {c u e : Int} (hu : (2147483647 : Int) ∣ u * c - 1) (h : (2147483647 : Int) ∣ c * e) : (2147483647 : Int) ∣ e := by
 obtain ⟨q, hq⟩ := h
 obtain ⟨r, hr⟩ := hu
 refine ⟨u * q - r * e, ?_⟩
 have e1 : u * (c * e) = u * (2147483647 * q) := by rw [hq]
 have e2 : u * c = 2147483647 * r + 1 := by omega
 have e3 : u * (c * e) = (u * c) * e := by rw [Int.mul_assoc]
 rw [e3, e2, Int.add_mul, Int.one_mul] at e1
 have e4 : u * (2147483647 * q) = 2147483647 * (u * q) := by rw [← Int.mul_assoc, Int.mul_comm u, Int.mul_assoc]
 rw [e4, Int.mul_assoc] at e1
 rw [Int.mul_sub]; omega
theorem keyed3 (k a b c : Int) : keyed k [a, b, c] = hashS (hashS (hashS (hashS (hashS 11 k) a) b) c) k := by
 unfold keyed hashF; simp only [List.cons_append, List.nil_append, List.foldl_cons, List.foldl_nil]
theorem keyed2 (k a b : Int) : keyed k [a, b] = hashS (hashS (hashS (hashS 11 k) a) b) k := by
 unfold keyed hashF; simp only [List.cons_append, List.nil_append, List.foldl_cons, List.foldl_nil]
theorem key_diff {z k k' a b c : Int} (s5 : (2147483647 : Int) ∣ z - z - (((((0 * 1000003 + (k - k')) * 1000003 + (a - a)) * 1000003 + (b - b)) * 1000003 + (c - c)) * 1000003 + (k - k'))) (hk : 0 ≤ k ∧ k < 2147483647) (hk' : 0 ≤ k' ∧ k' < 2147483647) : k = k' := by
 have s6 : (2147483647 : Int) ∣ 1000012000054000108000082 * (k - k') := by
  obtain ⟨q, hq⟩ := s5
  refine ⟨-q, ?_⟩
  simp only [Int.sub_self, Int.zero_mul, Int.zero_add, Int.add_zero, Int.zero_sub] at hq
  generalize k - k' = d at hq ⊢
  have e : d * 1000003 * 1000003 * 1000003 * 1000003 + d = 1000012000054000108000082 * d := by omega
  rw [e] at hq
  have h2 := congrArg (fun z : Int => -z) hq
  simp only [Int.neg_neg] at h2
  rw [h2, Int.mul_neg]
 have hu : (2147483647 : Int) ∣ 862245900 * 1000012000054000108000082 - 1 := ⟨401519354152903298789417, by decide⟩
 have s7 := prime_cancel hu s6
 clear s5 s6 hu
 obtain ⟨q, hq⟩ := s7
 omega
theorem keyed3_inj {k k' a b c : Int} (h : keyed k [a, b, c] = keyed k' [a, b, c]) (hk : 0 ≤ k ∧ k < 2147483647) (hk' : 0 ≤ k' ∧ k' < 2147483647) : k = k' := by
 have s0 : (2147483647 : Int) ∣ (11 : Int) - 11 - 0 := ⟨0, by decide⟩
 have g1 := hashS_ge 11 k (by decide); have g1' := hashS_ge 11 k' (by decide)
 have s1 := hashS_two (v := k) (v' := k') (by decide) (by decide) s0
 have g2 := hashS_ge _ a g1; have g2' := hashS_ge _ a g1'
 have s2 := hashS_two (v := a) (v' := a) g1 g1' s1
 have g3 := hashS_ge _ b g2; have g3' := hashS_ge _ b g2'
 have s3 := hashS_two (v := b) (v' := b) g2 g2' s2
 have g4 := hashS_ge _ c g3; have g4' := hashS_ge _ c g3'
 have s4 := hashS_two (v := c) (v' := c) g3 g3' s3
 have s5 := hashS_two (v := k) (v' := k') g4 g4' s4
 rw [keyed3, keyed3] at h
 rw [h] at s5
 clear h g1 g1' g2 g2' g3 g3' g4 g4' s0 s1 s2 s3 s4
 generalize hashS (hashS (hashS (hashS (hashS 11 k') a) b) c) k' = z at s5
 exact key_diff s5 hk hk'
theorem keyed2_two {k a b b' : Int} : (2147483647 : Int) ∣ keyed k [a, b] - keyed k [a, b'] - 1000003 * (b - b') := by
 have g1 := hashS_ge 11 k (by decide)
 have g2 := hashS_ge _ a g1
 have s2 : (2147483647 : Int) ∣ hashS (hashS 11 k) a - hashS (hashS 11 k) a - 0 := ⟨0, by omega⟩
 have g3 := hashS_ge _ b g2; have g3' := hashS_ge _ b' g2
 have s3 := hashS_two (v := b) (v' := b') g2 g2 s2
 have s4 := hashS_two (v := k) (v' := k) g3 g3' s3
 obtain ⟨q, hq⟩ := s4
 refine ⟨q, ?_⟩
 rw [keyed2, keyed2]
 omega
theorem fold_two : ∀ (l : List Int) {d d' e : Int}, 0 ≤ d → 0 ≤ d' → (2147483647 : Int) ∣ d - d' - e → (0 ≤ l.foldl hashS d ∧ 0 ≤ l.foldl hashS d') ∧ (2147483647 : Int) ∣ l.foldl hashS d - l.foldl hashS d' - e * 1000003 ^ l.length
 | [], d, d', e, h1, h2, h => ⟨⟨h1, h2⟩, by simpa using h⟩
 | v :: l, d, d', e, h1, h2, h => by
  have s := hashS_two (v := v) (v' := v) h1 h2 h
  rw [Int.sub_self, Int.add_zero] at s
  have r := fold_two l (hashS_ge d v h1) (hashS_ge d' v h2) s
  refine ⟨r.1, ?_⟩
  have e1 : e * 1000003 * 1000003 ^ l.length = e * 1000003 ^ (v :: l).length := by rw [List.length_cons, Int.pow_succ, Int.mul_assoc, Int.mul_comm 1000003]
  rw [e1] at r
  exact r.2
theorem keyed_fold (k : Int) (l : List Int) : keyed k l = hashS (l.foldl hashS (hashS 11 k)) k := by
 unfold keyed hashF; simp only [List.cons_append, List.nil_append, List.foldl_append, List.foldl_cons, List.foldl_nil]
theorem keyed_two (k k' v v' : Int) (a b : List Int) : (2147483647 : Int) ∣ keyed k (a ++ v :: b) - keyed k' (a ++ v' :: b) - ((((k - k') * 1000003 ^ a.length * 1000003 + (v - v')) * 1000003 ^ b.length) * 1000003 + (k - k')) := by
 have s0 : (2147483647 : Int) ∣ (11 : Int) - 11 - 0 := ⟨0, by decide⟩
 have s1 := hashS_two (v := k) (v' := k') (by decide) (by decide) s0
 rw [Int.zero_mul, Int.zero_add] at s1
 obtain ⟨g2, s2⟩ := fold_two a (hashS_ge 11 k (by decide)) (hashS_ge 11 k' (by decide)) s1
 have s3 := hashS_two (v := v) (v' := v') g2.1 g2.2 s2
 obtain ⟨g4, s4⟩ := fold_two b (hashS_ge _ v g2.1) (hashS_ge _ v' g2.2) s3
 have s5 := hashS_two (v := k) (v' := k') g4.1 g4.2 s4
 rw [keyed_fold, keyed_fold]
 simp only [List.foldl_append, List.foldl_cons]
 exact s5
theorem dvd_of_sub {x e : Int} (h : (2147483647 : Int) ∣ x - x - e) : (2147483647 : Int) ∣ e := by
 rw [Int.sub_self, Int.zero_sub] at h
 exact Int.dvd_neg.1 h
theorem no_pow : ∀ n : Fin 40, ¬ ((2147483647 : Int) ∣ (1000003 : Int) ^ n.val) := by decide +kernel
theorem no_key : ∀ n : Fin 40, ∀ c : Fin 3, ¬ ((2147483647 : Int) ∣ (((1000002 + (c.val : Int)) * 1000003 ^ 1 * 1000003 + 1) * 1000003 ^ n.val) * 1000003 + (1000002 + (c.val : Int))) := by decide +kernel
theorem dvd_shift {d c x : Int} (h : (2147483647 : Int) ∣ d - c) (h2 : (2147483647 : Int) ∣ ((d * 1000003 ^ 1 * 1000003 + 1) * x) * 1000003 + d) : (2147483647 : Int) ∣ ((c * 1000003 ^ 1 * 1000003 + 1) * x) * 1000003 + c := by
 obtain ⟨q, hq⟩ := h
 obtain ⟨r, hr⟩ := h2
 have e : d = c + 2147483647 * q := by omega
 subst e
 refine ⟨r - q * (1000003 ^ 1 * 1000003 * x * 1000003 + 1), ?_⟩
 rw [Int.mul_sub, ← hr]
 grind
theorem linkMAC_eq (k f t r m : Int) (p : T42) : linkMAC k (f, t, r, p, m) = keyed k ([103] ++ f :: (t :: r :: p.1 :: ((List.length p.2.1 : Nat) : Int) :: (p.2.1 ++ p.2.2))) := by unfold linkMAC; simp only [List.cons_append, List.nil_append, List.append_assoc]
theorem linkMAC_eq1 (k f t r m : Int) (p : T42) : linkMAC k (f, t, r, p, m) = keyed k ([103, f] ++ t :: (r :: p.1 :: ((List.length p.2.1 : Nat) : Int) :: (p.2.1 ++ p.2.2))) := by unfold linkMAC; simp only [List.cons_append, List.nil_append, List.append_assoc]
theorem linkMAC_eq2 (k f t r m : Int) (p : T42) : linkMAC k (f, t, r, p, m) = keyed k ([103, f, t] ++ r :: (p.1 :: ((List.length p.2.1 : Nat) : Int) :: (p.2.1 ++ p.2.2))) := by unfold linkMAC; simp only [List.cons_append, List.nil_append, List.append_assoc]
theorem linkMAC_m (k f t r m m' : Int) (p : T42) : linkMAC k (f, t, r, p, m) = linkMAC k (f, t, r, p, m') := by rw [linkMAC_eq, linkMAC_eq]
theorem nodeKey_two (ms f : Int) : ∃ c : Fin 3, (2147483647 : Int) ∣ (nodeKey ms (f + 1) - nodeKey ms f) - (1000002 + (c.val : Int)) := by
 have h1 := keyed_bd ms [101, f + 1]; have h2 := keyed_bd ms [101, f]
 have s := keyed_two ms ms (f + 1) f [101] []
 rw [Int.sub_self] at s
 simp only [List.cons_append, List.nil_append, List.length_nil, Int.zero_mul, Int.zero_add, Int.add_zero, Int.pow_zero, Int.mul_one] at s
 have e1 : f + 1 - f = 1 := by omega
 rw [e1, Int.one_mul] at s
 obtain ⟨q, hq⟩ := s
 unfold nodeKey D_impl_orOne
 generalize keyed ms [101, f + 1] = u at *
 generalize keyed ms [101, f] = u' at *
 have key : ∀ x y : Int, (x = u ∨ (u ≤ 1 ∧ x = 1)) → (y = u' ∨ (u' ≤ 1 ∧ y = 1)) → ∃ c : Fin 3, (2147483647 : Int) ∣ (x - y) - (1000002 + (c.val : Int)) := by
  intro x y hx hy
  have h3 : x - u = 0 ∨ x - u = 1 := by clear hq; omega
  have h4 : y - u' = 0 ∨ y - u' = 1 := by clear hq; omega
  have e2 : u - u' = 1000003 + 2147483647 * q := by omega
  rcases h3 with h3 | h3 <;> rcases h4 with h4 | h4
  ·exact ⟨1, q, by show x - y - (1000002 + 1) = _; omega⟩
  ·exact ⟨0, q, by show x - y - (1000002 + 0) = _; omega⟩
  ·exact ⟨2, q, by show x - y - (1000002 + 2) = _; omega⟩
  ·exact ⟨1, q, by show x - y - (1000002 + 1) = _; omega⟩
 refine key _ _ ?_ ?_ <;> (clear hq key; (repeat' split) <;> omega)
attribute [local irreducible] keyed hashS linkMAC
theorem link_from {ms f t r m : Int} {p : T42} (h : List.length p.2.1 + List.length p.2.2 ≤ 30) : linkMAC (nodeKey ms (f + 1)) (f + 1, t, r, p, m) ≠ linkMAC (nodeKey ms f) (f, t, r, p, m) := by
 intro e
 rw [linkMAC_eq, linkMAC_eq] at e
 have s := keyed_two (nodeKey ms (f + 1)) (nodeKey ms f) (f + 1) f [103] (t :: r :: p.1 :: ((List.length p.2.1 : Nat) : Int) :: (p.2.1 ++ p.2.2))
 rw [e] at s
 have s1 := dvd_of_sub s
 clear s e
 obtain ⟨c, hc⟩ := nodeKey_two ms f
 have e1 : f + 1 - f = 1 := by omega
 rw [e1] at s1
 have s2 := dvd_shift hc s1
 clear s1 hc
 simp only [List.length_cons, List.length_append] at s2
 exact no_key ⟨List.length p.2.1 + List.length p.2.2 + 1 + 1 + 1 + 1, by omega⟩ c s2
theorem pow_ne {n : Nat} (h : n + 1 < 40) (hd : (2147483647 : Int) ∣ (1000003 : Int) ^ n * 1000003) : False := by
 rw [← Int.pow_succ] at hd
 exact no_pow ⟨n + 1, h⟩ hd
theorem link_to {k f t r m : Int} {p : T42} (h : List.length p.2.1 + List.length p.2.2 ≤ 30) : linkMAC k (f, t + 1, r, p, m) ≠ linkMAC k (f, t, r, p, m) := by
 intro e
 rw [linkMAC_eq1, linkMAC_eq1] at e
 have s := keyed_two k k (t + 1) t [103, f] (r :: p.1 :: ((List.length p.2.1 : Nat) : Int) :: (p.2.1 ++ p.2.2))
 rw [e] at s
 have s1 := dvd_of_sub s
 clear s e
 have e1 : t + 1 - t = 1 := by omega
 simp only [Int.sub_self, e1, Int.zero_mul, Int.zero_add, Int.one_mul, Int.add_zero, List.length_cons, List.length_append] at s1
 exact pow_ne (by omega) s1
theorem link_round {k f t r m : Int} {p : T42} (h : List.length p.2.1 + List.length p.2.2 ≤ 30) : linkMAC k (f, t, r + 1, p, m) ≠ linkMAC k (f, t, r, p, m) := by
 intro e
 rw [linkMAC_eq2, linkMAC_eq2] at e
 have s := keyed_two k k (r + 1) r [103, f, t] (p.1 :: ((List.length p.2.1 : Nat) : Int) :: (p.2.1 ++ p.2.2))
 rw [e] at s
 have s1 := dvd_of_sub s
 clear s e
 have e1 : r + 1 - r = 1 := by omega
 simp only [Int.sub_self, e1, Int.zero_mul, Int.zero_add, Int.one_mul, Int.add_zero, List.length_cons, List.length_append] at s1
 exact pow_ne (by omega) s1
theorem isProof_t {ms : Int} {k : List Int} {m : T31} {l : T53} (h : isProof ms k m l = true) : l.2.2.2.2 = linkMAC (nodeKey ms l.1) l ∧ List.length l.2.2.2.1.2.1 + List.length l.2.2.2.1.2.2 ≤ 30 := by
 unfold isProof at h
 split at h
 ·rename_i hs
  split at h
  ·have hc := of_decide_eq_true h
   have hv : ∃ s w, validP l.2.2.2.1 s w = true := by
    unfold checkP at hc
    repeat' (split at hc)
    all_goals first | (exact ⟨_, _, by assumption⟩) | omega
   obtain ⟨s, w, hv⟩ := hv
   have := validP_n hv
   unfold signedL at hs
   exact ⟨of_decide_eq_true hs, by omega⟩
  ·cases h
 ·cases h
theorem law_np {ms : Int} {k : List Int} {m : T31} {p S : T53} (hS : S = sendOnLink ms p.1 p.2.1 p.2.2.1 p.2.2.2.1) :
  signedL ms S = true ∧ isProof ms k m (S.1 + 1, S.2) = false ∧ isProof ms k m (S.1, (S.2.1 + 1, S.2.2)) = false ∧ isProof ms k m (S.1, (S.2.1, (S.2.2.1 + 1, S.2.2.2))) = false ∧
  isProof ms k m (S.1, (S.2.1, (S.2.2.1, (S.2.2.2.1, (Int.tmod (S.2.2.2.2 + 1) 2147483647))))) = false ∧ (isProof ms k m p = true → p.2.2.2.2 = S.2.2.2.2) := by
 obtain ⟨f, t, r, q, c⟩ := p
 have hS : S = (f, t, r, q, linkMAC (nodeKey ms f) (f, t, r, q, 0)) := hS
 have hb := linkMAC_bd (nodeKey ms f) (f, t, r, q, 0)
 have hm : ∀ m', linkMAC (nodeKey ms f) (f, t, r, q, m') = linkMAC (nodeKey ms f) (f, t, r, q, 0) := fun m' => linkMAC_m _ _ _ _ _ _ _
 generalize hu : linkMAC (nodeKey ms f) (f, t, r, q, 0) = u at *
 subst hS
 refine ⟨?_, ?_, ?_, ?_, ?_, fun h => ?_⟩
 ·unfold signedL; exact decide_eq_true (hm u).symm
 ·rw [Bool.eq_false_iff]; intro h
  obtain ⟨h1, h2⟩ := isProof_t h
  simp only at h1 h2
  rw [← hm u] at h1
  exact link_from h2 (h1.symm.trans (linkMAC_m _ _ _ _ _ _ _))
 ·rw [Bool.eq_false_iff]; intro h
  obtain ⟨h1, h2⟩ := isProof_t h
  simp only at h1 h2
  rw [← hm u] at h1
  exact link_to h2 (h1.symm.trans (linkMAC_m _ _ _ _ _ _ _))
 ·rw [Bool.eq_false_iff]; intro h
  obtain ⟨h1, h2⟩ := isProof_t h
  simp only at h1 h2
  rw [← hm u] at h1
  exact link_round h2 (h1.symm.trans (linkMAC_m _ _ _ _ _ _ _))
 ·rw [Bool.eq_false_iff]; intro h
  obtain ⟨h1, h2⟩ := isProof_t h
  simp only at h1
  rw [hm] at h1
  by_cases hu2 : u + 1 = 2147483647
  ·rw [hu2] at h1
   have : (2147483647 : Int).tmod 2147483647 = 0 := rfl
   omega
  ·have : (u + 1).tmod 2147483647 = u + 1 := by rw [Int.tmod_eq_emod_of_nonneg (by omega), Int.emod_eq_of_lt (by omega) (by omega)]
   omega
 ·have h1 := (isProof_t h).1
  simp only at h1 ⊢
  rw [h1, hm]
theorem link_fit {l : T53} (h : Sh.fit s42 l.2.2.2.1) : Sh.fit s53 l := ⟨trivial, trivial, trivial, h, trivial⟩
theorem send1_lo {m f t r : Int} {p : T42} (h : 0 ≤ f ∧ f ≤ 4) : -9223372036854775808 ≤ (sendOnLink m f t r p).1 + 1 := by show _ ≤ f + 1; omega
theorem send1_hi {m f t r : Int} {p : T42} (h : 0 ≤ f ∧ f ≤ 4) : (sendOnLink m f t r p).1 + 1 ≤ 9223372036854775807 := by show f + 1 ≤ _; omega
theorem send2_lo {m f t r : Int} {p : T42} (h : 0 ≤ t ∧ t ≤ 4) : -9223372036854775808 ≤ (sendOnLink m f t r p).2.1 + 1 := by show _ ≤ t + 1; omega
theorem send2_hi {m f t r : Int} {p : T42} (h : 0 ≤ t ∧ t ≤ 4) : (sendOnLink m f t r p).2.1 + 1 ≤ 9223372036854775807 := by show t + 1 ≤ _; omega
theorem send3_lo {m f t r : Int} {p : T42} (h : 0 ≤ r ∧ r ≤ 6) : -9223372036854775808 ≤ (sendOnLink m f t r p).2.2.1 + 1 := by show _ ≤ r + 1; omega
theorem send3_hi {m f t r : Int} {p : T42} (h : 0 ≤ r ∧ r ≤ 6) : (sendOnLink m f t r p).2.2.1 + 1 ≤ 9223372036854775807 := by show r + 1 ≤ _; omega
theorem sendOnLink_fit {m f t r : Int} {p : T42} (h : Sh.fit s42 p) : Sh.fit s53 (sendOnLink m f t r p) := ⟨trivial, trivial, trivial, h, trivial⟩
@[irreducible]
def drawP (x0 : (List Int)) : Int × (List Int) × T31 × T53 := (1 + (belowC (anyM (newC x0)).1 50).2, (anyM (newC x0)).2.2.1, (anyM (newC x0)).2.2.2, (linkD (belowC (anyM (newC x0)).1 50).1 (1 + (belowC (anyM (newC x0)).1 50).2) (anyM (newC x0)).2.1).2)
abbrev Q_spec_DrawIsProof := (fun (x0 : (List Int)) => Sh.fit s22 x0)
def S_spec_DrawIsProof : Sum := { fid := 23, dom := [s22], cod := [(.int 3), s29, s31, s53], dp := true, fz := false, pre := fun x => Q_spec_DrawIsProof x.1, g := fun x => ((drawP x.1).1, ((drawP x.1).2.1, ((drawP x.1).2.2.1, ((drawP x.1).2.2.2, ())))) }
def S_spec_DrawIsProof_tab : List (Nat × Sum) := [(46, S_spec_l1New), (72, S_spec_l19Any), (73, S_spec_l1Below), (74, S_spec_l28Link)]
theorem S_spec_DrawIsProof_ok : FnOK Try.prog 23 S_spec_DrawIsProof := by
 refine at_enter 29 (fun x => ⟨[(0, aF (.u8 5) x.1)], []⟩) Try.func23 rfl (by kernel_rfl) (fun x => rfl) ?_
 rintro w0 Z0 ⟨x0, u⟩ a w
 revert x0
 intro (x0 : (List Int)) hpre hlens h
 replace hpre : Q_spec_DrawIsProof x0 := hpre
 have hu0 : u8L x0 := hlens.1.2
 have hT : TabOK Try.prog S_spec_DrawIsProof_tab := (.cons S_spec_l1New_ok (.cons S_spec_l19Any_ok (.cons S_spec_l1Below_ok (.cons S_spec_l28Link_ok .nil))))
 have hf0 : Sh.fit s22 x0 := hpre
 have hn0_1 : List.length x0 ≤ 1073741824 := hf0.1
 have hao := anyM_ok (x := newC x0) (Int.le_refl 0)
 have hb5 := below_bd (anyM (newC x0)).1 (n := 50) (by decide)
 refine wp_seq ?_
 refine at_regq [{}, { ids := [1] }, { ids := [2] }, { ids := [3] }] { ts := [0, 2, 3, 4, 5], os := [1, 2, 3] } [] gamOK hT h (by kernel_rfl) trivial fun a w h => then_normal (wp_seq ?_)
 refine at_regq [{}, { ids := [4] }] { ts := [2, 3, 4, 5, 6], os := [1, 2, 3, 4] } [B_spec_l1New.pre (x0, ())] gamOK hT h (by kernel_rfl) ⟨(by exact hf0), trivial⟩ fun a w h => then_normal (wp_seq ?_)
 refine at_regq [{}, { ids := [5, 6, 7] }, {}, {}, {}, {}, { ids := [8] }, { ids := [9] }, { ids := [10] }] { ts := [2, 3, 4, 5, 6, 7, 8, 9], os := [1, 2, 3, 4, 5, 6, 7, 8, 9, 10] } [B_spec_l19Any.pre (newC x0) (())] gamOK hT h (by kernel_rfl) ⟨(by exact (Int.le_refl 0)), trivial⟩ fun a w h => then_normal (wp_seq ?_)
 refine at_regq [{}, {}, { nw := true }] { ts := [2, 3, 4, 5, 6, 7, 8, 9, 10], os := [1, 2, 3, 4, 5, 6, 7, 8, 9, 10] } [B_spec_l1Below.pre (anyM (newC x0)).1 (50, ()), I64 (1 + (belowC (anyM (newC x0)).1 50).2)] gamOK hT h (by kernel_rfl) ⟨(by exact (anyM_ok (Int.le_refl 0)).1), ⟨by first | omega | (simp only [lsA]; omega) | (simp <;> omega), by first | omega | (simp only [lsA]; omega) | (simp <;> omega)⟩, trivial⟩ fun a w h => then_normal (wp_seq ?_)
 replace h := at_out (σ' := ⟨[(2, aI 0), (3, aP 1 0), (4, aP 2 0), (5, aP 3 0), (6, aP 4 0), (7, aP 8 0), (8, aP 9 0), (9, aP 10 0), (10, aI (1 + (belowC (anyM (newC x0)).1 50).2))], [(1, oX 29 [cN]), (2, oX 31 [cI 0, cI 0, cI 0, cI 0, cN, cI 0]), (3, oX 53 [cI 0, cI 0, cI 0, cI 0, cN, cN, cI 0]), (4, oX 109 [.ro (.u8 5) (belowC (anyM (newC x0)).1 50).1.1, cI (belowC (anyM (newC x0)).1 50).1.2.1, cI (belowC (anyM (newC x0)).1 50).1.2.2]), (6, oR (.int 3) (anyM (newC x0)).2.2.1), (7, oR (.int 3) (anyM (newC x0)).2.2.2.2.2.2.2.1), (8, oX 26 [cI (anyM (newC x0)).2.1.1, .ro s27 (anyM (newC x0)).2.1.2]), (9, oX 29 [.sl 6]), (10, oX 31 [cI (anyM (newC x0)).2.2.2.1, cI (anyM (newC x0)).2.2.2.2.1, cI (anyM (newC x0)).2.2.2.2.2.1, cI (anyM (newC x0)).2.2.2.2.2.2.1, .sl 7, cI (anyM (newC x0)).2.2.2.2.2.2.2.2])]⟩) { fz := [5], ts := [2, 3, 4, 5, 6, 7, 8, 9, 10], os := [1, 2, 3, 4, 6, 7, 8, 9, 10] } h (by kernel_rfl)
 refine at_anyq [{}, {}, {}, {}, {}, {}, { ids := [11, 12] }, {}, {}, {}, {}] { ts := [2, 3, 4, 5], os := [1, 2, 3, 6, 7, 11, 12] } [B_spec_l28Link.pre (belowC (anyM (newC x0)).1 50).1 (1 + (belowC (anyM (newC x0)).1 50).2, (anyM (newC x0)).2.1, ())] gamOK hT mixed h (by kernel_rfl) ⟨(by exact ⟨(below_ok (anyM_ok (Int.le_refl 0)).1), hao.2.1⟩), trivial⟩ fun a w h => then_normal (wp_ret ?_)
 exact at_return (1 + (belowC (anyM (newC x0)).1 50).2, ((anyM (newC x0)).2.2.1, ((anyM (newC x0)).2.2.2, ((linkD (belowC (anyM (newC x0)).1 50).1 (1 + (belowC (anyM (newC x0)).1 50).2) (anyM (newC x0)).2.1).2, ())))) [] h (by kernel_rfl) trivial (congrArg (fun z => (z.1, z.2.1, z.2.2.1, z.2.2.2, ())) (show ((1 + (belowC (anyM (newC x0)).1 50).2, (anyM (newC x0)).2.2.1, (anyM (newC x0)).2.2.2, (linkD (belowC (anyM (newC x0)).1 50).1 (1 + (belowC (anyM (newC x0)).1 50).2) (anyM (newC x0)).2.1).2)) = drawP x0 from by (unfold drawP; rfl)))
theorem linkD_ok {x : T109} {ms : Int} {g : T26} (h : 0 ≤ x.2.1) (hg : validG g = true) : (0 ≤ (linkD x ms g).2.1 ∧ (linkD x ms g).2.1 ≤ 4) ∧ (0 ≤ (linkD x ms g).2.2.1 ∧ (linkD x ms g).2.2.1 ≤ 4) ∧ (0 ≤ (linkD x ms g).2.2.2.1 ∧ (linkD x ms g).2.2.2.1 ≤ 6) ∧ Sh.fit s42 (linkD x ms g).2.2.2.2.1 := by
 have hb4 : ∀ q : T109, 0 ≤ (belowC q 4).2 ∧ (belowC q 4).2 < 4 := fun q => below_bd q (by decide)
 have hb6 : ∀ q : T109, 0 ≤ (belowC q 6).2 ∧ (belowC q 6).2 < 6 := fun q => below_bd q (by decide)
 have key : ∀ (q : T109) (a b r : Int) (p : T42) (l : T53), l.1 = a ∨ l.1 = a + 1 → l.2.1 = b → l.2.2.1 = r → l.2.2.2.1 = p → (0 ≤ a ∧ a < 4) → (0 ≤ b ∧ b < 4) → (0 ≤ r ∧ r < 6) → Sh.fit s42 p → (0 ≤ l.1 ∧ l.1 ≤ 4) ∧ (0 ≤ l.2.1 ∧ l.2.1 ≤ 4) ∧ (0 ≤ l.2.2.1 ∧ l.2.2.1 ≤ 6) ∧ Sh.fit s42 l.2.2.2.1 := by
  intro q a b r p l h1 h2 h3 h4 h5 h6 h7 h8
  exact ⟨by omega, by omega, by omega, by rw [h4]; exact h8⟩
 have hf1 := pktD_fit h hg
 have hk := (pktD_ok h hg).1
 have hf2 : Sh.fit s42 ((pktD x g).2.1, (pktD x g).2.2.1, List.set (pktD x g).2.2.2 0 (Int.tmod (((pktD x g).2.2.2.getD 0 0 + 1) + (belowC (onceC (pktD x g).1 3).1 9).2) 1019)) := ⟨trivial, hf1.2.1, ⟨by rw [List.length_set]; exact hf1.2.2.1, fun _ _ => trivial⟩⟩
 have hf3 := anyP_fit (once_ok (n := 8) (once_ok (n := 3) hk)) hg
 have hf4 := anyP_fit (once_ok (n := 8) (below_ok (n := 9) (once_ok (n := 3) hk))) hg
 unfold linkD
 (repeat' split) <;> first
  | exact key x _ _ _ _ _ (Or.inl rfl) rfl rfl rfl (hb4 _) (hb4 _) (hb6 _) hf1
  | exact key x _ _ _ _ _ (Or.inl rfl) rfl rfl rfl (hb4 _) (hb4 _) (hb6 _) hf2
  | exact key x _ _ _ _ _ (Or.inl rfl) rfl rfl rfl (hb4 _) (hb4 _) (hb6 _) hf3
  | exact key x _ _ _ _ _ (Or.inl rfl) rfl rfl rfl (hb4 _) (hb4 _) (hb6 _) hf4
  | exact key x _ _ _ _ _ (Or.inr rfl) rfl rfl rfl (hb4 _) (hb4 _) (hb6 _) hf1
  | exact key x _ _ _ _ _ (Or.inr rfl) rfl rfl rfl (hb4 _) (hb4 _) (hb6 _) hf2
  | exact key x _ _ _ _ _ (Or.inr rfl) rfl rfl rfl (hb4 _) (hb4 _) (hb6 _) hf3
  | exact key x _ _ _ _ _ (Or.inr rfl) rfl rfl rfl (hb4 _) (hb4 _) (hb6 _) hf4
structure DrawPOK (d : Int × (List Int) × T31 × T53) : Prop where
 d1 : Sh.fit s29 d.2.1
 d2 : Sh.fit s31 d.2.2.1
 d3 : Sh.fit s53 d.2.2.2
 d4 : (0 ≤ d.2.2.2.1 ∧ d.2.2.2.1 ≤ 4) ∧ (0 ≤ d.2.2.2.2.1 ∧ d.2.2.2.2.1 ≤ 4) ∧ (0 ≤ d.2.2.2.2.2.1 ∧ d.2.2.2.2.2.1 ≤ 6)
theorem drawP_ok (x : List Int) : DrawPOK (drawP x) := by
 have hao := anyM_ok (x := newC x) (Int.le_refl 0)
 have hl := linkD_ok (ms := 1 + (belowC (anyM (newC x)).1 50).2) (below_ok (n := 50) hao.1) hao.2.1
 unfold drawP
 exact ⟨⟨Nat.le_trans hao.2.2.1 (by decide), fun _ _ => trivial⟩, ⟨trivial, trivial, trivial, trivial, ⟨Nat.le_trans hao.2.2.2 (by decide), fun _ _ => trivial⟩, trivial⟩, ⟨trivial, trivial, trivial, hl.2.2.2, trivial⟩, hl.1, hl.2.1, hl.2.2.1⟩

def atsL (x : List Int) (o : Int) (n : Nat) : List Int := (List.range n).map fun (j : Nat) => atF x ((j : Int) + o)
theorem atsL_len (x : List Int) (o : Int) (n : Nat) : (atsL x o n).length = n := by simp [atsL]
theorem atsL_at {x : List Int} {o : Int} {n i : Nat} (h : i < n) : (atsL x o n).getD i 0 = atF x ((i : Int) + o) := by rw [getD_of_lt (by rw [atsL_len]; exact h)]; simp [atsL]
theorem atsL_zero (x : List Int) (o : Int) (n : Nat) : List.replicate n (0 : Int) = copyTo 0 (atsL x o n) 0 := by
 have e := copyTo_zero (z := (0 : Int)) (xs := atsL x o n)
 rw [atsL_len] at e; exact e
theorem atsL_set {x : List Int} {o : Int} {n i : Nat} (h : i < n) : (copyTo 0 (atsL x o n) i).set i (atF x ((i : Int) + o)) = copyTo 0 (atsL x o n) (i + 1) := by
 rw [← atsL_at h]; exact copyTo_set (by rw [atsL_len]; exact h)
theorem atsL_ok {x : List Int} (hu : u8L x) {o : Int} (ho : 0 ≤ o) (n : Nat) : LA.VokB n (atsL x o n) := ⟨atsL_len x o n, fun y hy => by
 obtain ⟨j, _, rfl⟩ := List.mem_map.1 hy
 have := at_bd hu (i := (j : Int) + o) (by omega)
 unfold LA.El; omega⟩
def fp (x : GF) : Nat → GF
 | 0 => 1
 | n + 1 => fp x n * x
theorem fp_add (x : GF) (a : Nat) : ∀ b, fp x (a + b) = fp x a * fp x b
 | 0 => by show fp x a = fp x a * 1; grind
 | b + 1 => by show fp x (a + b) * x = fp x a * (fp x b * x); rw [fp_add x a b]; grind
theorem fp_mulx (x y : GF) : ∀ n, fp (x * y) n = fp x n * fp y n
 | 0 => by show (1 : GF) = 1 * 1; decide
 | n + 1 => by show fp (x * y) n * (x * y) = (fp x n * x) * (fp y n * y); rw [fp_mulx x y n]; grind
theorem fp_one : ∀ n, fp 1 n = 1
 | 0 => rfl
 | n + 1 => by show fp 1 n * 1 = 1; rw [fp_one n]; decide
theorem fp_mul (x : GF) (a : Nat) : ∀ b, fp x (a * b) = fp (fp x a) b
 | 0 => rfl
 | b + 1 => by rw [Nat.mul_succ, fp_add, fp_mul x a b]; rfl
theorem fp_mod {x : GF} (h : fp x 1019 = 1) (n : Nat) : fp x (n % 1019) = fp x n := by
 have e : n = 1019 * (n / 1019) + n % 1019 := (Nat.div_add_mod n 1019).symm
 have e2 : fp x n = fp x (1019 * (n / 1019)) * fp x (n % 1019) := by rw [← fp_add, ← e]
 rw [e2, fp_mul, h, fp_one]; grind
theorem gpw_fp : ∀ (f n : Nat) (x : GF), n < 2 ^ f → gpw f x n = fp x n
 | 0, n, x, h => by
  have : n = 0 := by simpa using h
  subst this; rfl
 | f + 1, n, x, h => by
  have ih := gpw_fp f (n / 2) (x * x) (by rw [Nat.pow_succ] at h; omega)
  simp only [gpw]
  rw [ih]
  by_cases h0 : n = 0
  ·subst h0; rfl
  ·have e0 : n.beq 0 = false := by cases n with | zero => exact absurd rfl h0 | succ n => rfl
   rw [e0]; simp only [cond_false]
   have e1 : fp (x * x) (n / 2) = fp x (2 * (n / 2)) := by
    rw [fp_mul]; congr 1
    show x * x = (1 * x) * x; grind
   rw [e1]
   by_cases ho : n % 2 = 1
   ·rw [ho]; simp only [Nat.beq, cond_true]
    have e2 : fp x n = fp x (2 * (n / 2) + 1) := by congr 1; omega
    rw [e2]
    show x * _ = fp x (2 * (n / 2)) * x; grind
   ·have ho' : n % 2 = 0 := by omega
    rw [ho']; simp only [Nat.beq, cond_false]
    have e2 : fp x n = fp x (2 * (n / 2)) := by congr 1; omega
    rw [e2]; grind
theorem fp_grp {x : Int} (h : isGrp x = true) : fp (gc x) 1019 = 1 := by
 rw [← gpw_fp 10 1019 _ (by decide)]; exact (isGrp_iff.1 h).2
def hz (es : List Int) (v : Nat → Nat) : Nat → GF
 | 0 => 1
 | i + 1 => hz es v i * fp (gc (es.getD i 0)) (v i)
theorem hpw_hz {es xs : List Int} (he : ∀ g ∈ es, isGrp g = true) (hx : ∀ j, 0 ≤ xs.getD j 0 ∧ xs.getD j 0 ≤ 1018) : ∀ i, i ≤ es.length → gc (hpw es xs i) = hz es (fun j => (xs.getD j 0).toNat) i
 | 0, _ => rfl
 | i + 1, hi => by
  have ih := hpw_hz he hx i (by omega)
  have h1 := isGrp_t (hpw_grp he hx i (by omega))
  have h2 := hx i
  have h3 := pow_bd (grp_at he i) (n := xs.getD i 0) (by omega)
  simp only [hpw, hz]
  rw [gc_mod (Int.mul_nonneg (by omega) h3.1), gc_mul (by omega) h3.1, ih, pow_gc (grp_at he i) (by omega), gpw_fp 10 _ _ (by omega)]
theorem hz_congr {es : List Int} {v w : Nat → Nat} : ∀ i, (∀ j, j < i → v j = w j) → hz es v i = hz es w i
 | 0, _ => rfl
 | i + 1, h => by simp only [hz]; rw [hz_congr i (fun j hj => h j (by omega)), h i (by omega)]
theorem hz_null {es : List Int} : ∀ i, hz es (fun _ => 0) i = 1
 | 0 => rfl
 | i + 1 => by simp only [hz]; rw [hz_null i]; show (1 : GF) * 1 = 1; decide
theorem hz_add {es : List Int} {a b : Nat → Nat} {c : Nat} (he : ∀ g ∈ es, isGrp g = true) : ∀ i, i ≤ es.length → hz es (fun j => (a j + c * b j) % 1019) i = hz es a i * fp (hz es b i) c
 | 0, _ => by simp only [hz]; rw [fp_one]; decide
 | i + 1, hi => by
  have ih := hz_add (a := a) (b := b) (c := c) he i (by omega)
  simp only [hz]
  rw [ih, fp_mod (fp_grp (he _ (getD_mem (z := 0) (by omega)))), fp_add, fp_mulx, Nat.mul_comm c, fp_mul]; grind
theorem hz_comb {k cs : List Int} {vs : List (List Int)} {n : Nat} (hk : ∀ g ∈ k, isGrp g = true) (hn : k.length = n) (hv : ∀ j, j < vs.length → LA.VokB n (vs.getD j [])) (h0 : (vs.getD 0 []).length = n) (hc : ∀ j, 0 ≤ cs.getD j 0 ∧ cs.getD j 0 ≤ 1018) : ∀ i, i ≤ vs.length → hz k (fun j => ((combTo vs cs i).getD j 0).toNat) n = hz (vs.map (powsL k)) (fun j => (cs.getD j 0).toNat) i
 | 0, _ => by
  show hz k (fun j => ((combTo vs cs 0).getD j 0).toNat) n = 1
  rw [← hz_null (es := k) n]
  refine hz_congr n fun j hj => ?_
  simp only [combTo]
  rw [List.getD_eq_getElem?_getD, List.getElem?_replicate]
  split <;> rfl
 | i + 1, hi => by
  have ih := hz_comb hk hn hv h0 hc i (by omega)
  have hci := hc i
  have ho := combTo_ok (n := n) (vs := vs) (cs := cs) h0 hc i (fun j hj => hv j (by omega))
  have hvi := hv i (by omega)
  have e1 : hz k (fun j => ((combTo vs cs (i + 1)).getD j 0).toNat) n = hz k (fun j => (((combTo vs cs i).getD j 0).toNat + (cs.getD i 0).toNat * ((vs.getD i []).getD j 0).toNat) % 1019) n := by
   refine hz_congr n fun j hj => ?_
   simp only [combTo]
   rw [LA.addS_at (by rw [ho.1, hvi.1])]
   have g1 := ho.rng j
   have g2 := hvi.rng j
   have g3 := Int.mul_nonneg hci.1 g2.1
   rw [Int.tmod_eq_emod_of_nonneg (by omega), Int.toNat_emod (by omega) (by decide), Int.toNat_add g1.1 g3, Int.toNat_mul hci.1 g2.1]
   rfl
  rw [e1, hz_add hk n (by omega), ih]
  show _ = hz (vs.map (powsL k)) (fun j => (cs.getD j 0).toNat) i * fp (gc ((vs.map (powsL k)).getD i 0)) (cs.getD i 0).toNat
  congr 2
  have e2 : (vs.map (powsL k)).getD i 0 = powsL k (vs.getD i []) := by
   rw [getD_of_lt (by rw [List.length_map]; omega), getD_of_lt (by omega), List.getElem_map]
  rw [e2]; unfold powsL
  rw [hpw_hz hk hvi.rng _ (Nat.le_refl _), hn]
theorem gc_small {x y : Int} (hx : isGrp x = true) (hy : isGrp y = true) (h : gc x = gc y) : x = y := by
 have a := isGrp_t hx; have b := isGrp_t hy
 exact gc_inj (by omega) (by omega) h
theorem hash_comb {k cs : List Int} {vs : List (List Int)} (hk : ∀ g ∈ k, isGrp g = true) (hv : ∀ j, j < vs.length → LA.VokB k.length (vs.getD j [])) (h0 : (vs.getD 0 []).length = k.length) (hc : ∀ j, 0 ≤ cs.getD j 0 ∧ cs.getD j 0 ≤ 1018) : powsL k (combS vs cs) = powsL (vs.map (powsL k)) cs := by
 have hg : ∀ g ∈ vs.map (powsL k), isGrp g = true := fun g h => by
  obtain ⟨r, hr, rfl⟩ := List.mem_map.1 h
  obtain ⟨i, hi, rfl⟩ := List.getElem_of_mem hr
  have := hv i hi
  rw [getD_of_lt hi] at this
  exact hpw_grp hk this.rng _ (Nat.le_refl _)
 have ho := combTo_ok (n := k.length) (vs := vs) (cs := cs) h0 hc vs.length hv
 have e := hz_comb hk rfl hv h0 hc vs.length (Nat.le_refl _)
 have e0 : ∀ es xs : List Int, powsL es xs = hpw es xs es.length := fun _ _ => rfl
 rw [e0 k, e0 (vs.map (powsL k))]
 unfold combS
 refine gc_small (hpw_grp hk ho.rng _ (Nat.le_refl _)) (hpw_grp hg hc _ (Nat.le_refl _)) ?_
 rw [hpw_hz hk ho.rng _ (Nat.le_refl _), hpw_hz hg hc _ (Nat.le_refl _), e, List.length_map]
theorem hsOK_rows {k : List Int} {g : T26} (h : hsOK k g) : (∀ j, j < g.2.length → LA.VokB k.length (g.2.getD j [])) ∧ (g.2.getD 0 []).length = k.length := by
 have h1 := validG_t h.2.1
 have h2 := validM_ok h1.2.2.1
 have h3 := colsOf_at (m := g.2) (by omega)
 have h4 := h.2.2
 have h5 : (g.2.getD 0 []).length = k.length := by omega
 refine ⟨fun j hj => ?_, h5⟩
 have := h2 _ (LA.getD_in hj)
 rwa [h5] at this
theorem verH_iff {k cs y : List Int} {g : T26} {a : Int} (h : hsOK k g) (hc : LA.VokB g.2.length cs) (hy : LA.VokB k.length y) : verH k (hashSyms k g) (a, cs, y) = true ↔ powsL k y = powsL k (combS g.2 cs) := by
 have hk := validK_t h.1
 have h1 := validG_t h.2.1
 obtain ⟨hr, h0⟩ := hsOK_rows h
 have e1 : hashV k y = powsL k y := by
  unfold hashV
  rw [if_pos h.1, if_pos (validV_of hy (by omega)), if_pos (by have := hy.1; omega)]
 have e2 : hashSyms k g = g.2.map (powsL k) := by
  unfold hashSyms; rw [if_pos h]
 have hg : (hashSyms k g).all isGrp = true := List.all_eq_true.2 fun z hz => by
  rw [e2] at hz
  obtain ⟨r, hr', rfl⟩ := List.mem_map.1 hz
  obtain ⟨i, hi, rfl⟩ := List.getElem_of_mem hr'
  have := hr i hi
  rw [getD_of_lt hi] at this
  exact hpw_grp hk.2 this.rng _ (Nat.le_refl _)
 have e3 : combH (hashSyms k g) cs = powsL k (combS g.2 cs) := by
  unfold combH
  rw [if_pos ⟨validV_of hc (by omega), by rw [e2, List.length_map, hc.1], hg⟩, hash_comb hk.2 hr h0 hc.rng, e2]
 have hy1 : isGrp (powsL k y) = true := hpw_grp hk.2 hy.rng _ (Nat.le_refl _)
 have hy2 := isGrp_t hy1
 unfold verH
 simp only [e1, e3]
 rw [if_neg (by omega), decide_eq_true_iff]
theorem chk_at {s src a : Int} {k cs y : List Int} {g : T26} (h : hsOK k g) (hs : 0 ≤ src ∧ src ≤ 7) (hc : LA.VokB g.2.length cs) (hy : LA.VokB k.length y) (ha : 0 ≤ a ∧ a ≤ 1000000000000) : checkP k (mkMan s src k g) (a, cs, y) = if a = g.1 then (if verH k (hashSyms k g) (a, cs, y) = true then 0 else 3) else 2 := by
 have hk := validK_t h.1
 have h1 := validG_t h.2.1
 have hf : isFmt a ((List.length g.2 : Nat) : Int) (colsOf g.2) = true := by
  unfold isFmt
  rw [if_pos (show inR a 0 1000000000000 = true from inR_true ha), if_pos (show inR ((List.length g.2 : Nat) : Int) 1 8 = true from inR_true (by omega))]
  exact inR_true h1.2.2.2
 have hv : validP (a, cs, y) ((List.length g.2 : Nat) : Int) (colsOf g.2) = true := validP_of ⟨hf, by show ((List.length cs : Nat) : Int) = _; rw [hc.1], by show ((List.length y : Nat) : Int) = _; rw [hy.1]; exact h.2.2.symm, validV_of hc (by omega), validV_of hy (by omega)⟩
 unfold checkP
 rw [if_pos (mkMan_ok h hs), if_pos h.1, if_pos (show (mkMan s src k g).2.2.2.1 = _ from h.2.2), if_pos (show validP (a, cs, y) (mkMan s src k g).2.2.1 (mkMan s src k g).2.2.2.1 = true from hv)]
 rfl
theorem combS_len {k cs : List Int} {g : T26} (h : hsOK k g) (hc : LA.VokB g.2.length cs) : LA.VokB k.length (combS g.2 cs) := by
 obtain ⟨hr, h0⟩ := hsOK_rows h
 exact combTo_ok h0 hc.rng g.2.length hr
theorem chk_code {s src : Int} {k cs : List Int} {g : T26} (h : hsOK k g) (hs : 0 ≤ src ∧ src ≤ 7) (hc : LA.VokB g.2.length cs) : checkP k (mkMan s src k g) (g.1, cs, combS g.2 cs) = 0 := by
 have h1 := validG_t h.2.1
 rw [chk_at h hs hc (combS_len h hc) (by omega), if_pos rfl, if_pos ((verH_iff h hc (combS_len h hc)).2 rfl)]
theorem chk_for {s src : Int} {k cs : List Int} {g : T26} (h : hsOK k g) (hs : 0 ≤ src ∧ src ≤ 7) (hc : LA.VokB g.2.length cs) (hg : g.1 ≤ 4) : checkP k (mkMan s src k g) (g.1 + 1, cs, combS g.2 cs) = 2 := by
 have h1 := validG_t h.2.1
 rw [chk_at h hs hc (combS_len h hc) (by omega), if_neg (by omega)]
theorem chk_zero {s src : Int} {k : List Int} {g : T26} (h : hsOK k g) (hs : 0 ≤ src ∧ src ≤ 7) : checkP k (mkMan s src k g) (0, [], []) = 1 := by
 have h1 := validG_t h.2.1
 have hv : validP (0, [], []) (mkMan s src k g).2.2.1 (mkMan s src k g).2.2.2.1 = false := by
  rw [Bool.eq_false_iff]; intro e
  have h2 := (validP_n e).2.1
  have h3 : (mkMan s src k g).2.2.1 = ((List.length g.2 : Nat) : Int) := rfl
  rw [h3] at h2
  simp at h2
  omega
 unfold checkP
 rw [if_pos (mkMan_ok h hs), if_pos h.1, if_pos (show (mkMan s src k g).2.2.2.1 = _ from h.2.2), if_neg (fun e => by rw [hv] at e; cases e)]
def verM (x0 : Int) (x1 : T31) : Bool := (if (isKey x0) = true then (if (validMan x1) = true then decide (x1.2.2.2.2.2 = (manMAC x0 x1)) else false) else false)
abbrev Q_impl_VerifyManifest := (fun (x0 : Int) (x1 : T31) => Sh.fit s31 x1)
def S_impl_VerifyManifest : Sum := { fid := 13, dom := [(.int 3), s31], cod := [(.bool 4)], dp := true, fz := false, pre := fun x => Q_impl_VerifyManifest x.1 x.2.1, g := fun x => ((verM x.1 x.2.1), ()) }
def S_impl_VerifyManifest_tab : List (Nat × Sum) := [(49, S_impl_IsValidKey), (12, S_impl_IsValidManifest), (14, S_impl_ManifestMAC)]
theorem S_impl_VerifyManifest_ok : FnOK Try.prog 13 S_impl_VerifyManifest := by
 refine at_enter 19 (fun x => ⟨[(0, aI x.1), (1, aG [cI x.2.1.1, cI x.2.1.2.1, cI x.2.1.2.2.1, cI x.2.1.2.2.2.1, .ro (.int 3) x.2.1.2.2.2.2.1, cI x.2.1.2.2.2.2.2])], []⟩) Try.func13 rfl (by kernel_rfl) (fun x => rfl) ?_
 rintro w0 Z0 ⟨x0, x1, u⟩ a w
 revert x0 x1
 intro (x0 : Int) (x1 : T31) hpre hlens h
 replace hpre : Q_impl_VerifyManifest x0 x1 := hpre
 have hT : TabOK Try.prog S_impl_VerifyManifest_tab := (.cons S_impl_IsValidKey_ok (.cons S_impl_IsValidManifest_ok (.cons S_impl_ManifestMAC_ok .nil)))
 have hf1 : Sh.fit s31 x1 := hpre
 have hn1_1 : List.length x1.2.2.2.2.1 ≤ 1073741824 := hf1.2.2.2.2.1.1
 refine wp_seq ?_
 refine at_regq [{ ids := [1] }] { ts := [0, 3, 4], os := [1] } [] gamOK hT h (by kernel_rfl) trivial fun a w h => then_normal (wp_seq ?_)
 rcases Bool.eq_false_or_eq_true ((isKey x0)) with h1 | h1
 ·have hvh1 := isKey_t h1
  rcases Bool.eq_false_or_eq_true ((validMan x1)) with h2 | h2
  ·refine at_anyq [{}, { hint := some (aB true) }, {}, {}, { hint := some (aB true) }, {}, {}, {}, {}, {}, {}, {}, {}, {}, {}] { ts := [4], os := [] } [True, (AV.p (.c (.v (.bool ((isKey x0))))) = AV.p (.c (.v (.bool true)))), Q_impl_IsValidManifest x1, (AV.p (.c (.v (.bool ((validMan x1))))) = AV.p (.c (.v (.bool true)))), Q_impl_ManifestMAC x0 x1] gamOK hT mixed h (by kernel_rfl) ⟨trivial, hint_bool (h1), (by exact hf1), hint_bool (h2), (by exact hf1), trivial⟩ fun a w h => then_normal (wp_ret ?_)
   exact at_return (decide (x1.2.2.2.2.2 = (manMAC x0 x1)), ()) [] h (by kernel_rfl) trivial (congrArg (fun z => (z, ())) (show (decide (x1.2.2.2.2.2 = (manMAC x0 x1))) = verM x0 x1 from by first | rfl | (unfold verM; rw [if_pos h1, if_pos h2])))
  ·refine at_anyq [{}, { hint := some (aB true) }, {}, {}, { hint := some (aB false) }, {}, {}, {}, {}, {}, {}, {}, {}, {}, {}] { ts := [4], os := [] } [True, (AV.p (.c (.v (.bool ((isKey x0))))) = AV.p (.c (.v (.bool true)))), Q_impl_IsValidManifest x1, (AV.p (.c (.v (.bool ((validMan x1))))) = AV.p (.c (.v (.bool false))))] gamOK hT mixed h (by kernel_rfl) ⟨trivial, hint_bool (h1), (by exact hf1), hint_bool (h2), trivial⟩ fun a w h => then_normal (wp_ret ?_)
   exact at_return (false, ()) [] h (by kernel_rfl) trivial (congrArg (fun z => (z, ())) (show (false) = verM x0 x1 from by first | rfl | (unfold verM; rw [if_pos h1, if_neg (neT h2)])))
 ·refine at_anyq [{}, { hint := some (aB false) }, {}, {}, {}, {}, {}, {}, {}, {}, {}, {}, {}, {}, {}] { ts := [4], os := [] } [True, (AV.p (.c (.v (.bool ((isKey x0))))) = AV.p (.c (.v (.bool false))))] gamOK hT mixed h (by kernel_rfl) ⟨trivial, hint_bool (h1), trivial⟩ fun a w h => then_normal (wp_ret ?_)
  exact at_return (false, ()) [] h (by kernel_rfl) trivial (congrArg (fun z => (z, ())) (show (false) = verM x0 x1 from by first | rfl | (unfold verM; rw [if_neg (neT h1)])))
theorem no_man : ∀ n : Fin 40, ¬ ((2147483647 : Int) ∣ ((1 * 1000003 ^ 4 * 1000003 + 0) * 1000003 ^ n.val) * 1000003 + 1) := by decide +kernel
theorem man_key {s : Int} {m : T31} (h : List.length m.2.2.2.2.1 ≤ 30) : manMAC (s + 1) m ≠ manMAC s m := by
 intro e
 have e0 : ∀ t, manMAC t m = keyed t ([83, m.1, m.2.1, m.2.2.1] ++ m.2.2.2.1 :: m.2.2.2.2.1) := fun t => rfl
 rw [e0, e0] at e
 have q := keyed_two (s + 1) s m.2.2.2.1 m.2.2.2.1 [83, m.1, m.2.1, m.2.2.1] m.2.2.2.2.1
 rw [e] at q
 have q1 := dvd_of_sub q
 clear q e e0
 have e1 : s + 1 - s = 1 := by omega
 rw [e1, Int.sub_self] at q1
 exact no_man ⟨List.length m.2.2.2.2.1, by omega⟩ q1
theorem man_gen {s src g z w a : Int} {hs : List Int} {a' : Int} (h : List.length hs ≤ 30) : manMAC s (src, g + 1, z, w, hs, a) ≠ manMAC s (src, g, z, w, hs, a') := by
 intro e
 have e0 : ∀ t b, manMAC s (src, t, z, w, hs, b) = keyed s ([83, src] ++ t :: (z :: w :: hs)) := fun t b => rfl
 rw [e0, e0] at e
 have q := keyed_two s s (g + 1) g [83, src] (z :: w :: hs)
 rw [e] at q
 have q1 := dvd_of_sub q
 clear q e e0
 have e1 : g + 1 - g = 1 := by omega
 simp only [Int.sub_self, e1, Int.zero_mul, Int.zero_add, Int.one_mul, Int.add_zero, List.length_cons] at q1
 exact pow_ne (by omega) q1
theorem mkMan_len {s src : Int} {k : List Int} {g : T26} (h : validG g = true) : List.length (mkMan s src k g).2.2.2.2.1 ≤ 8 := by
 have h1 := validG_t h
 have := hashSyms_len (k := k) (g := g)
 show List.length (hashSyms k g) ≤ 8
 omega
theorem ver_ok {s src : Int} {k : List Int} {g : T26} (h : hsOK k g) (hs : 0 ≤ src ∧ src ≤ 7) (hk : 1 ≤ s ∧ s ≤ 256) : verM s (mkMan s src k g) = true := by
 unfold verM
 rw [if_pos (show isKey s = true from inR_true (by omega)), if_pos (mkMan_ok h hs)]
 exact decide_eq_true rfl
theorem ver_key {s src : Int} {k : List Int} {g : T26} (h : hsOK k g) : verM (s + 1) (mkMan s src k g) = false := by
 have hl := mkMan_len (s := s) (src := src) (k := k) h.2.1
 unfold verM
 split
 ·split
  ·refine decide_eq_false fun e => ?_
   exact man_key (m := mkMan s src k g) (s := s) (by omega) e.symm
  ·rfl
 ·rfl
theorem ver_gen {s src : Int} {k : List Int} {g : T26} (h : hsOK k g) : verM s ((signMan s (mkMan s src k g)).1, ((mkMan s src k g).2.1 + 1, (signMan s (mkMan s src k g)).2.2)) = false := by
 have hl := mkMan_len (s := s) (src := src) (k := k) h.2.1
 unfold verM
 split
 ·split
  ·refine decide_eq_false fun e => ?_
   exact man_gen (s := s) (src := src) (g := g.1) (z := ((List.length g.2 : Nat) : Int)) (w := colsOf g.2) (hs := hashSyms k g) (a := manMAC s (mkMan s src k g)) (a' := manMAC s (src, g.1, ((List.length g.2 : Nat) : Int), colsOf g.2, hashSyms k g, 0)) (by have := hashSyms_len (k := k) (g := g); have := validG_t h.2.1; omega) e.symm
  ·rfl
 ·rfl

def S_impl_EqualManifests : Sum := { fid := 18, dom := [s31, s31], cod := [(.bool 4)], dp := true, fz := false, pre := fun x => True, g := fun x => (((Sh.eqB s31) x.1 x.2.1), ()) }
def S_impl_EqualManifests_tab : List (Nat × Sum) := [(64, S_slices_Equal_S_int_int_)]
theorem S_impl_EqualManifests_ok : FnOK Try.prog 18 S_impl_EqualManifests := by
 refine at_enter 45 (fun x => ⟨[(0, aG [cI x.1.1, cI x.1.2.1, cI x.1.2.2.1, cI x.1.2.2.2.1, .ro (.int 3) x.1.2.2.2.2.1, cI x.1.2.2.2.2.2]), (1, aG [cI x.2.1.1, cI x.2.1.2.1, cI x.2.1.2.2.1, cI x.2.1.2.2.2.1, .ro (.int 3) x.2.1.2.2.2.2.1, cI x.2.1.2.2.2.2.2])], []⟩) Try.func18 rfl (by kernel_rfl) (fun x => rfl) ?_
 rintro w0 Z0 ⟨x0, x1, u⟩ a w
 revert x0 x1
 intro (x0 : T31) (x1 : T31) hpre hlens h
 have hl1 : List.length x0.2.2.2.2.1 ≤ 9223372036854775807 := hlens.1.2.2.2.2.1.1
 have hl2 : List.length x1.2.2.2.2.1 ≤ 9223372036854775807 := hlens.2.1.2.2.2.2.1.1
 have hT : TabOK Try.prog S_impl_EqualManifests_tab := (.cons S_slices_Equal_S_int_int__ok .nil)
 refine wp_seq ?_
 refine at_regq [{ ids := [1] }, { ids := [2] }] { ts := [2, 3, 4], os := [1, 2] } [] gamOK hT h (by kernel_rfl) trivial fun a w h => then_normal (wp_seq ?_)
 by_cases h1 : x0.1 = x1.1
 ·by_cases h2 : x0.2.1 = x1.2.1
  ·by_cases h3 : x0.2.2.1 = x1.2.2.1
   ·by_cases h4 : x0.2.2.2.1 = x1.2.2.2.1
    ·by_cases h5 : x0.2.2.2.2.2 = x1.2.2.2.2.2
     ·refine at_regq [{}, {}, {}, {}, { hint := some (aB true) }, {}, {}, {}, {}, {}, { hint := some (aB true) }, {}, {}, {}, {}, {}, {}, { hint := some (aB true) }, {}, {}, {}, {}, {}, {}, { hint := some (aB true) }, {}, {}, {}, {}, {}, {}, { hint := some (aB true) }] { ts := [4], os := [] } [(AV.p (.c (.v (.bool (decide (x0.1 = x1.1))))) = AV.p (.c (.v (.bool true)))), (AV.p (.c (.v (.bool (decide (x0.2.1 = x1.2.1))))) = AV.p (.c (.v (.bool true)))), (AV.p (.c (.v (.bool (decide (x0.2.2.1 = x1.2.2.1))))) = AV.p (.c (.v (.bool true)))), (AV.p (.c (.v (.bool (decide (x0.2.2.2.1 = x1.2.2.2.1))))) = AV.p (.c (.v (.bool true)))), (AV.p (.c (.v (.bool (decide (x0.2.2.2.2.2 = x1.2.2.2.2.2))))) = AV.p (.c (.v (.bool true)))), True] gamOK hT h (by kernel_rfl) ⟨hint_bool (decide_eq_true h1), hint_bool (decide_eq_true h2), hint_bool (decide_eq_true h3), hint_bool (decide_eq_true h4), hint_bool (decide_eq_true h5), trivial, trivial⟩ fun a w h => then_normal (wp_ret ?_)
      exact at_return (((Sh.eqB s27) x0.2.2.2.2.1 x1.2.2.2.2.1), ()) [] h (by kernel_rfl) trivial (congrArg (fun z => (z, ())) (show (((Sh.eqB s27) x0.2.2.2.2.1 x1.2.2.2.2.1)) = (Sh.eqB s31) x0 x1 from by (show _ = Sh.eqB s31 x0 x1; simp_all [Sh.eqB])))
     ·refine at_regq [{}, {}, {}, {}, { hint := some (aB true) }, {}, {}, {}, {}, {}, { hint := some (aB true) }, {}, {}, {}, {}, {}, {}, { hint := some (aB true) }, {}, {}, {}, {}, {}, {}, { hint := some (aB true) }, {}, {}, {}, {}, {}, {}, { hint := some (aB false) }] { ts := [4], os := [] } [(AV.p (.c (.v (.bool (decide (x0.1 = x1.1))))) = AV.p (.c (.v (.bool true)))), (AV.p (.c (.v (.bool (decide (x0.2.1 = x1.2.1))))) = AV.p (.c (.v (.bool true)))), (AV.p (.c (.v (.bool (decide (x0.2.2.1 = x1.2.2.1))))) = AV.p (.c (.v (.bool true)))), (AV.p (.c (.v (.bool (decide (x0.2.2.2.1 = x1.2.2.2.1))))) = AV.p (.c (.v (.bool true)))), (AV.p (.c (.v (.bool (decide (x0.2.2.2.2.2 = x1.2.2.2.2.2))))) = AV.p (.c (.v (.bool false))))] gamOK hT h (by kernel_rfl) ⟨hint_bool (decide_eq_true h1), hint_bool (decide_eq_true h2), hint_bool (decide_eq_true h3), hint_bool (decide_eq_true h4), hint_bool (decide_eq_false h5), trivial⟩ fun a w h => then_normal (wp_ret ?_)
      exact at_return (false, ()) [] h (by kernel_rfl) trivial (congrArg (fun z => (z, ())) (show (false) = (Sh.eqB s31) x0 x1 from by (show _ = Sh.eqB s31 x0 x1; simp_all [Sh.eqB])))
    ·refine at_regq [{}, {}, {}, {}, { hint := some (aB true) }, {}, {}, {}, {}, {}, { hint := some (aB true) }, {}, {}, {}, {}, {}, {}, { hint := some (aB true) }, {}, {}, {}, {}, {}, {}, { hint := some (aB false) }] { ts := [4], os := [] } [(AV.p (.c (.v (.bool (decide (x0.1 = x1.1))))) = AV.p (.c (.v (.bool true)))), (AV.p (.c (.v (.bool (decide (x0.2.1 = x1.2.1))))) = AV.p (.c (.v (.bool true)))), (AV.p (.c (.v (.bool (decide (x0.2.2.1 = x1.2.2.1))))) = AV.p (.c (.v (.bool true)))), (AV.p (.c (.v (.bool (decide (x0.2.2.2.1 = x1.2.2.2.1))))) = AV.p (.c (.v (.bool false))))] gamOK hT h (by kernel_rfl) ⟨hint_bool (decide_eq_true h1), hint_bool (decide_eq_true h2), hint_bool (decide_eq_true h3), hint_bool (decide_eq_false h4), trivial⟩ fun a w h => then_normal (wp_ret ?_)
     exact at_return (false, ()) [] h (by kernel_rfl) trivial (congrArg (fun z => (z, ())) (show (false) = (Sh.eqB s31) x0 x1 from by (show _ = Sh.eqB s31 x0 x1; simp_all [Sh.eqB])))
   ·refine at_regq [{}, {}, {}, {}, { hint := some (aB true) }, {}, {}, {}, {}, {}, { hint := some (aB true) }, {}, {}, {}, {}, {}, {}, { hint := some (aB false) }] { ts := [4], os := [] } [(AV.p (.c (.v (.bool (decide (x0.1 = x1.1))))) = AV.p (.c (.v (.bool true)))), (AV.p (.c (.v (.bool (decide (x0.2.1 = x1.2.1))))) = AV.p (.c (.v (.bool true)))), (AV.p (.c (.v (.bool (decide (x0.2.2.1 = x1.2.2.1))))) = AV.p (.c (.v (.bool false))))] gamOK hT h (by kernel_rfl) ⟨hint_bool (decide_eq_true h1), hint_bool (decide_eq_true h2), hint_bool (decide_eq_false h3), trivial⟩ fun a w h => then_normal (wp_ret ?_)
    exact at_return (false, ()) [] h (by kernel_rfl) trivial (congrArg (fun z => (z, ())) (show (false) = (Sh.eqB s31) x0 x1 from by (show _ = Sh.eqB s31 x0 x1; simp_all [Sh.eqB])))
  ·refine at_regq [{}, {}, {}, {}, { hint := some (aB true) }, {}, {}, {}, {}, {}, { hint := some (aB false) }] { ts := [4], os := [] } [(AV.p (.c (.v (.bool (decide (x0.1 = x1.1))))) = AV.p (.c (.v (.bool true)))), (AV.p (.c (.v (.bool (decide (x0.2.1 = x1.2.1))))) = AV.p (.c (.v (.bool false))))] gamOK hT h (by kernel_rfl) ⟨hint_bool (decide_eq_true h1), hint_bool (decide_eq_false h2), trivial⟩ fun a w h => then_normal (wp_ret ?_)
   exact at_return (false, ()) [] h (by kernel_rfl) trivial (congrArg (fun z => (z, ())) (show (false) = (Sh.eqB s31) x0 x1 from by (show _ = Sh.eqB s31 x0 x1; simp_all [Sh.eqB])))
 ·refine at_regq [{}, {}, {}, {}, { hint := some (aB false) }] { ts := [4], os := [] } [(AV.p (.c (.v (.bool (decide (x0.1 = x1.1))))) = AV.p (.c (.v (.bool false))))] gamOK hT h (by kernel_rfl) ⟨hint_bool (decide_eq_false h1), trivial⟩ fun a w h => then_normal (wp_ret ?_)
  exact at_return (false, ()) [] h (by kernel_rfl) trivial (congrArg (fun z => (z, ())) (show (false) = (Sh.eqB s31) x0 x1 from by (show _ = Sh.eqB s31 x0 x1; simp_all [Sh.eqB])))

theorem law_man {s src : Int} {k cs : List Int} {g : T26} {N : T31 × Bool} (h : hsOK k g) (hs : 0 ≤ src ∧ src ≤ 7) (hk : 1 ≤ s ∧ s ≤ 256) (hc : LA.VokB g.2.length cs) (hg : g.1 ≤ 4) (hM : N = makeMan s src k g) :
  N.2 = true ∧ validMan N.1 = true ∧ verM s N.1 = true ∧ verM (s + 1) N.1 = false ∧ N.1.2.2.2.2.2 = manMAC s N.1 ∧ verM s ((signMan s N.1).1, (N.1.2.1 + 1, (signMan s N.1).2.2)) = false ∧ checkP k N.1 (codePk g cs).1 = 0 ∧ checkP k N.1 ((codePk g cs).1.1 + 1, (codePk g cs).1.2) = 2 ∧ checkP k N.1 (0, [], []) = 1 ∧ Sh.fit s31 N.1 ∧ Sh.fit s42 (codePk g cs).1 ∧ ((0 ≤ N.1.2.1 ∧ N.1.2.1 ≤ 4) ∧ (0 ≤ (codePk g cs).1.1 ∧ (codePk g cs).1.1 ≤ 4)) := by
 have e := makeMan_yes (s := s) (src := src) (show isKey s = true from inR_true (by omega)) (mkMan_ok (s := s) h hs)
 rw [← e] at hM
 subst hM
 have hv := validG_t h.2.1
 have hl := combS_len h hc
 have hkl := (validK_t h.1).1
 rw [codePk_ok h.2.1 hc]
 exact ⟨rfl, mkMan_ok h hs, ver_ok h hs hk, ver_key h, rfl, ver_gen h, chk_code h hs hc, chk_for h hs hc hg, chk_zero h hs, ⟨trivial, trivial, trivial, trivial, ⟨Nat.le_trans (mkMan_len h.2.1) (by decide), fun _ _ => trivial⟩, trivial⟩, ⟨trivial, ⟨by have := hc.1; show List.length cs ≤ _; omega, fun _ _ => trivial⟩, ⟨by have := hl.1; show List.length (combS g.2 cs) ≤ _; omega, fun _ _ => trivial⟩⟩, ⟨hv.1.1, hg⟩, hv.1.1, hg⟩
end Go.Proofs.Ytpffjagdefkfkaa
