/- The walks of the functions that the law reaches: each summary holds. No condition. -/
import Derived.Test.YtpffjagdefkfkaaDoorX1
import Derived.Test.YtpffjagdefkfkaaDoorLA
import Derived.Test.YtpffjagdefkfkaaDoorProg
namespace Go.Proofs.YtpffjagdefkfkaaDoor
open Go.RowKit
set_option linter.unusedVariables false
set_option linter.unusedSimpArgs false
theorem validR_snoc (r : T51) (p : T29) : validR (r.1, r.2.1, r.2.2.1, r.2.2.2.1 ++ [p], r.2.2.2.2) = (validR r && accOK r p) := by
 obtain ⟨g, s, w, ps, sn⟩ := r
 have e1 : allN (recB (g, s, w, ps ++ [p], sn)) ps.length = allN (recB (g, s, w, ps, sn)) ps.length := allN_congr fun j hj => by
  unfold recB
  dsimp only
  rw [cofs_snoc, insOk_app _ _ (by rw [cofs_len]; exact hj), getD_app hj]; rfl
 have e2 : recB (g, s, w, ps ++ [p], sn) ps.length = (okPkt (g, s, w, ps, sn) p && insD (s, LA.insTo (cofs ps) (List.length ps)) p.2.1) := by
  unfold recB
  dsimp only
  rw [getD_end, cofs_snoc]
  congr 1
  unfold LA.insOk insD
  rw [insTo_app _ _ _ (by rw [cofs_len]; exact Nat.le_refl _)]
  dsimp only
  rw [show (cofs ps ++ [p.2.1]).getD ps.length [] = p.2.1 from by rw [← cofs_len ps]; exact getD_end]
 unfold validR accOK
 dsimp only
 rw [List.length_append, List.length_singleton]
 simp only [allN]
 rw [e1, e2]
 have e3 : decide (ps.length + 1 ≤ 8) = (decide (ps.length ≤ 8) && !decide (ps.length = 8)) := by
  rw [Bool.eq_iff_iff]; simp; omega
 rw [e3]
 generalize decide (ps.length ≤ 8) = a
 generalize decide (ps.length = 8) = b
 generalize isFmt g s w = c
 generalize inR sn 0 1000000000000 = d
 generalize allN (recB (g, s, w, ps, sn)) ps.length = e
 generalize okPkt (g, s, w, ps, sn) p = f
 generalize insD (s, LA.insTo (cofs ps) ps.length) p.2.1 = h
 cases a <;> cases b <;> cases c <;> cases d <;> cases e <;> cases f <;> cases h <;> rfl
theorem fit_cofs {ps : List T29} (h : Sh.fit s49 ps) : Sh.fit s44 (cofs ps) := ⟨by rw [cofs_len]; exact h.1, fun v hv => by
 obtain ⟨p, hp, rfl⟩ := List.mem_map.1 hv
 exact (h.2 p hp).2.1⟩
theorem rank_cofs {r : T51} (h : allN (fun j => okPkt r (r.2.2.2.1.getD j (0, ([], [])))) (List.length r.2.2.2.1) = true) (hl : List.length r.2.2.2.1 ≤ 8) : decide (((List.length (rowRed (cofs r.2.2.2.1)) : Nat) : Int) = ((List.length (cofs r.2.2.2.1) : Nat) : Int)) = allN (recB r) (List.length r.2.2.2.1) := by
 have hp := allN_iff.1 h
 have hv : ∀ v ∈ cofs r.2.2.2.1, LA.VokB r.2.1.toNat v := fun v hv => by
  obtain ⟨j, hj, rfl⟩ := List.getElem_of_mem hv
  rw [cofs_len] at hj
  have h2 := (okPkt_v (hp j hj)).2
  rw [← cofs_at hj, getD_of_lt (by rw [cofs_len]; exact hj)] at h2
  exact h2
 have e : allN (recB r) (List.length r.2.2.2.1) = allN (LA.insOk (cofs r.2.2.2.1)) (List.length r.2.2.2.1) := allN_congr fun j hj => by
  unfold recB; rw [hp j hj, Bool.true_and]
 rw [e, Bool.eq_iff_iff, decide_eq_true_iff, allN_iff]
 rcases Nat.eq_zero_or_pos (List.length r.2.2.2.1) with h0 | h0
 ·rw [List.eq_nil_of_length_eq_zero h0]
  exact ⟨fun _ j hj => absurd hj (by simp), fun _ => rfl⟩
 ·have hs := (okPkt_v (hp 0 h0)).1
  have hM : validM (cofs r.2.2.2.1) = true := by
   unfold validM
   rw [if_pos]
   ·exact decide_eq_true (by rw [cofs_len]; omega)
   ·rw [List.all_eq_true]; intro v hvm
    rw [Bool.and_eq_true]
    refine ⟨validV_of (hv v hvm) (by omega), decide_eq_true ?_⟩
    rw [(hv v hvm).1, (hv _ (LA.getD_in (i := 0) (by rw [cofs_len]; exact h0))).1]
  rw [rowRed_at hM, (hv _ (LA.getD_in (i := 0) (by rw [cofs_len]; exact h0))).1]
  have := LA.rank_full hv
  rw [cofs_len] at this ⊢
  rw [← this]; omega
def newRec (x0 : Int) (x1 : Int) (x2 : Int) : T51 := (if (isFmt x0 x1 x2) = true then (x0, (x1, (x2, (([] : List T29), 0)))) else (0, (0, (0, (([] : List T29), 0)))))
def S_spec_NewRecoder : Sum := { fid := 44, dom := [(.int 3), (.int 3), (.int 3)], cod := [s51], dp := true, fz := false, pre := fun x => True, g := fun x => ((newRec x.1 x.2.1 x.2.2.1), ()) }
def S_spec_NewRecoder_tab : List (Nat × Sum) := [(57, S_spec_l14Range)]
theorem S_spec_NewRecoder_ok : FnOK Tryd.prog 44 S_spec_NewRecoder := by
 refine at_enter 17 (fun x => ⟨[(0, aI x.1), (1, aI x.2.1), (2, aI x.2.2.1)], []⟩) Tryd.func44 rfl (by kernel_rfl) (fun x => rfl) ?_
 rintro w0 Z0 ⟨x0, x1, x2, u⟩ a w
 revert x0 x1 x2
 intro (x0 : Int) (x1 : Int) (x2 : Int) hpre hlens h
 have hT : TabOK Tryd.prog w0 [] S_spec_NewRecoder_tab := (.cons S_spec_l14Range_ok .nil)
 refine wp_seq ?_
 refine at_regq [{ ids := [1] }] { ts := [0, 1, 2, 6], os := [1] } [] gamOK hT h (by kernel_rfl) trivial fun a w h => then_normal (wp_seq (wp_seq ?_))
 refine at_regq [] { ts := [0, 1, 2, 6, 11], os := [1] } [True] gamOK hT h (by kernel_rfl) ⟨trivial, trivial⟩ fun a w h => then_normal ?_
 refine at_test (!(isFmt x0 x1 x2)) h (by kernel_rfl) (fun h1 => ?_) (fun h1 => ?_)
 ·replace h1 : (isFmt x0 x1 x2) = false := notT h1
  refine wp_seq ?_
  refine at_regq [] { ts := [0, 1, 2, 6], os := [1] } [] gamOK hT h (by kernel_rfl) trivial fun a w h => then_normal (wp_ret (then_ret ?_))
  exact at_return ((0, (0, (0, (([] : List T29), 0)))), ()) [] h (by kernel_rfl) trivial (congrArg (fun z => (z, ())) (show ((0, (0, (0, (([] : List T29), 0))))) = newRec x0 x1 x2 from by first | rfl | (unfold newRec; rw [if_neg (neT h1)])))
 ·replace h1 : (isFmt x0 x1 x2) = true := notF h1
  have hvh1 := isFmt_t h1
  refine wp_skip (then_normal (wp_seq ?_))
  refine at_regq [] { ts := [6], os := [1] } [] gamOK hT h (by kernel_rfl) trivial fun a w h => then_normal (wp_ret ?_)
  exact at_return ((x0, (x1, (x2, (([] : List T29), 0)))), ()) [] h (by kernel_rfl) trivial (congrArg (fun z => (z, ())) (show ((x0, (x1, (x2, (([] : List T29), 0))))) = newRec x0 x1 x2 from by first | rfl | (unfold newRec; rw [if_pos h1])))

def D_spec_Rank := (fun (m : List (List Int)) => ((List.length (rowRed m) : Nat) : Int))
abbrev Q_spec_Rank := (fun (x0 : (List (List Int))) => Sh.fit s44 x0)
def S_spec_Rank : Sum := { fid := 63, dom := [s44], cod := [(.int 3)], dp := true, fz := false, pre := fun x => Q_spec_Rank x.1, g := fun x => ((D_spec_Rank x.1), ()) }
def S_spec_Rank_tab : List (Nat × Sum) := [(68, S_spec_RowReduce)]
theorem S_spec_Rank_ok : FnOK Tryd.prog 63 S_spec_Rank := by
 refine at_enter 6 (fun x => ⟨[(0, aF s27 x.1)], []⟩) Tryd.func63 rfl (by kernel_rfl) (fun x => rfl) ?_
 rintro w0 Z0 ⟨x0, u⟩ a w
 revert x0
 intro (x0 : (List (List Int))) hpre hlens h
 replace hpre : Q_spec_Rank x0 := hpre
 have hT : TabOK Tryd.prog w0 [] S_spec_Rank_tab := (.cons S_spec_RowReduce_ok .nil)
 have hf0 : Sh.fit s44 x0 := hpre
 have hn0_1 : List.length x0 ≤ 1073741824 := hf0.1
 refine wp_seq ?_
 refine at_regq [] { ts := [0, 2], os := [] } [] gamOK hT h (by kernel_rfl) trivial fun a w h => then_normal (wp_seq ?_)
 refine at_regq [{}, { ids := [1] }] { ts := [2], os := [] } [Q_spec_RowReduce x0] gamOK hT h (by kernel_rfl) ⟨(by exact hf0), trivial⟩ fun a w h => then_normal (wp_ret ?_)
 exact at_return (((List.length (rowRed x0) : Nat) : Int), ()) [] h (by kernel_rfl) trivial (congrArg (fun z => (z, ())) (show (((List.length (rowRed x0) : Nat) : Int)) = D_spec_Rank x0 from by unfold D_spec_Rank; rfl))

abbrev Q_spec_IsValidRecoder := (fun (x0 : T51) => Sh.fit s51 x0)
def S_spec_IsValidRecoder : Sum := { fid := 53, dom := [s51], cod := [(.bool 4)], dp := true, fz := false, pre := fun x => Q_spec_IsValidRecoder x.1, g := fun x => ((validR x.1), ()) }
def S_spec_IsValidRecoder_tab : List (Nat × Sum) := [(57, S_spec_l14Range), (50, S_spec_l1In), (62, S_spec_IsValidPacket), (63, S_spec_Rank)]
theorem S_spec_IsValidRecoder_ok : FnOK Tryd.prog 53 S_spec_IsValidRecoder := by
 refine at_enter 69 (fun x => ⟨[(0, aG [cI x.1.1, cI x.1.2.1, cI x.1.2.2.1, .ro s29 x.1.2.2.2.1, cI x.1.2.2.2.2])], []⟩) Tryd.func53 rfl (by kernel_rfl) (fun x => rfl) ?_
 rintro w0 Z0 ⟨x0, u⟩ a w
 revert x0
 intro (x0 : T51) hpre hlens h
 replace hpre : Q_spec_IsValidRecoder x0 := hpre
 have hT : TabOK Tryd.prog w0 [] S_spec_IsValidRecoder_tab := (.cons S_spec_l14Range_ok (.cons S_spec_l1In_ok (.cons S_spec_IsValidPacket_ok (.cons S_spec_Rank_ok .nil))))
 have hf0 : Sh.fit s51 x0 := hpre
 have hn0_1 : List.length x0.2.2.2.1 ≤ 1073741824 := hf0.2.2.2.1.1
 refine wp_seq ?_
 refine at_regq [{ ids := [1] }] { ts := [1, 2], os := [1] } [] gamOK hT h (by kernel_rfl) trivial fun a w h => then_normal (wp_seq (wp_seq ?_))
 rcases Bool.eq_false_or_eq_true (!(isFmt x0.1 x0.2.1 x0.2.2.1)) with h1 | h1
 ·have hzh1 : (isFmt x0.1 x0.2.1 x0.2.2.1) = false := notT h1
  refine at_regq [{}, {}, {}, {}, {}, {}, {}, { hint := some (aB true) }] { ts := [1, 2, 24], os := [1] } [True, (AV.p (.c (.v (.bool (!(isFmt x0.1 x0.2.1 x0.2.2.1))))) = AV.p (.c (.v (.bool true))))] gamOK hT h (by kernel_rfl) ⟨trivial, hint_bool (h1), trivial⟩ fun a w h => then_normal ?_
  refine at_test true h (by kernel_rfl) (fun hh => ?_) (fun hh => nomatch hh)
  refine wp_seq ?_
  refine at_regq [] { ts := [1, 2], os := [1] } [] gamOK hT h (by kernel_rfl) trivial fun a w h => then_normal (wp_ret (then_ret ?_))
  exact at_return (false, ()) [] h (by kernel_rfl) trivial (congrArg (fun z => (z, ())) (show (false) = validR x0 from by (first | (rw [← validR_y (by assumption) (by omega) (by assumption)]; exact rank_cofs (by assumption) (by omega)) | exact validR_n (by first | (left; assumption) | (right; left; omega) | (right; right; left; assumption) | (right; right; right; assumption) | (right; right; right; exact ok_rec (by assumption))))))
 ·have hzh1 : (isFmt x0.1 x0.2.1 x0.2.2.1) = true := notF h1
  have hvh1 := isFmt_t (notF h1)
  by_cases h2 : ((List.length x0.2.2.2.1 : Nat) : Int) > 8
  ·refine at_regq [{}, {}, {}, {}, {}, {}, {}, { hint := some (aB false) }, {}, {}, {}, {}, { hint := some (aB true) }] { ts := [1, 2, 24], os := [1] } [True, (AV.p (.c (.v (.bool (!(isFmt x0.1 x0.2.1 x0.2.2.1))))) = AV.p (.c (.v (.bool false)))), (AV.p (.c (.v (.bool (decide (((List.length x0.2.2.2.1 : Nat) : Int) > 8))))) = AV.p (.c (.v (.bool true))))] gamOK hT h (by kernel_rfl) ⟨trivial, hint_bool (h1), hint_bool (decide_eq_true h2), trivial⟩ fun a w h => then_normal ?_
   refine at_test true h (by kernel_rfl) (fun hh => ?_) (fun hh => nomatch hh)
   refine wp_seq ?_
   refine at_regq [] { ts := [1, 2], os := [1] } [] gamOK hT h (by kernel_rfl) trivial fun a w h => then_normal (wp_ret (then_ret ?_))
   exact at_return (false, ()) [] h (by kernel_rfl) trivial (congrArg (fun z => (z, ())) (show (false) = validR x0 from by (first | (rw [← validR_y (by assumption) (by omega) (by assumption)]; exact rank_cofs (by assumption) (by omega)) | exact validR_n (by first | (left; assumption) | (right; left; omega) | (right; right; left; assumption) | (right; right; right; assumption) | (right; right; right; exact ok_rec (by assumption))))))
  ·refine at_regq [{}, {}, {}, {}, {}, {}, {}, { hint := some (aB false) }, {}, {}, {}, {}, { hint := some (aB false) }] { ts := [1, 2, 24], os := [1] } [True, (AV.p (.c (.v (.bool (!(isFmt x0.1 x0.2.1 x0.2.2.1))))) = AV.p (.c (.v (.bool false)))), (AV.p (.c (.v (.bool (decide (((List.length x0.2.2.2.1 : Nat) : Int) > 8))))) = AV.p (.c (.v (.bool false)))), True] gamOK hT h (by kernel_rfl) ⟨trivial, hint_bool (h1), hint_bool (decide_eq_false h2), trivial, trivial⟩ fun a w h => then_normal ?_
   refine at_test (!(inR x0.2.2.2.2 0 1000000000000)) h (by kernel_rfl) (fun h3 => ?_) (fun h3 => ?_)
   ·replace h3 : (inR x0.2.2.2.2 0 1000000000000) = false := notT h3
    have hvh3 := inR_f h3
    refine wp_seq ?_
    refine at_regq [] { ts := [1, 2], os := [1] } [] gamOK hT h (by kernel_rfl) trivial fun a w h => then_normal (wp_ret (then_ret ?_))
    exact at_return (false, ()) [] h (by kernel_rfl) trivial (congrArg (fun z => (z, ())) (show (false) = validR x0 from by (first | (rw [← validR_y (by assumption) (by omega) (by assumption)]; exact rank_cofs (by assumption) (by omega)) | exact validR_n (by first | (left; assumption) | (right; left; omega) | (right; right; left; assumption) | (right; right; right; assumption) | (right; right; right; exact ok_rec (by assumption))))))
   ·replace h3 : (inR x0.2.2.2.2 0 1000000000000) = true := notF h3
    have hvh3 := inR_t h3
    refine wp_skip (then_normal (wp_seq ?_))
    refine at_regq [{ ids := [2], dp := false }] { ts := [1, 2, 3], os := [1, 2] } [] gamOK hT h (by kernel_rfl) trivial fun a w h => then_normal (wp_seq (wp_seq ?_))
    refine at_regq [] { ts := [1, 2, 3, 4], os := [1, 2] } [] gamOK hT h (by kernel_rfl) trivial fun a w h => then_normal (wp_block ?_)
    replace h := at_out (σ' := ⟨[(1, aP 1 0), (2, aB false), (3, aS 2), (4, aI 0)], [(1, oX 51 [cI x0.1, cI x0.2.1, cI x0.2.2.1, .ro s29 x0.2.2.2.1, cI x0.2.2.2.2]), (2, oF s27 ([] : List (List Int)))]⟩) { ts := [1, 2, 3, 4], os := [1, 2] } h (by kernel_rfl)
    refine at_loop (fun i : Nat => (⟨[(1, aP 1 0), (2, aB false), (3, aS 2), (4, aI ((i : Nat) : Int))], [(1, oX 51 [cI x0.1, cI x0.2.1, cI x0.2.2.1, .ro s29 x0.2.2.2.1, cI x0.2.2.2.2]), (2, oF s27 (cofs (List.take i x0.2.2.2.1)))]⟩ : St)) (fun i => (i ≤ (List.length x0.2.2.2.1) ∧ allN (fun j => okPkt x0 (x0.2.2.2.1.getD j (0, ([], [])))) i = true)) (fun i => (List.length x0.2.2.2.1) - i) (0) h (st_congr2 (fun (d0 : List (List Int)) (d1 : Int) => (⟨[(1, aP 1 0), (2, aB false), (3, aS 2), (4, aI d1)], [(1, oX 51 [cI x0.1, cI x0.2.1, cI x0.2.2.1, .ro s29 x0.2.2.2.1, cI x0.2.2.2.2]), (2, oF s27 d0)]⟩ : St)) (show (([] : List (List Int)) : List (List Int)) = (cofs (List.take (0) x0.2.2.2.1)) from by first | with_reducible rfl | (rfl) | rfl) (show (0 : Int) = (((0) : Nat) : Int) from by first | with_reducible rfl | (rfl) | rfl)) (by exact ⟨Nat.zero_le _, rfl⟩) ?_
    intro i a w hok0 h
    have hcl := cofs_len (List.take i x0.2.2.2.1)
    have hlt := len_take_le (xs := x0.2.2.2.1) i
    refine wp_seq (wp_seq ?_)
    refine at_regq [] { ts := [1, 2, 3, 4, 30], os := [1, 2] } [] gamOK hT h (by kernel_rfl) trivial fun a w h => then_normal ?_
    refine at_test (decide (((i : Nat) : Int) < ((List.length x0.2.2.2.1 : Nat) : Int))) h (by kernel_rfl) (fun h4 => ?_) (fun h4 => ?_)
    ·replace h4 : ((i : Nat) : Int) < ((List.length x0.2.2.2.1 : Nat) : Int) := of_decide_eq_true h4
     refine wp_skip (then_normal (wp_seq (wp_block (wp_seq (wp_seq ?_)))))
     rcases Bool.eq_false_or_eq_true (!(validP (x0.2.2.2.1.getD i (0, ([], []))) x0.2.1 x0.2.2.1)) with h5 | h5
     ·have hzh5 : (validP (x0.2.2.2.1.getD i (0, ([], []))) x0.2.1 x0.2.2.1) = false := notT h5
      refine at_anyq [{}, {}, {}, {}, {}, {}, {}, {}, {}, {}, { hint := some (aB true) }, {}, {}, {}, {}, {}, {}, {}, {}, {}, {}, {}] { ts := [1, 2, 3, 4, 45, 46, 47, 48, 49, 50, 51, 52, 53, 54], os := [1, 2] } [(0 : Int) ≤ ((i : Nat) : Int) ∧ ((i : Nat) : Int) < ((List.length x0.2.2.2.1 : Nat) : Int), Q_spec_IsValidPacket (x0.2.2.2.1.getD i (0, ([], []))) x0.2.1 x0.2.2.1, (AV.p (.c (.v (.bool (!(validP (x0.2.2.2.1.getD i (0, ([], []))) x0.2.1 x0.2.2.1))))) = AV.p (.c (.v (.bool true))))] gamOK hT mixed h (by kernel_rfl) ⟨(by refine ⟨?_, ?_⟩ <;> (first | omega | (simp only [lsA]; omega) | (simp <;> omega))), (by exact (Sh.fit_getD hf0.2.2.2.1 i)), hint_bool (h5), trivial⟩ fun a w h => then_normal ?_
      refine at_test true h (by kernel_rfl) (fun hh => ?_) (fun hh => nomatch hh)
      refine wp_seq ?_
      refine at_regq [] { ts := [1, 2, 3, 4, 45, 46, 47, 48, 49, 50, 51, 52, 53], os := [1, 2] } [] gamOK hT h (by kernel_rfl) trivial fun a w h => then_normal (wp_ret (then_ret (in_ret (then_ret ?_))))
      have hs6 : (allN (fun j => okPkt x0 (x0.2.2.2.1.getD j (0, ([], [])))) (List.length x0.2.2.2.1)) = false := by exact allN_at (i := i) (by omega) (by exact okPkt_f (by first | (left; assumption) | (right; omega)))
      refine then_ret (in_ret (then_ret ?_))
      exact at_return (false, ()) [] h (by kernel_rfl) trivial (congrArg (fun z => (z, ())) (show (false) = validR x0 from by (first | (rw [← validR_y (by assumption) (by omega) (by assumption)]; exact rank_cofs (by assumption) (by omega)) | exact validR_n (by first | (left; assumption) | (right; left; omega) | (right; right; left; assumption) | (right; right; right; assumption) | (right; right; right; exact ok_rec (by assumption))))))
     ·have hzh5 : (validP (x0.2.2.2.1.getD i (0, ([], []))) x0.2.1 x0.2.2.1) = true := notF h5
      have hvh5 := validP_n (notF h5)
      refine at_anyq [{}, {}, {}, {}, {}, {}, {}, {}, {}, {}, { hint := some (aB false) }, {}, {}, {}, {}, {}, {}, {}, {}, {}, {}, {}] { ts := [1, 2, 3, 4, 45, 46, 47, 48, 49, 50, 51, 52, 53, 54], os := [1, 2] } [(0 : Int) ≤ ((i : Nat) : Int) ∧ ((i : Nat) : Int) < ((List.length x0.2.2.2.1 : Nat) : Int), Q_spec_IsValidPacket (x0.2.2.2.1.getD i (0, ([], []))) x0.2.1 x0.2.2.1, (AV.p (.c (.v (.bool (!(validP (x0.2.2.2.1.getD i (0, ([], []))) x0.2.1 x0.2.2.1))))) = AV.p (.c (.v (.bool false)))), (0 : Int) ≤ ((i : Nat) : Int) ∧ ((i : Nat) : Int) < ((List.length x0.2.2.2.1 : Nat) : Int)] gamOK hT mixed h (by kernel_rfl) ⟨(by refine ⟨?_, ?_⟩ <;> (first | omega | (simp only [lsA]; omega) | (simp <;> omega))), (by exact (Sh.fit_getD hf0.2.2.2.1 i)), hint_bool (h5), (by refine ⟨?_, ?_⟩ <;> (first | omega | (simp only [lsA]; omega) | (simp <;> omega))), trivial⟩ fun a w h => then_normal ?_
      refine at_test (!decide ((x0.2.2.2.1.getD i (0, ([], []))).1 = x0.1)) h (by kernel_rfl) (fun h7 => ?_) (fun h7 => ?_)
      ·replace h7 : ¬ ((x0.2.2.2.1.getD i (0, ([], []))).1 = x0.1) := of_decide_eq_false (notT h7)
       refine wp_seq ?_
       refine at_regq [] { ts := [1, 2, 3, 4, 45, 46, 47, 48, 49, 50, 51, 52, 53], os := [1, 2] } [] gamOK hT h (by kernel_rfl) trivial fun a w h => then_normal (wp_ret (then_ret (in_ret (then_ret ?_))))
       have hs8 : (allN (fun j => okPkt x0 (x0.2.2.2.1.getD j (0, ([], [])))) (List.length x0.2.2.2.1)) = false := by exact allN_at (i := i) (by omega) (by exact okPkt_f (by first | (left; assumption) | (right; omega)))
       refine then_ret (in_ret (then_ret ?_))
       exact at_return (false, ()) [] h (by kernel_rfl) trivial (congrArg (fun z => (z, ())) (show (false) = validR x0 from by (first | (rw [← validR_y (by assumption) (by omega) (by assumption)]; exact rank_cofs (by assumption) (by omega)) | exact validR_n (by first | (left; assumption) | (right; left; omega) | (right; right; left; assumption) | (right; right; right; assumption) | (right; right; right; exact ok_rec (by assumption))))))
      ·replace h7 : (x0.2.2.2.1.getD i (0, ([], []))).1 = x0.1 := of_decide_eq_true (notF h7)
       refine wp_skip (then_normal ?_)
       refine at_regq [{}, {}, {}, {}, {}, {}, {}, { ids := [3], dp := false }, { ids := [4] }] { ts := [1, 2, 3, 4, 45, 46, 47, 48, 49, 50, 51, 52, 53], os := [1, 4] } [(0 : Int) ≤ ((i : Nat) : Int) ∧ ((i : Nat) : Int) < ((List.length x0.2.2.2.1 : Nat) : Int), (List.length (cofs (List.take i x0.2.2.2.1)) + List.length ([(x0.2.2.2.1.getD i (0, ([], []))).2.1])) * 24 ≤ 140737488355328] gamOK hT h (by kernel_rfl) ⟨(by refine ⟨?_, ?_⟩ <;> (first | omega | (simp only [lsA]; omega) | (simp <;> omega))), (by first | omega | (simp only [lsA]; omega) | (simp <;> omega)), trivial⟩ fun a w h => in_normal (then_normal ?_)
       refine at_regq [{}, { nw := true }] { ts := [1, 2, 3, 4, 45, 46, 47, 48, 49, 50, 51, 52, 53], os := [1, 4] } [I64 (((i : Nat) : Int) + 1)] gamOK hT h (by kernel_rfl) ⟨⟨by first | omega | (simp only [lsA]; omega) | (simp <;> omega), by first | omega | (simp only [lsA]; omega) | (simp <;> omega)⟩, trivial⟩ fun a w h => ?_
       replace h := at_out (σ' := ⟨[(1, aP 1 0), (2, aB false), (3, aS 2), (4, aI (((i : Nat) : Int) + 1))], [(1, oX 51 [cI x0.1, cI x0.2.1, cI x0.2.2.1, .ro s29 x0.2.2.2.1, cI x0.2.2.2.2]), (2, oF s27 ((cofs (List.take i x0.2.2.2.1)) ++ ([(x0.2.2.2.1.getD i (0, ([], []))).2.1])))]⟩) { ts := [1, 2, 3, 4], os := [1, 4], rn := [(4, 2)] } h (by kernel_rfl)
       exact ⟨i + 1, at_eq h (st_congr2 (fun (d0 : List (List Int)) (d1 : Int) => (⟨[(1, aP 1 0), (2, aB false), (3, aS 2), (4, aI d1)], [(1, oX 51 [cI x0.1, cI x0.2.1, cI x0.2.2.1, .ro s29 x0.2.2.2.1, cI x0.2.2.2.2]), (2, oF s27 d0)]⟩ : St)) (show (((cofs (List.take i x0.2.2.2.1)) ++ ([(x0.2.2.2.1.getD i (0, ([], []))).2.1])) : List (List Int)) = (cofs (List.take (i + 1) x0.2.2.2.1)) from by first | with_reducible rfl | ((rw [take_snoc (z := (0, ([], []))) (by omega), cofs_snoc]; done)) | rfl) (show (((i : Nat) : Int) + 1 : Int) = (((i + 1) : Nat) : Int) from by first | with_reducible rfl | (omega) | rfl)), (by exact ⟨by omega, allN_succ hok0.2 (by exact okPkt_t (by assumption) (by omega))⟩), (by omega)⟩
    ·replace h4 : ¬ (((i : Nat) : Int) < ((List.length x0.2.2.2.1 : Nat) : Int)) := of_decide_eq_false h4
     refine wp_exit (then_exit ?_)
     have hs9 : (allN (fun j => okPkt x0 (x0.2.2.2.1.getD j (0, ([], [])))) (List.length x0.2.2.2.1)) = true := by exact allN_eq (by omega) hok0.1 hok0.2
     replace h := at_out (σ' := ⟨[(2, aB false), (3, aS 2)], [(2, oF s27 (cofs (List.take i x0.2.2.2.1)))]⟩) { ts := [2, 3], os := [2] } h (by kernel_rfl)
     replace h := at_eq (σ' := ⟨[(2, aB false), (3, aS 2)], [(2, oF s27 (cofs x0.2.2.2.1))]⟩) h (st_congr1 (fun (d0 : List (List Int)) => (⟨[(2, aB false), (3, aS 2)], [(2, oF s27 d0)]⟩ : St)) (show ((cofs (List.take i x0.2.2.2.1)) : List (List Int)) = (cofs x0.2.2.2.1) from by first | with_reducible rfl | (rw [take_all (by omega)]) | rfl))
     refine then_exit (in_hit (then_normal (wp_seq ?_)))
     refine at_regq [] { ts := [2], os := [] } [Q_spec_Rank (cofs x0.2.2.2.1)] gamOK hT h (by kernel_rfl) ⟨(by exact fit_cofs hf0.2.2.2.1), trivial⟩ fun a w h => then_normal (wp_ret ?_)
     exact at_return (decide ((D_spec_Rank (cofs x0.2.2.2.1)) = ((List.length (cofs x0.2.2.2.1) : Nat) : Int)), ()) [] h (by kernel_rfl) trivial (congrArg (fun z => (z, ())) (show (decide ((D_spec_Rank (cofs x0.2.2.2.1)) = ((List.length (cofs x0.2.2.2.1) : Nat) : Int))) = validR x0 from by (first | (rw [← validR_y (by assumption) (by omega) (by assumption)]; exact rank_cofs (by assumption) (by omega)) | exact validR_n (by first | (left; assumption) | (right; left; omega) | (right; right; left; assumption) | (right; right; right; assumption) | (right; right; right; exact ok_rec (by assumption))))))

abbrev Q_spec_AcceptPacket := (fun (x0 : T51) (x1 : T29) => Sh.fit s51 x0 ∧ Sh.fit s29 x1 ∧ List.length x0.2.2.2.1 ≤ 1073741823)
def S_spec_AcceptPacket : Sum := { fid := 43, dom := [s51, s29], cod := [s51, (.bool 4)], dp := true, fz := false, pre := fun x => Q_spec_AcceptPacket x.1 x.2.1, g := fun x => ((acceptR x.1 x.2.1).1, ((acceptR x.1 x.2.1).2, ())) }
def S_spec_AcceptPacket_tab : List (Nat × Sum) := [(52, S_spec_l15Copy), (23, S_spec_l11Copy), (53, S_spec_IsValidRecoder)]
theorem S_spec_AcceptPacket_ok : FnOK Tryd.prog 43 S_spec_AcceptPacket := by
 refine at_enter 22 (fun x => ⟨[(0, aG [cI x.1.1, cI x.1.2.1, cI x.1.2.2.1, .ro s29 x.1.2.2.2.1, cI x.1.2.2.2.2]), (1, aG [cI x.2.1.1, .ro (.int 3) x.2.1.2.1, .ro (.int 3) x.2.1.2.2])], []⟩) Tryd.func43 rfl (by kernel_rfl) (fun x => rfl) ?_
 rintro w0 Z0 ⟨x0, x1, u⟩ a w
 revert x0 x1
 intro (x0 : T51) (x1 : T29) hpre hlens h
 replace hpre : Q_spec_AcceptPacket x0 x1 := hpre
 have hT : TabOK Tryd.prog w0 [] S_spec_AcceptPacket_tab := (.cons S_spec_l15Copy_ok (.cons S_spec_l11Copy_ok (.cons S_spec_IsValidRecoder_ok .nil)))
 obtain ⟨hf0, hf1, hpx⟩ := hpre
 have hn0_1 : List.length x0.2.2.2.1 ≤ 1073741824 := hf0.2.2.2.1.1
 have hn1_2 : List.length x1.2.1 ≤ 1073741824 := hf1.2.1.1
 have hn1_3 : List.length x1.2.2 ≤ 1073741824 := hf1.2.2.1
 refine wp_seq ?_
 refine at_regq [{ ids := [1] }, { ids := [2] }, { ids := [3] }] { ts := [2, 3, 4, 5], os := [1, 2, 3] } [] gamOK hT h (by kernel_rfl) trivial fun a w h => then_normal (wp_seq ?_)
 refine at_regq [{}, { ids := [4] }, { ids := [5] }] { ts := [2, 3, 4, 5, 6], os := [1, 2, 3, 4, 5] } [Q_spec_l15Copy x0] gamOK hT h (by kernel_rfl) ⟨(by exact hf0), trivial⟩ fun a w h => then_normal (wp_seq ?_)
 refine at_anyq [{}, {}, {}, { ids := [6, 7] }, { ids := [8] }, { ids := [9] }, {}, {}] { ts := [2, 4, 5, 6], os := [1, 3, 5, 9] } [Q_spec_l11Copy x1, (List.length x0.2.2.2.1 + List.length ([x1])) * 56 ≤ 140737488355328] gamOK hT mixed h (by kernel_rfl) ⟨(by exact hf1), (by first | omega | (simp only [lsA]; omega) | (simp <;> omega)), trivial⟩ fun a w h => then_normal (wp_seq (wp_seq ?_))
 refine at_regq [] { ts := [2, 4, 5, 6, 18], os := [1, 3, 5, 9] } [Q_spec_IsValidRecoder (x0.1, (x0.2.1, (x0.2.2.1, ((x0.2.2.2.1 ++ ([x1])), x0.2.2.2.2))))] gamOK hT h (by kernel_rfl) ⟨(by first | exact hf0 | exact ⟨trivial, trivial, trivial, fit_snoc hf0.2.2.2.1 hf1 hpx, trivial⟩), trivial⟩ fun a w h => then_normal ?_
 refine at_test (!(validR (x0.1, (x0.2.1, (x0.2.2.1, ((x0.2.2.2.1 ++ ([x1])), x0.2.2.2.2)))))) h (by kernel_rfl) (fun h1 => ?_) (fun h1 => ?_)
 ·replace h1 : (validR (x0.1, (x0.2.1, (x0.2.2.1, ((x0.2.2.2.1 ++ ([x1])), x0.2.2.2.2))))) = false := notT h1
  refine wp_seq ?_
  refine at_regq [{}, { ids := [10] }] { ts := [4, 5, 6], os := [3, 5, 9, 10] } [Q_spec_l15Copy x0] gamOK hT h (by kernel_rfl) ⟨(by exact hf0), trivial⟩ fun a w h => then_normal (wp_ret (then_ret ?_))
  exact at_return (x0, (false, ())) [] h (by kernel_rfl) trivial (congrArg (fun z => (z.1, z.2, ())) (show ((x0, false)) = acceptR x0 x1 from by (first | (have hsn := validR_snoc x0 x1; have ht := hsn.symm.trans (by assumption : _ = true); rw [Bool.and_eq_true] at ht; unfold acceptR; rw [if_pos ht, accU_yes ht.2]; done) | (have hsn := validR_snoc x0 x1; have ht := hsn.symm.trans (by assumption : _ = false); unfold acceptR; rw [if_neg (fun e => by rw [e.1, e.2] at ht; cases ht)]; done))))
 ·replace h1 : (validR (x0.1, (x0.2.1, (x0.2.2.1, ((x0.2.2.2.1 ++ ([x1])), x0.2.2.2.2))))) = true := notF h1
  have hvh1 := validR_t h1
  refine wp_skip (then_normal (wp_seq ?_))
  refine at_regq [] { ts := [4, 5], os := [3, 9] } [] gamOK hT h (by kernel_rfl) trivial fun a w h => then_normal (wp_ret ?_)
  exact at_return ((x0.1, (x0.2.1, (x0.2.2.1, ((x0.2.2.2.1 ++ ([x1])), x0.2.2.2.2)))), (true, ())) [] h (by kernel_rfl) trivial (congrArg (fun z => (z.1, z.2, ())) (show (((x0.1, (x0.2.1, (x0.2.2.1, ((x0.2.2.2.1 ++ ([x1])), x0.2.2.2.2)))), true)) = acceptR x0 x1 from by (first | (have hsn := validR_snoc x0 x1; have ht := hsn.symm.trans (by assumption : _ = true); rw [Bool.and_eq_true] at ht; unfold acceptR; rw [if_pos ht, accU_yes ht.2]; done) | (have hsn := validR_snoc x0 x1; have ht := hsn.symm.trans (by assumption : _ = false); unfold acceptR; rw [if_neg (fun e => by rw [e.1, e.2] at ht; cases ht)]; done))))

def cmpI (a b : Int) : Int := if a < b then -1 else if b < a then 1 else 0
theorem cmpI_eq {a b : Int} : cmpI a b = 0 ↔ a = b := by
 unfold cmpI; split
 ·exact ⟨fun h1 => absurd h1 (by decide), fun h1 => by omega⟩
 ·split
  ·exact ⟨fun h1 => absurd h1 (by decide), fun h1 => by omega⟩
  ·exact ⟨fun _ => by omega, fun _ => rfl⟩
section
variable {α : Type}
def ltK (f : α → Int) (z : α) (xs : List α) (v : Int) (k : Nat) : Bool := decide (f (xs.getD k z) < v)
def srtK (f : α → Int) (z : α) (xs : List α) : Prop := ∀ a b, a < b → b < xs.length → f (xs.getD a z) < f (xs.getD b z)
def bsK (f : α → Int) (z : α) (xs : List α) (v : Int) : Nat := bsF (ltK f z xs v) 0 xs.length
def fndK (f : α → Int) (z : α) (xs : List α) (v : Int) : Bool := decide (bsK f z xs v < xs.length ∧ f (xs.getD (bsK f z xs v) z) = v)
theorem bsK_le (f : α → Int) (z : α) (xs : List α) (v : Int) : bsK f z xs v ≤ xs.length := (bsF_bd _ xs.length 0 xs.length (by omega) (by omega)).2
theorem bsK_spec {f : α → Int} {z : α} {xs : List α} (hs : srtK f z xs) (v : Int) : (∀ a, a < bsK f z xs v → f (xs.getD a z) < v) ∧ ∀ a, bsK f z xs v ≤ a → a < xs.length → v ≤ f (xs.getD a z) := by
 have hm : ∀ a b, a ≤ b → b < xs.length → ltK f z xs v b = true → ltK f z xs v a = true := fun a b hab hb hp => by
  unfold ltK at hp ⊢
  rw [decide_eq_true_iff] at hp ⊢
  by_cases e : a = b
  ·rw [e]; exact hp
  ·have := hs a b (by omega) hb; omega
 obtain ⟨h1, h2⟩ := bsF_first hm xs.length 0 xs.length (by omega) (by omega) (Nat.le_refl _) (fun a ha => by omega) (fun a ha hn => by omega)
 exact ⟨fun a ha => of_decide_eq_true (h1 a ha), fun a ha hn => by have := of_decide_eq_false (h2 a ha hn); omega⟩
theorem bsK_at {f : α → Int} {z : α} {xs : List α} {v : Int} {i : Nat} (hs : srtK f z xs) (hi : i < xs.length) (he : f (xs.getD i z) = v) : bsK f z xs v = i := by
 obtain ⟨h1, h2⟩ := bsK_spec hs v
 rcases Nat.lt_trichotomy (bsK f z xs v) i with h | h | h
 ·have := h2 _ (Nat.le_refl _) (by omega)
  have := hs _ _ h hi
  omega
 ·exact h
 ·have := h1 _ h; omega
theorem fndK_at {f : α → Int} {z : α} {xs : List α} {v : Int} {i : Nat} (hs : srtK f z xs) (hi : i < xs.length) (he : f (xs.getD i z) = v) : fndK f z xs v = true := by
 unfold fndK; rw [bsK_at hs hi he]; exact decide_eq_true ⟨hi, he⟩
theorem fnd_eq {f : α → Int} {z : α} {xs : List α} {v : Int} {q : Nat} (h : q < xs.length) : decide (cmpI (f (xs.getD q z)) v = 0) = decide (q < xs.length ∧ f (xs.getD q z) = v) := by rw [decide_eq_decide, cmpI_eq]; exact ⟨fun e => ⟨h, e⟩, fun e => e.2⟩
theorem fnd_no {f : α → Int} {z : α} {xs : List α} {v : Int} {q : Nat} (h : ¬ q < xs.length) : false = decide (q < xs.length ∧ f (xs.getD q z) = v) := (decide_eq_false fun e => h e.1).symm
theorem fndK_none {f : α → Int} {z : α} {xs : List α} {v : Int} (h : ∀ i, i < xs.length → f (xs.getD i z) ≠ v) : fndK f z xs v = false := decide_eq_false fun e => h _ e.1 e.2
theorem fndK_t {f : α → Int} {z : α} {xs : List α} {v : Int} (h : fndK f z xs v = true) : bsK f z xs v < xs.length ∧ f (xs.getD (bsK f z xs v) z) = v := of_decide_eq_true h
theorem srt_of {f : α → Int} {z : α} {xs : List α} (h : ∀ i, i + 1 < xs.length → f (xs.getD i z) < f (xs.getD (i + 1) z)) : srtK f z xs := by
 intro a b hab hb
 obtain ⟨d, rfl⟩ : ∃ d, b = a + 1 + d := ⟨b - a - 1, by omega⟩
 induction d with
 | zero => exact h a (by omega)
 | succ d ih => have h1 := ih (by omega) (by omega); have h2 := h (a + 1 + d) (by omega); have e : a + 1 + d + 1 = a + 1 + (d + 1) := (by omega); rw [e] at h2; omega
def ordB (f : α → Int) (z : α) (xs : List α) (i : Nat) : Bool := decide (i = 0) || decide (f (xs.getD (i - 1) z) < f (xs.getD i z))
theorem ordB_t {f : α → Int} {z : α} {xs : List α} {i : Nat} (h : i = 0 ∨ f (xs.getD (((i : Nat) : Int) - 1).toNat z) < f (xs.getD i z)) : ordB f z xs i = true := by
 have e : (((i : Nat) : Int) - 1).toNat = i - 1 := by omega
 rw [e] at h
 unfold ordB; rw [Bool.or_eq_true, decide_eq_true_iff, decide_eq_true_iff]; exact h
theorem ordB_f {f : α → Int} {z : α} {xs : List α} {i : Nat} (h : 0 < i ∧ f (xs.getD i z) ≤ f (xs.getD (((i : Nat) : Int) - 1).toNat z)) : ordB f z xs i = false := by
 have e : (((i : Nat) : Int) - 1).toNat = i - 1 := by omega
 rw [e] at h
 unfold ordB; rw [Bool.or_eq_false_iff, decide_eq_false_iff_not, decide_eq_false_iff_not]; omega
theorem srt_ord {f : α → Int} {z : α} {xs : List α} (h : ∀ i, i < xs.length → ordB f z xs i = true) : srtK f z xs := srt_of fun i hi => by
 have := h (i + 1) hi
 unfold ordB at this
 rw [Bool.or_eq_true, decide_eq_true_iff, decide_eq_true_iff] at this
 rcases this with h | h
 ·omega
 ·exact h
end
def relB (xs : List T51) (i : Nat) : Bool := validR (xs.getD i (0, (0, (0, ([], 0))))) && ordB (fun x => x.1) (0, (0, (0, ([], 0)))) xs i
theorem relB_t {xs : List T51} {i : Nat} (h : validR (xs.getD i (0, (0, (0, ([], 0))))) = true) (h2 : i = 0 ∨ (xs.getD (((i : Nat) : Int) - 1).toNat (0, (0, (0, ([], 0))))).1 < (xs.getD i (0, (0, (0, ([], 0))))).1) : relB xs i = true := by unfold relB; rw [h, ordB_t h2]; rfl
theorem relB_f1 {xs : List T51} {i : Nat} (h : validR (xs.getD i (0, (0, (0, ([], 0))))) = false) : relB xs i = false := by unfold relB; rw [h]; rfl
theorem relB_f2 {xs : List T51} {i : Nat} (h2 : 0 < i ∧ (xs.getD i (0, (0, (0, ([], 0))))).1 ≤ (xs.getD (((i : Nat) : Int) - 1).toNat (0, (0, (0, ([], 0))))).1) : relB xs i = false := by unfold relB; rw [ordB_f h2, Bool.and_false]
def validL (r : T26) : Bool := allN (relB r.2) (List.length r.2) && (inR r.1 0 7 && decide (List.length r.2 ≤ 4))
theorem validL_t {r : T26} (h : validL r = true) : (0 ≤ r.1 ∧ r.1 ≤ 7) ∧ List.length r.2 ≤ 4 ∧ srtK (fun x => x.1) (0, (0, (0, ([], 0)))) r.2 ∧ ∀ i, i < r.2.length → validR (r.2.getD i (0, (0, (0, ([], 0))))) = true := by
 unfold validL at h
 rw [Bool.and_eq_true, Bool.and_eq_true] at h
 have h1 := allN_iff.1 h.1
 refine ⟨inR_t h.2.1, of_decide_eq_true h.2.2, srt_ord fun i hi => ?_, fun i hi => ?_⟩
 ·have := h1 i hi; unfold relB at this; rw [Bool.and_eq_true] at this; exact this.2
 ·have := h1 i hi; unfold relB at this; rw [Bool.and_eq_true] at this; exact this.1
abbrev Q_spec_IsValidRelay := (fun (x0 : T26) => Sh.fit s26 x0)
def S_spec_IsValidRelay : Sum := { fid := 41, dom := [s26], cod := [(.bool 4)], dp := true, fz := false, pre := fun x => Q_spec_IsValidRelay x.1, g := fun x => ((validL x.1), ()) }
def S_spec_IsValidRelay_tab : List (Nat × Sum) := [(53, S_spec_IsValidRecoder), (50, S_spec_l1In)]
theorem S_spec_IsValidRelay_ok : FnOK Tryd.prog 41 S_spec_IsValidRelay := by
 refine at_enter 47 (fun x => ⟨[(0, aG [cI x.1.1, .ro s51 x.1.2])], []⟩) Tryd.func41 rfl (by kernel_rfl) (fun x => rfl) ?_
 rintro w0 Z0 ⟨x0, u⟩ a w
 revert x0
 intro (x0 : T26) hpre hlens h
 replace hpre : Q_spec_IsValidRelay x0 := hpre
 have hT : TabOK Tryd.prog w0 [] S_spec_IsValidRelay_tab := (.cons S_spec_IsValidRecoder_ok (.cons S_spec_l1In_ok .nil))
 have hf0 : Sh.fit s26 x0 := hpre
 have hn0_1 : List.length x0.2 ≤ 1073741824 := hf0.2.1
 refine wp_seq ?_
 refine at_regq [{ ids := [1] }] { ts := [1, 2], os := [1] } [] gamOK hT h (by kernel_rfl) trivial fun a w h => then_normal (wp_seq (wp_seq ?_))
 refine at_regq [] { ts := [1, 2, 3], os := [1] } [] gamOK hT h (by kernel_rfl) trivial fun a w h => then_normal (wp_block ?_)
 replace h := at_out (σ' := ⟨[(1, aP 1 0), (2, aB false), (3, aI 0)], [(1, oX 26 [cI x0.1, .ro s51 x0.2])]⟩) { ts := [1, 2, 3], os := [1] } h (by kernel_rfl)
 refine at_loop (fun i : Nat => (⟨[(1, aP 1 0), (2, aB false), (3, aI ((i : Nat) : Int))], [(1, oX 26 [cI x0.1, .ro s51 x0.2])]⟩ : St)) (fun i => (i ≤ (List.length x0.2) ∧ allN (relB x0.2) i = true)) (fun i => (List.length x0.2) - i) (0) h (st_congr1 (fun (d0 : Int) => (⟨[(1, aP 1 0), (2, aB false), (3, aI d0)], [(1, oX 26 [cI x0.1, .ro s51 x0.2])]⟩ : St)) (show (0 : Int) = (((0) : Nat) : Int) from by first | with_reducible rfl | (rfl) | rfl)) (by exact ⟨Nat.zero_le _, rfl⟩) ?_
 intro i a w hok0 h
 refine wp_seq (wp_seq ?_)
 refine at_regq [] { ts := [1, 2, 3, 8], os := [1] } [] gamOK hT h (by kernel_rfl) trivial fun a w h => then_normal ?_
 refine at_test (decide (((i : Nat) : Int) < ((List.length x0.2 : Nat) : Int))) h (by kernel_rfl) (fun h1 => ?_) (fun h1 => ?_)
 ·replace h1 : ((i : Nat) : Int) < ((List.length x0.2 : Nat) : Int) := of_decide_eq_true h1
  refine wp_skip (then_normal (wp_seq (wp_block (wp_seq ?_))))
  rcases Bool.eq_false_or_eq_true (!(validR (x0.2.getD i (0, (0, (0, ([], 0))))))) with h2 | h2
  ·have hzh2 : (validR (x0.2.getD i (0, (0, (0, ([], 0)))))) = false := notT h2
   refine at_anyq [{}, {}, {}, {}, {}, {}, { hint := some (aB true) }, {}, {}, {}, {}, {}, {}, {}, {}, {}, {}, {}, {}, {}, {}, {}, {}, {}, {}, {}, {}] { ts := [1, 2, 3, 19, 20, 21, 22, 23, 24, 25, 26, 27, 28, 29, 30, 31, 32, 33, 34, 35, 36, 37], os := [1] } [(0 : Int) ≤ ((i : Nat) : Int) ∧ ((i : Nat) : Int) < ((List.length x0.2 : Nat) : Int), Q_spec_IsValidRecoder (x0.2.getD i (0, (0, (0, ([], 0))))), (AV.p (.c (.v (.bool (!(validR (x0.2.getD i (0, (0, (0, ([], 0)))))))))) = AV.p (.c (.v (.bool true))))] gamOK hT mixed h (by kernel_rfl) ⟨(by refine ⟨?_, ?_⟩ <;> (first | omega | (simp only [lsA]; omega) | (simp <;> omega))), (by exact (Sh.fit_getD hf0.2 i)), hint_bool (h2), trivial⟩ fun a w h => then_normal ?_
   refine at_test true h (by kernel_rfl) (fun hh => ?_) (fun hh => nomatch hh)
   refine wp_seq ?_
   refine at_regq [] { ts := [1, 2, 3, 19, 20, 21, 22, 23, 24, 25, 26, 27, 28, 29, 30, 31, 32, 33, 34, 35, 36], os := [1] } [] gamOK hT h (by kernel_rfl) trivial fun a w h => then_normal (wp_ret (in_ret (then_ret ?_)))
   have hs3 : (allN (relB x0.2) (List.length x0.2)) = false := by exact allN_at (i := i) (by omega) (by first | exact relB_f1 (by assumption) | exact relB_f2 (by omega))
   refine then_ret (in_ret (then_ret ?_))
   exact at_return (false, ()) [] h (by kernel_rfl) trivial (congrArg (fun z => (z, ())) (show (false) = validL x0 from by (unfold validL; simp_all; try omega)))
  ·have hzh2 : (validR (x0.2.getD i (0, (0, (0, ([], 0)))))) = true := notF h2
   have hvh2 := validR_t (notF h2)
   by_cases h4 : ((i : Nat) : Int) > 0
   ·refine at_anyq [{}, {}, {}, {}, {}, {}, { hint := some (aB false) }, {}, {}, { hint := some (aB true) }, {}, {}, {}, {}, { nw := true }, {}, {}, {}, {}, {}, {}, {}, {}, {}, {}, {}, {}] { ts := [1, 2, 3, 19, 20, 21, 22, 23, 24, 25, 26, 27, 28, 29, 30, 31, 32, 33, 34, 35, 36, 37], os := [1] } [(0 : Int) ≤ ((i : Nat) : Int) ∧ ((i : Nat) : Int) < ((List.length x0.2 : Nat) : Int), Q_spec_IsValidRecoder (x0.2.getD i (0, (0, (0, ([], 0))))), (AV.p (.c (.v (.bool (!(validR (x0.2.getD i (0, (0, (0, ([], 0)))))))))) = AV.p (.c (.v (.bool false)))), (AV.p (.c (.v (.bool (decide (((i : Nat) : Int) > 0))))) = AV.p (.c (.v (.bool true)))), I64 (((i : Nat) : Int) - 1), (0 : Int) ≤ ((i : Nat) : Int) - 1 ∧ ((i : Nat) : Int) - 1 < ((List.length x0.2 : Nat) : Int), (0 : Int) ≤ ((i : Nat) : Int) ∧ ((i : Nat) : Int) < ((List.length x0.2 : Nat) : Int)] gamOK hT mixed h (by kernel_rfl) ⟨(by refine ⟨?_, ?_⟩ <;> (first | omega | (simp only [lsA]; omega) | (simp <;> omega))), (by exact (Sh.fit_getD hf0.2 i)), hint_bool (h2), hint_bool (decide_eq_true h4), ⟨by first | omega | (simp only [lsA]; omega) | (simp <;> omega), by first | omega | (simp only [lsA]; omega) | (simp <;> omega)⟩, (by refine ⟨?_, ?_⟩ <;> (first | omega | (simp only [lsA]; omega) | (simp <;> omega))), (by refine ⟨?_, ?_⟩ <;> (first | omega | (simp only [lsA]; omega) | (simp <;> omega))), trivial⟩ fun a w h => then_normal ?_
    refine at_test (decide ((x0.2.getD ((((i : Nat) : Int) - 1).toNat) (0, (0, (0, ([], 0))))).1 ≥ (x0.2.getD i (0, (0, (0, ([], 0))))).1)) h (by kernel_rfl) (fun h5 => ?_) (fun h5 => ?_)
    ·replace h5 : (x0.2.getD ((((i : Nat) : Int) - 1).toNat) (0, (0, (0, ([], 0))))).1 ≥ (x0.2.getD i (0, (0, (0, ([], 0))))).1 := of_decide_eq_true h5
     refine wp_seq ?_
     refine at_regq [] { ts := [1, 2, 3, 19, 20, 21, 22, 23, 24, 25, 26, 27, 28, 29, 30, 31, 32, 33, 34, 35, 36], os := [1] } [] gamOK hT h (by kernel_rfl) trivial fun a w h => then_normal (wp_ret (in_ret (then_ret ?_)))
     have hs6 : (allN (relB x0.2) (List.length x0.2)) = false := by exact allN_at (i := i) (by omega) (by first | exact relB_f1 (by assumption) | exact relB_f2 (by omega))
     refine then_ret (in_ret (then_ret ?_))
     exact at_return (false, ()) [] h (by kernel_rfl) trivial (congrArg (fun z => (z, ())) (show (false) = validL x0 from by (unfold validL; simp_all; try omega)))
    ·replace h5 : ¬ ((x0.2.getD ((((i : Nat) : Int) - 1).toNat) (0, (0, (0, ([], 0))))).1 ≥ (x0.2.getD i (0, (0, (0, ([], 0))))).1) := of_decide_eq_false h5
     refine wp_skip (in_normal (then_normal ?_))
     refine at_regq [{}, { nw := true }] { ts := [1, 2, 3, 19, 20, 21, 22, 23, 24, 25, 26, 27, 28, 29, 30, 31, 32, 33, 34, 35, 36], os := [1] } [I64 (((i : Nat) : Int) + 1)] gamOK hT h (by kernel_rfl) ⟨⟨by first | omega | (simp only [lsA]; omega) | (simp <;> omega), by first | omega | (simp only [lsA]; omega) | (simp <;> omega)⟩, trivial⟩ fun a w h => ?_
     replace h := at_out (σ' := ⟨[(1, aP 1 0), (2, aB false), (3, aI (((i : Nat) : Int) + 1))], [(1, oX 26 [cI x0.1, .ro s51 x0.2])]⟩) { ts := [1, 2, 3], os := [1] } h (by kernel_rfl)
     exact ⟨i + 1, at_eq h (st_congr1 (fun (d0 : Int) => (⟨[(1, aP 1 0), (2, aB false), (3, aI d0)], [(1, oX 26 [cI x0.1, .ro s51 x0.2])]⟩ : St)) (show (((i : Nat) : Int) + 1 : Int) = (((i + 1) : Nat) : Int) from by first | with_reducible rfl | (omega) | rfl)), (by exact ⟨by omega, allN_succ hok0.2 (by exact relB_t (by assumption) (by omega))⟩), (by omega)⟩
   ·refine at_anyq [{}, {}, {}, {}, {}, {}, { hint := some (aB false) }, {}, {}, { hint := some (aB false) }, {}, {}, {}, {}, {}, {}, {}, {}, {}, {}, {}, {}, {}, {}, {}, {}, {}] { ts := [1, 2, 3, 19, 20, 21, 22, 23, 24, 25, 26, 27, 28, 29, 30, 31, 32, 33, 34, 35, 36, 37], os := [1] } [(0 : Int) ≤ ((i : Nat) : Int) ∧ ((i : Nat) : Int) < ((List.length x0.2 : Nat) : Int), Q_spec_IsValidRecoder (x0.2.getD i (0, (0, (0, ([], 0))))), (AV.p (.c (.v (.bool (!(validR (x0.2.getD i (0, (0, (0, ([], 0)))))))))) = AV.p (.c (.v (.bool false)))), (AV.p (.c (.v (.bool (decide (((i : Nat) : Int) > 0))))) = AV.p (.c (.v (.bool false))))] gamOK hT mixed h (by kernel_rfl) ⟨(by refine ⟨?_, ?_⟩ <;> (first | omega | (simp only [lsA]; omega) | (simp <;> omega))), (by exact (Sh.fit_getD hf0.2 i)), hint_bool (h2), hint_bool (decide_eq_false h4), trivial⟩ fun a w h => then_normal ?_
    refine at_test false h (by kernel_rfl) (fun hh => nomatch hh) (fun hh => ?_)
    refine wp_skip (in_normal (then_normal ?_))
    refine at_regq [{}, { nw := true }] { ts := [1, 2, 3, 19, 20, 21, 22, 23, 24, 25, 26, 27, 28, 29, 30, 31, 32, 33, 34, 35, 36], os := [1] } [I64 (((i : Nat) : Int) + 1)] gamOK hT h (by kernel_rfl) ⟨⟨by first | omega | (simp only [lsA]; omega) | (simp <;> omega), by first | omega | (simp only [lsA]; omega) | (simp <;> omega)⟩, trivial⟩ fun a w h => ?_
    replace h := at_out (σ' := ⟨[(1, aP 1 0), (2, aB false), (3, aI (((i : Nat) : Int) + 1))], [(1, oX 26 [cI x0.1, .ro s51 x0.2])]⟩) { ts := [1, 2, 3], os := [1] } h (by kernel_rfl)
    exact ⟨i + 1, at_eq h (st_congr1 (fun (d0 : Int) => (⟨[(1, aP 1 0), (2, aB false), (3, aI d0)], [(1, oX 26 [cI x0.1, .ro s51 x0.2])]⟩ : St)) (show (((i : Nat) : Int) + 1 : Int) = (((i + 1) : Nat) : Int) from by first | with_reducible rfl | (omega) | rfl)), (by exact ⟨by omega, allN_succ hok0.2 (by exact relB_t (by assumption) (by omega))⟩), (by omega)⟩
 ·replace h1 : ¬ (((i : Nat) : Int) < ((List.length x0.2 : Nat) : Int)) := of_decide_eq_false h1
  refine wp_exit (then_exit ?_)
  have hs7 : (allN (relB x0.2) (List.length x0.2)) = true := by exact allN_eq (by omega) hok0.1 hok0.2
  refine then_exit (in_hit (then_normal (wp_seq ?_)))
  rcases Bool.eq_false_or_eq_true ((inR x0.1 0 7)) with h8 | h8
  ·have hvh8 := inR_t h8
   refine at_regq [{}, {}, { hint := some (aB true) }] { ts := [2], os := [] } [True, (AV.p (.c (.v (.bool ((inR x0.1 0 7))))) = AV.p (.c (.v (.bool true))))] gamOK hT h (by kernel_rfl) ⟨trivial, hint_bool (h8), trivial⟩ fun a w h => then_normal (wp_ret ?_)
   exact at_return (decide (((List.length x0.2 : Nat) : Int) ≤ 4), ()) [] h (by kernel_rfl) trivial (congrArg (fun z => (z, ())) (show (decide (((List.length x0.2 : Nat) : Int) ≤ 4)) = validL x0 from by (unfold validL; simp_all; try omega)))
  ·have hvh8 := inR_f h8
   refine at_regq [{}, {}, { hint := some (aB false) }] { ts := [2], os := [] } [True, (AV.p (.c (.v (.bool ((inR x0.1 0 7))))) = AV.p (.c (.v (.bool false))))] gamOK hT h (by kernel_rfl) ⟨trivial, hint_bool (h8), trivial⟩ fun a w h => then_normal (wp_ret ?_)
   exact at_return (false, ()) [] h (by kernel_rfl) trivial (congrArg (fun z => (z, ())) (show (false) = validL x0 from by (unfold validL; simp_all; try omega)))

def rndN (x0 : Int) (x1 : Int) (x2 : Int) : Int := (if (inR x2 1 1000000000000) = true then (Int.tmod (Int.tmod ((keyed x0 ([x1, 71])) * (keyed x0 ([x1, 71]))) 2147483647) x2) else 0)
def S_spec_RandomNumber : Sum := { fid := 64, dom := [(.int 3), (.int 3), (.int 3)], cod := [(.int 3)], dp := true, fz := false, pre := fun x => True, g := fun x => ((rndN x.1 x.2.1 x.2.2.1), ()) }
def S_spec_RandomNumber_tab : List (Nat × Sum) := [(50, S_spec_l1In), (66, S_spec_KeyedHash)]
theorem S_spec_RandomNumber_ok : FnOK Tryd.prog 64 S_spec_RandomNumber := by
 refine at_enter 21 (fun x => ⟨[(0, aI x.1), (1, aI x.2.1), (2, aI x.2.2.1)], []⟩) Tryd.func64 rfl (by kernel_rfl) (fun x => rfl) ?_
 rintro w0 Z0 ⟨x0, x1, x2, u⟩ a w
 revert x0 x1 x2
 intro (x0 : Int) (x1 : Int) (x2 : Int) hpre hlens h
 have hT : TabOK Tryd.prog w0 [] S_spec_RandomNumber_tab := (.cons S_spec_l1In_ok (.cons S_spec_KeyedHash_ok .nil))
 have hkb := keyed_bd x0 ([x1, 71])
 refine wp_seq ?_
 refine at_regq [] { ts := [0, 1, 2, 6], os := [] } [] gamOK hT h (by kernel_rfl) trivial fun a w h => then_normal (wp_seq (wp_seq ?_))
 refine at_regq [] { ts := [0, 1, 2, 6, 10], os := [] } [True] gamOK hT h (by kernel_rfl) ⟨trivial, trivial⟩ fun a w h => then_normal ?_
 refine at_test (!(inR x2 1 1000000000000)) h (by kernel_rfl) (fun h1 => ?_) (fun h1 => ?_)
 ·replace h1 : (inR x2 1 1000000000000) = false := notT h1
  have hvh1 := inR_f h1
  refine wp_seq ?_
  refine at_regq [] { ts := [0, 1, 2, 6], os := [] } [] gamOK hT h (by kernel_rfl) trivial fun a w h => then_normal (wp_ret (then_ret ?_))
  exact at_return (0, ()) [] h (by kernel_rfl) trivial (congrArg (fun z => (z, ())) (show (0) = rndN x0 x1 x2 from by first | rfl | (unfold rndN; rw [if_neg (neT h1)])))
 ·replace h1 : (inR x2 1 1000000000000) = true := notF h1
  have hvh1 := inR_t h1
  refine wp_skip (then_normal (wp_seq ?_))
  refine at_regq [{}, {}, { ids := [1] }] { ts := [2, 6, 7], os := [] } [pKey x0 ([x1, 71])] gamOK hT h (by kernel_rfl) ⟨(by (show _ ≤ _; simp)), trivial⟩ fun a w h => then_normal (wp_seq ?_)
  refine at_regq [{}, {}, { nw := true }] { ts := [6], os := [] } [I64 ((keyed x0 ([x1, 71])) * (keyed x0 ([x1, 71]))), (2147483647 : Int) ≠ 0, (x2 : Int) ≠ 0] gamOK hT h (by kernel_rfl) ⟨⟨by (have hA0 := mul_f (keyed x0 ([x1, 71])) (keyed x0 ([x1, 71])); first | omega | (simp only [lsA]; omega) | (simp <;> omega)), by (have hA0 := mul_f (keyed x0 ([x1, 71])) (keyed x0 ([x1, 71])); first | omega | (simp only [lsA]; omega) | (simp <;> omega))⟩, (by first | omega | (simp only [lsA]; omega) | (simp <;> omega)), (by first | omega | (simp only [lsA]; omega) | (simp <;> omega)), trivial⟩ fun a w h => then_normal (wp_ret ?_)
  exact at_return ((Int.tmod (Int.tmod ((keyed x0 ([x1, 71])) * (keyed x0 ([x1, 71]))) 2147483647) x2), ()) [] h (by kernel_rfl) trivial (congrArg (fun z => (z, ())) (show ((Int.tmod (Int.tmod ((keyed x0 ([x1, 71])) * (keyed x0 ([x1, 71]))) 2147483647) x2)) = rndN x0 x1 x2 from by first | rfl | (unfold rndN; rw [if_pos h1])))
theorem rndN_el (s i : Int) : LA.El (rndN s i 1019) := by
 have hkb := keyed_bd s ([i, 71])
 have hm := mul_f (keyed s ([i, 71])) (keyed s ([i, 71]))
 have h1 := tmod_f (keyed s ([i, 71]) * keyed s ([i, 71])) 2147483647 (by decide)
 have h2 := tmod_f ((keyed s ([i, 71]) * keyed s ([i, 71])).tmod 2147483647) 1019 (by decide)
 unfold rndN LA.El
 rw [if_pos (show inR 1019 1 1000000000000 = true from rfl)]
 omega
def unitL (n : Nat) (k : Int) : List Int := (List.range n).map fun (j : Nat) => if (j : Int) = k then 1 else 0
theorem unitL_snoc (n : Nat) (k : Int) : unitL (n + 1) k = unitL n k ++ [if (n : Int) = k then 1 else 0] := by unfold unitL; rw [List.range_succ, List.map_append]; rfl
theorem unitL_len (n : Nat) (k : Int) : (unitL n k).length = n := by simp [unitL]
theorem unitL_set {n : Nat} {k : Int} (h0 : 0 ≤ k) (h : k < n) : List.set (List.replicate n (0 : Int)) k.toNat 1 = unitL n k := by
 apply List.ext_getElem
 ·simp [unitL]
 ·intro i h1 h2
  rw [List.getElem_set]
  simp only [unitL, List.getElem_map, List.getElem_range, List.getElem_replicate]
  by_cases e : k.toNat = i
  ·rw [if_pos e, if_pos (by omega)]
  ·rw [if_neg e, if_neg (by omega)]
def unitV (w i : Int) : List Int := if inR w 0 40 = true ∧ inR i 0 (w - 1) = true then unitL w.toNat i else []
theorem unitV_y {w i : Int} (h : inR w 0 40 = true) (h2 : inR i 0 (w - 1) = true) : unitL w.toNat i = unitV w i := (if_pos ⟨h, h2⟩).symm
theorem unitV_n {w i : Int} (h : inR w 0 40 = false ∨ inR i 0 (w - 1) = false) : [] = unitV w i := by
 unfold unitV; rw [if_neg]
 rintro ⟨h1, h2⟩
 rcases h with h | h
 ·rw [h1] at h; cases h
 ·rw [h2] at h; cases h
theorem unitV_len (w i : Int) : (unitV w i).length ≤ 40 := by
 unfold unitV; split
 ·rename_i h; rw [unitL_len]; have := inR_t h.1; omega
 ·exact Nat.zero_le _
theorem unitL_ok (n : Nat) (k : Int) : LA.VokB n (unitL n k) := ⟨unitL_len n k, fun x hx => by
 obtain ⟨j, _, rfl⟩ := List.mem_map.1 hx
 unfold LA.El; split <;> omega⟩
def rndL (s : Int) (n : Nat) : List Int := (List.range n).map fun (j : Nat) => rndN s (j : Int) 1019
theorem rndL_snoc (s : Int) (n : Nat) : rndL s (n + 1) = rndL s n ++ [rndN s (n : Int) 1019] := by unfold rndL; rw [List.range_succ, List.map_append]; rfl
theorem rndL_len (s : Int) (n : Nat) : (rndL s n).length = n := by simp [rndL]
theorem rndL_at {s : Int} {n i : Nat} (h : i < n) : (rndL s n).getD i 0 = rndN s (i : Int) 1019 := by rw [getD_of_lt (by rw [rndL_len]; exact h)]; simp [rndL]
theorem rndL_zero (s : Int) (n : Nat) : List.replicate n (0 : Int) = copyTo 0 (rndL s n) 0 := by
 have e := copyTo_zero (z := (0 : Int)) (xs := rndL s n)
 rw [rndL_len] at e; exact e
theorem rndL_set {s : Int} {n i : Nat} (h : i < n) : (copyTo 0 (rndL s n) i).set i (rndN s (i : Int) 1019) = copyTo 0 (rndL s n) (i + 1) := by
 rw [← rndL_at h]; exact copyTo_set (by rw [rndL_len]; exact h)
def rndS (s w : Int) : List Int := if inR w 1 40 = true then rndL s w.toNat else []
theorem rndS_len (s w : Int) : (rndS s w).length ≤ 40 := by
 unfold rndS; split
 ·rename_i h; rw [rndL_len]; have := inR_t h; omega
 ·exact Nat.zero_le _
theorem rndS_eq {s w : Int} {i : Nat} (h : i = 0 ∨ ((i : Int) ≤ w ∧ inR w 1 40 = true)) (he : ¬ (i : Int) < w ∨ inR w 1 40 = false) : rndL s i = rndS s w := by
 unfold rndS
 cases hi : inR w 1 40 with
 | true =>
  rw [if_pos rfl]
  have hw := inR_t hi
  rcases he with he | he
  ·congr 1; omega
  ·rw [hi] at he; cases he
 | false =>
  rw [if_neg (by decide)]
  rcases h with h | h
  ·subst h; rfl
  ·rw [hi] at h; cases h.2
def rndV (s w : Int) : List Int := if 0 < (rndS s w).length ∧ LA.leadS (rndS s w) < 0 then (rndS s w).set 0 1 else rndS s w
theorem rndV_1 {s w : Int} (h : inR w 1 40 = true) (h2 : LA.leadS (rndL s w.toNat) < 0) : (rndL s w.toNat).set 0 1 = rndV s w := by
 unfold rndV rndS; rw [if_pos h, if_pos ⟨by rw [rndL_len]; have := inR_t h; omega, h2⟩]
theorem rndV_2 {s w : Int} (h : inR w 1 40 = true) (h2 : ¬ LA.leadS (rndL s w.toNat) < 0) : rndL s w.toNat = rndV s w := by
 unfold rndV rndS; rw [if_pos h, if_neg (fun e => h2 e.2)]
theorem rndV_0 {s w : Int} (h : inR w 1 40 = false) : [] = rndV s w := by
 unfold rndV rndS; rw [h]; simp
theorem rndV_len (s w : Int) : (rndV s w).length ≤ 40 := by
 have := rndS_len s w
 unfold rndV; split
 ·rw [List.length_set]; exact this
 ·exact this
theorem rndV_at {s w : Int} (h : 1 ≤ w ∧ w ≤ 40) : (rndV s w).length = w.toNat := by
 have e : rndS s w = rndL s w.toNat := if_pos (inR_true h)
 unfold rndV; rw [e]; split
 ·rw [List.length_set, rndL_len]
 ·rw [rndL_len]
theorem rndV_ok {s w : Int} (h : 1 ≤ w ∧ w ≤ 40) : LA.VokB w.toNat (rndV s w) := by
 refine ⟨rndV_at h, fun x hx => ?_⟩
 have e : rndS s w = rndL s w.toNat := if_pos (inR_true h)
 have hl : ∀ y ∈ rndL s w.toNat, LA.El y := fun y hy => by
  obtain ⟨j, _, rfl⟩ := List.mem_map.1 hy
  exact rndN_el _ _
 unfold rndV at hx; rw [e] at hx
 split at hx
 ·rcases List.mem_or_eq_of_mem_set hx with hx | hx
  ·exact hl x hx
  ·rw [hx]; unfold LA.El; omega
 ·exact hl x hx
def combTo (vs : List (List Int)) (cs : List Int) : Nat → List Int
 | 0 => List.replicate (vs.getD 0 []).length 0
 | i + 1 => LA.addS (combTo vs cs i) (vs.getD i []) (cs.getD i 0)
def combS (vs : List (List Int)) (cs : List Int) : List Int := combTo vs cs vs.length
abbrev cvB (vs : List (List Int)) (v : List Int) : Bool := validV v && decide (v.length = (vs.getD 0 []).length)
theorem cvB_ok {vs : List (List Int)} {v : List Int} (h : cvB vs v = true) : LA.VokB (vs.getD 0 []).length v := by
 unfold cvB at h; rw [Bool.and_eq_true] at h
 exact ⟨of_decide_eq_true h.2, (validV_t h.1).2.1⟩
theorem cvB_40 {vs : List (List Int)} {v : List Int} (h : cvB vs v = true) : (vs.getD 0 []).length ≤ 40 := by
 unfold cvB at h; rw [Bool.and_eq_true] at h
 have h1 := of_decide_eq_true h.2
 have := (validV_t h.1).1; omega
theorem combTo_ok {n : Nat} {vs : List (List Int)} {cs : List Int} (hn : (vs.getD 0 []).length = n) (hc : ∀ j, 0 ≤ cs.getD j 0 ∧ cs.getD j 0 ≤ 1018) : ∀ i, (∀ j, j < i → LA.VokB n (vs.getD j [])) → LA.VokB n (combTo vs cs i)
 | 0, _ => by
  refine ⟨by simp only [combTo]; rw [List.length_replicate, hn], fun x hx => ?_⟩
  simp only [combTo] at hx
  rw [(List.mem_replicate.1 hx).2]; unfold LA.El; omega
 | i + 1, h => (LA.addS_ok (combTo_ok hn hc i (fun j hj => h j (by omega))) (h i (by omega)) (hc i)).1
def combV (vs : List (List Int)) (cs : List Int) : List Int := if (¬ vs.length = 0 ∧ vs.length = cs.length) ∧ validV cs = true ∧ vs.all (cvB vs) = true then combS vs cs else []
theorem combV_y {vs : List (List Int)} {cs : List Int} (h1 : ¬ vs.length = 0) (h2 : vs.length = cs.length) (h3 : validV cs = true) (h4 : vs.all (cvB vs) = true) : combS vs cs = combV vs cs := (if_pos ⟨⟨h1, h2⟩, h3, h4⟩).symm
theorem combV_n {vs : List (List Int)} {cs : List Int} (h : vs.length = 0 ∨ ¬ vs.length = cs.length ∨ validV cs = false ∨ vs.all (cvB vs) = false) : [] = combV vs cs := by
 unfold combV; rw [if_neg]
 rintro ⟨⟨h1, h2⟩, h3, h4⟩
 rcases h with h | h | h | h
 ·exact h1 h
 ·exact h h2
 ·rw [h3] at h; cases h
 ·rw [h4] at h; cases h
theorem combV_len (vs : List (List Int)) (cs : List Int) : (combV vs cs).length ≤ 40 := by
 unfold combV; split
 ·rename_i h
  have hp := List.all_eq_true.1 h.2.2
  have h0 := hp _ (getD_mem (z := []) (show 0 < vs.length by have := h.1.1; omega))
  have := (combTo_ok (n := (vs.getD 0 []).length) (cs := cs) rfl (validV_t h.2.1).2.2 vs.length (fun j hj => cvB_ok (hp _ (getD_mem hj)))).1
  have := cvB_40 h0
  unfold combS; omega
 ·exact Nat.zero_le _
theorem combV_pos {vs : List (List Int)} {cs : List Int} (h : ¬ (combV vs cs).length = 0) : 0 < vs.length := by
 rcases Nat.eq_zero_or_pos vs.length with h0 | h0
 ·rw [← combV_n (.inl h0)] at h; exact absurd rfl h
 ·exact h0
def combP (vs : List (List Int)) (cs : List Int) : Prop := (0 < vs.length ∧ vs.length ≤ cs.length ∧ (vs.getD 0 []).length ≤ 40) ∧ (∀ j, j < vs.length → LA.VokB (vs.getD 0 []).length (vs.getD j [])) ∧ ∀ j, 0 ≤ cs.getD j 0 ∧ cs.getD j 0 ≤ 1018
def pays (ps : List T29) : List (List Int) := ps.map fun p => p.2.2
theorem pays_len (ps : List T29) : (pays ps).length = ps.length := by simp [pays]
theorem pays_snoc (ps : List T29) (p : T29) : pays (ps ++ [p]) = pays ps ++ [p.2.2] := by simp [pays]
theorem fit_pays {ps : List T29} (h : Sh.fit s49 ps) : Sh.fit s44 (pays ps) := ⟨by rw [pays_len]; exact h.1, fun v hv => by
 obtain ⟨p, hp, rfl⟩ := List.mem_map.1 hv
 exact (h.2 p hp).2.2⟩
def genB0 (ps : List T29) (p : T29) : Bool := decide (p.1 = (ps.getD 0 (0, ([], []))).1)
def comP (ps : List T29) (cs : List Int) : T29 × Bool := if ps.all (fun p => decide (p.1 = (ps.getD 0 (0, ([], []))).1)) = true ∧ ¬ (combV (cofs ps) cs).length = 0 ∧ ¬ (combV (pays ps) cs).length = 0 then (((ps.getD 0 (0, ([], []))).1, combV (cofs ps) cs, combV (pays ps) cs), true) else ((0, [], []), false)
theorem comP_y {ps : List T29} {cs : List Int} (h1 : ps.all (fun p => decide (p.1 = (ps.getD 0 (0, ([], []))).1)) = true) (h2 : ¬ (combV (cofs ps) cs).length = 0) (h3 : ¬ (combV (pays ps) cs).length = 0) : (((ps.getD 0 (0, ([], []))).1, combV (cofs ps) cs, combV (pays ps) cs), true) = comP ps cs := (if_pos ⟨h1, h2, h3⟩).symm
theorem comP_n {ps : List T29} {cs : List Int} (h : ps.all (fun p => decide (p.1 = (ps.getD 0 (0, ([], []))).1)) = false ∨ (combV (cofs ps) cs).length = 0 ∨ (combV (pays ps) cs).length = 0) : ((0, [], []), false) = comP ps cs := by
 unfold comP; rw [if_neg]
 rintro ⟨h1, h2, h3⟩
 rcases h with h | h | h
 ·rw [h1] at h; cases h
 ·exact h2 h
 ·exact h3 h
theorem comP_sz (ps : List T29) (cs : List Int) : Sh.sz s29 (comP ps cs).1 ≤ 80 := by
 unfold comP; split
 ·show 0 + (Sh.sz s27 _ + Sh.sz s27 _) ≤ 80
  rw [sz_flat (by rfl), sz_flat (by rfl)]
  have := combV_len (cofs ps) cs; have := combV_len (pays ps) cs
  dsimp only; omega
 ·exact Nat.zero_le _
def recNo (r : T51) : Bool := decide (List.length r.2.2.2.1 = 0) || decide (r.2.2.2.2 = 1000000000000)
def recD (r : T51) (s : Int) : T29 × Bool := if recNo r = true then ((0, [], []), false) else comP r.2.2.2.1 (rndV (keyed s ([r.1, r.2.2.2.2])) ((List.length r.2.2.2.1 : Nat) : Int))
def recU (r : T51) (s : Int) : T51 := if recNo r = true then r else (r.1, r.2.1, r.2.2.1, r.2.2.2.1, r.2.2.2.2 + 1)
def recodeR (r : T51) (s : Int) : T51 × T29 × Bool := if validR r = true then (recU r s, recD r s) else (r, (0, [], []), false)
theorem recNo_t {r : T51} (h : List.length r.2.2.2.1 = 0 ∨ r.2.2.2.2 = 1000000000000) : recNo r = true := by unfold recNo; rw [Bool.or_eq_true, decide_eq_true_iff, decide_eq_true_iff]; exact h
theorem recNo_f {r : T51} (h1 : ¬ List.length r.2.2.2.1 = 0) (h2 : ¬ r.2.2.2.2 = 1000000000000) : recNo r = false := by unfold recNo; rw [decide_eq_false h1, decide_eq_false h2]; rfl
theorem recU_y {r : T51} {s : Int} (h : recNo r = true) : r = recU r s := (if_pos h).symm
theorem recU_n {r : T51} {s : Int} (h : recNo r = false) : (r.1, r.2.1, r.2.2.1, r.2.2.2.1, r.2.2.2.2 + 1) = recU r s := (if_neg (by rw [h]; decide)).symm
theorem recD_y {r : T51} {s : Int} (h : recNo r = true) : ((0, [], []), false) = recD r s := (if_pos h).symm
theorem recD_n {r : T51} {s : Int} (h : recNo r = false) : comP r.2.2.2.1 (rndV (keyed s ([r.1, r.2.2.2.2])) ((List.length r.2.2.2.1 : Nat) : Int)) = recD r s := (if_neg (by rw [h]; decide)).symm
theorem recodeR_y {r : T51} {s : Int} (h : validR r = true) : (recU r s, recD r s) = recodeR r s := (if_pos h).symm
theorem recodeR_n {r : T51} {s : Int} (h : validR r = false) : (r, (0, [], []), false) = recodeR r s := (if_neg (by rw [h]; decide)).symm
theorem recU_sz (r : T51) (s : Int) : Sh.sz s51 (recU r s) = Sh.sz s51 r := by unfold recU; split <;> rfl
theorem recodeR_sz (r : T51) (s : Int) : Sh.sz s51 (recodeR r s).1 = Sh.sz s51 r ∧ Sh.sz s29 (recodeR r s).2.1 ≤ 80 := by
 unfold recodeR; split
 ·refine ⟨recU_sz r s, ?_⟩
  show Sh.sz s29 (recD r s).1 ≤ 80
  unfold recD; split
  ·exact Nat.zero_le _
  ·exact comP_sz _ _
 ·exact ⟨rfl, Nat.zero_le _⟩

def S_spec_RandomVector : Sum := { fid := 55, dom := [(.int 3), (.int 3)], cod := [s27], dp := true, fz := false, pre := fun x => True, g := fun x => ((rndV x.1 x.2.1), ()) }
def S_spec_RandomVector_tab : List (Nat × Sum) := [(50, S_spec_l1In), (64, S_spec_RandomNumber), (65, S_spec_LeadingIndex)]
theorem S_spec_RandomVector_ok : FnOK Tryd.prog 55 S_spec_RandomVector := by
 refine at_enter 34 (fun x => ⟨[(0, aI x.1), (1, aI x.2.1)], []⟩) Tryd.func55 rfl (by kernel_rfl) (fun x => rfl) ?_
 rintro w0 Z0 ⟨x0, x1, u⟩ a w
 revert x0 x1
 intro (x0 : Int) (x1 : Int) hpre hlens h
 have hT : TabOK Tryd.prog w0 [] S_spec_RandomVector_tab := (.cons S_spec_l1In_ok (.cons S_spec_RandomNumber_ok (.cons S_spec_LeadingIndex_ok .nil)))
 have hrl := rndS_len x0 x1
 refine wp_seq ?_
 refine at_regq [] { ts := [0, 1, 4], os := [] } [] gamOK hT h (by kernel_rfl) trivial fun a w h => then_normal (wp_seq ?_)
 refine at_regq [{ ids := [1] }] { ts := [0, 1, 4, 5], os := [1] } [] gamOK hT h (by kernel_rfl) trivial fun a w h => then_normal (wp_seq (wp_seq ?_))
 refine at_regq [] { ts := [0, 1, 4, 5, 6], os := [1] } [] gamOK hT h (by kernel_rfl) trivial fun a w h => then_normal (wp_block ?_)
 replace h := at_out (σ' := ⟨[(0, aI x0), (1, aI x1), (4, .p (.c (cN))), (5, aS 1), (6, aI 0)], [(1, oR (.int 3) ([] : List Int))]⟩) { ts := [0, 1, 4, 5, 6], os := [1] } h (by kernel_rfl)
 refine at_loop (fun i : Nat => (⟨[(0, aI x0), (1, aI x1), (4, .p (.c (cN))), (5, aS 1), (6, aI ((i : Nat) : Int))], [(1, oR (.int 3) (rndL x0 i))]⟩ : St)) (fun i => (i = 0 ∨ ((i : Int) ≤ x1 ∧ inR x1 1 40 = true))) (fun i => x1.toNat - i) (0) h (st_congr2 (fun (d0 : List Int) (d1 : Int) => (⟨[(0, aI x0), (1, aI x1), (4, .p (.c (cN))), (5, aS 1), (6, aI d1)], [(1, oR (.int 3) d0)]⟩ : St)) (show (([] : List Int) : List Int) = (rndL x0 (0)) from by first | with_reducible rfl | (rfl) | rfl) (show (0 : Int) = (((0) : Nat) : Int) from by first | with_reducible rfl | (rfl) | rfl)) (by exact Or.inl rfl) ?_
 intro i a w hok0 h
 have hul := rndL_len x0 i
 have hi40 : i ≤ 40 := by rcases hok0 with h | h; omega; have := inR_t h.2; omega
 refine wp_seq (wp_seq ?_)
 by_cases h1 : ((i : Nat) : Int) < x1
 ·refine at_regq [{}, {}, { hint := some (aB true) }] { ts := [0, 1, 4, 5, 6, 12, 13, 14], os := [1] } [(AV.p (.c (.v (.bool (decide (((i : Nat) : Int) < x1))))) = AV.p (.c (.v (.bool true)))), True] gamOK hT h (by kernel_rfl) ⟨hint_bool (decide_eq_true h1), trivial, trivial⟩ fun a w h => then_normal ?_
  refine at_test ((inR x1 1 40)) h (by kernel_rfl) (fun h2 => ?_) (fun h2 => ?_)
  ·have hvh2 := inR_t h2
   refine wp_skip (then_normal (wp_seq (wp_block ?_)))
   refine at_regq [{}, {}, {}, {}, { ids := [2] }, { ids := [3] }] { ts := [0, 1, 4, 5, 6, 12, 13], os := [3] } [True, (List.length (rndL x0 i) + List.length ([(rndN x0 ((i : Nat) : Int) 1019)])) * 8 ≤ 140737488355328] gamOK hT h (by kernel_rfl) ⟨trivial, (by first | omega | (simp only [lsA]; omega) | (simp <;> omega)), trivial⟩ fun a w h => in_normal (then_normal ?_)
   refine at_regq [{}, { nw := true }] { ts := [0, 1, 4, 5, 6, 12, 13], os := [3] } [I64 (((i : Nat) : Int) + 1)] gamOK hT h (by kernel_rfl) ⟨⟨by first | omega | (simp only [lsA]; omega) | (simp <;> omega), by first | omega | (simp only [lsA]; omega) | (simp <;> omega)⟩, trivial⟩ fun a w h => ?_
   replace h := at_out (σ' := ⟨[(0, aI x0), (1, aI x1), (4, .p (.c (cN))), (5, aS 1), (6, aI (((i : Nat) : Int) + 1))], [(1, oR (.int 3) ((rndL x0 i) ++ ([(rndN x0 ((i : Nat) : Int) 1019)])))]⟩) { ts := [0, 1, 4, 5, 6], os := [3], rn := [(3, 1)] } h (by kernel_rfl)
   exact ⟨i + 1, at_eq h (st_congr2 (fun (d0 : List Int) (d1 : Int) => (⟨[(0, aI x0), (1, aI x1), (4, .p (.c (cN))), (5, aS 1), (6, aI d1)], [(1, oR (.int 3) d0)]⟩ : St)) (show (((rndL x0 i) ++ ([(rndN x0 ((i : Nat) : Int) 1019)])) : List Int) = (rndL x0 (i + 1)) from by first | with_reducible rfl | ((rw [rndL_snoc]; done)) | rfl) (show (((i : Nat) : Int) + 1 : Int) = (((i + 1) : Nat) : Int) from by first | with_reducible rfl | (omega) | rfl)), (by exact Or.inr ⟨by omega, by assumption⟩), (by omega)⟩
  ·have hvh2 := inR_f h2
   refine wp_exit (then_exit ?_)
   replace h := at_out (σ' := ⟨[(4, .p (.c (cN))), (5, aS 1)], [(1, oR (.int 3) (rndL x0 i))]⟩) { ts := [4, 5], os := [1] } h (by kernel_rfl)
   replace h := at_eq (σ' := ⟨[(4, .p (.c (cN))), (5, aS 1)], [(1, oR (.int 3) (rndS x0 x1))]⟩) h (st_congr1 (fun (d0 : List Int) => (⟨[(4, .p (.c (cN))), (5, aS 1)], [(1, oR (.int 3) d0)]⟩ : St)) (show ((rndL x0 i) : List Int) = (rndS x0 x1) from by first | with_reducible rfl | (exact rndS_eq hok0 (by first | (left; omega) | (right; assumption))) | rfl))
   refine then_exit (in_hit (then_normal (wp_seq (wp_seq ?_))))
   by_cases h3 : ((List.length (rndS x0 x1) : Nat) : Int) > 0
   ·refine at_regq [{}, {}, { hint := some (aB true) }] { ts := [4, 5, 30], os := [1] } [(AV.p (.c (.v (.bool (decide (((List.length (rndS x0 x1) : Nat) : Int) > 0))))) = AV.p (.c (.v (.bool true)))), Q_spec_LeadingIndex (rndS x0 x1)] gamOK hT h (by kernel_rfl) ⟨hint_bool (decide_eq_true h3), (by exact Sh.fit_len rfl (by omega)), trivial⟩ fun a w h => then_normal ?_
    refine at_test (decide ((LA.leadS (rndS x0 x1)) < 0)) h (by kernel_rfl) (fun h4 => ?_) (fun h4 => ?_)
    ·replace h4 : (LA.leadS (rndS x0 x1)) < 0 := of_decide_eq_true h4
     refine at_regq [] { ts := [4, 5], os := [1] } [(0 : Int) ≤ 0 ∧ 0 < ((List.length (rndS x0 x1) : Nat) : Int), 0 < List.length (rndS x0 x1)] gamOK hT h (by kernel_rfl) ⟨(by refine ⟨?_, ?_⟩ <;> (first | omega | (simp only [lsA]; omega) | (simp <;> omega))), (by first | omega | (simp only [lsA]; omega) | (simp <;> omega)), trivial⟩ fun a w h => then_normal (wp_seq ?_)
     refine at_regq [] { ts := [4], os := [1] } [] gamOK hT h (by kernel_rfl) trivial fun a w h => then_normal (wp_ret ?_)
     exact at_return ((List.set (rndS x0 x1) 0 1), ()) [] h (by kernel_rfl) trivial (congrArg (fun z => (z, ())) (show ((List.set (rndS x0 x1) 0 1)) = rndV x0 x1 from by (unfold rndV; first | (rw [if_pos ⟨by omega, by assumption⟩]; done) | (rw [if_neg (fun e => by have e1 := e.1; have e2 := e.2; first | omega | contradiction)]; done))))
    ·replace h4 : ¬ ((LA.leadS (rndS x0 x1)) < 0) := of_decide_eq_false h4
     refine wp_skip (then_normal (wp_seq ?_))
     refine at_regq [] { ts := [4], os := [1] } [] gamOK hT h (by kernel_rfl) trivial fun a w h => then_normal (wp_ret ?_)
     exact at_return ((rndS x0 x1), ()) [] h (by kernel_rfl) trivial (congrArg (fun z => (z, ())) (show ((rndS x0 x1)) = rndV x0 x1 from by (unfold rndV; first | (rw [if_pos ⟨by omega, by assumption⟩]; done) | (rw [if_neg (fun e => by have e1 := e.1; have e2 := e.2; first | omega | contradiction)]; done))))
   ·refine at_regq [{}, {}, { hint := some (aB false) }] { ts := [4, 5, 30], os := [1] } [(AV.p (.c (.v (.bool (decide (((List.length (rndS x0 x1) : Nat) : Int) > 0))))) = AV.p (.c (.v (.bool false))))] gamOK hT h (by kernel_rfl) ⟨hint_bool (decide_eq_false h3), trivial⟩ fun a w h => then_normal ?_
    refine at_test false h (by kernel_rfl) (fun hh => nomatch hh) (fun hh => ?_)
    refine wp_skip (then_normal (wp_seq ?_))
    refine at_regq [] { ts := [4], os := [1] } [] gamOK hT h (by kernel_rfl) trivial fun a w h => then_normal (wp_ret ?_)
    exact at_return ((rndS x0 x1), ()) [] h (by kernel_rfl) trivial (congrArg (fun z => (z, ())) (show ((rndS x0 x1)) = rndV x0 x1 from by (unfold rndV; first | (rw [if_pos ⟨by omega, by assumption⟩]; done) | (rw [if_neg (fun e => by have e1 := e.1; have e2 := e.2; first | omega | contradiction)]; done))))
 ·refine at_regq [{}, {}, { hint := some (aB false) }] { ts := [0, 1, 4, 5, 6, 12, 13, 14], os := [1] } [(AV.p (.c (.v (.bool (decide (((i : Nat) : Int) < x1))))) = AV.p (.c (.v (.bool false))))] gamOK hT h (by kernel_rfl) ⟨hint_bool (decide_eq_false h1), trivial⟩ fun a w h => then_normal ?_
  refine at_test false h (by kernel_rfl) (fun hh => nomatch hh) (fun hh => ?_)
  refine wp_exit (then_exit ?_)
  replace h := at_out (σ' := ⟨[(4, .p (.c (cN))), (5, aS 1)], [(1, oR (.int 3) (rndL x0 i))]⟩) { ts := [4, 5], os := [1] } h (by kernel_rfl)
  replace h := at_eq (σ' := ⟨[(4, .p (.c (cN))), (5, aS 1)], [(1, oR (.int 3) (rndS x0 x1))]⟩) h (st_congr1 (fun (d0 : List Int) => (⟨[(4, .p (.c (cN))), (5, aS 1)], [(1, oR (.int 3) d0)]⟩ : St)) (show ((rndL x0 i) : List Int) = (rndS x0 x1) from by first | with_reducible rfl | (exact rndS_eq hok0 (by first | (left; omega) | (right; assumption))) | rfl))
  refine then_exit (in_hit (then_normal (wp_seq (wp_seq ?_))))
  by_cases h5 : ((List.length (rndS x0 x1) : Nat) : Int) > 0
  ·refine at_regq [{}, {}, { hint := some (aB true) }] { ts := [4, 5, 30], os := [1] } [(AV.p (.c (.v (.bool (decide (((List.length (rndS x0 x1) : Nat) : Int) > 0))))) = AV.p (.c (.v (.bool true)))), Q_spec_LeadingIndex (rndS x0 x1)] gamOK hT h (by kernel_rfl) ⟨hint_bool (decide_eq_true h5), (by exact Sh.fit_len rfl (by omega)), trivial⟩ fun a w h => then_normal ?_
   refine at_test (decide ((LA.leadS (rndS x0 x1)) < 0)) h (by kernel_rfl) (fun h6 => ?_) (fun h6 => ?_)
   ·replace h6 : (LA.leadS (rndS x0 x1)) < 0 := of_decide_eq_true h6
    refine at_regq [] { ts := [4, 5], os := [1] } [(0 : Int) ≤ 0 ∧ 0 < ((List.length (rndS x0 x1) : Nat) : Int), 0 < List.length (rndS x0 x1)] gamOK hT h (by kernel_rfl) ⟨(by refine ⟨?_, ?_⟩ <;> (first | omega | (simp only [lsA]; omega) | (simp <;> omega))), (by first | omega | (simp only [lsA]; omega) | (simp <;> omega)), trivial⟩ fun a w h => then_normal (wp_seq ?_)
    refine at_regq [] { ts := [4], os := [1] } [] gamOK hT h (by kernel_rfl) trivial fun a w h => then_normal (wp_ret ?_)
    exact at_return ((List.set (rndS x0 x1) 0 1), ()) [] h (by kernel_rfl) trivial (congrArg (fun z => (z, ())) (show ((List.set (rndS x0 x1) 0 1)) = rndV x0 x1 from by (unfold rndV; first | (rw [if_pos ⟨by omega, by assumption⟩]; done) | (rw [if_neg (fun e => by have e1 := e.1; have e2 := e.2; first | omega | contradiction)]; done))))
   ·replace h6 : ¬ ((LA.leadS (rndS x0 x1)) < 0) := of_decide_eq_false h6
    refine wp_skip (then_normal (wp_seq ?_))
    refine at_regq [] { ts := [4], os := [1] } [] gamOK hT h (by kernel_rfl) trivial fun a w h => then_normal (wp_ret ?_)
    exact at_return ((rndS x0 x1), ()) [] h (by kernel_rfl) trivial (congrArg (fun z => (z, ())) (show ((rndS x0 x1)) = rndV x0 x1 from by (unfold rndV; first | (rw [if_pos ⟨by omega, by assumption⟩]; done) | (rw [if_neg (fun e => by have e1 := e.1; have e2 := e.2; first | omega | contradiction)]; done))))
  ·refine at_regq [{}, {}, { hint := some (aB false) }] { ts := [4, 5, 30], os := [1] } [(AV.p (.c (.v (.bool (decide (((List.length (rndS x0 x1) : Nat) : Int) > 0))))) = AV.p (.c (.v (.bool false))))] gamOK hT h (by kernel_rfl) ⟨hint_bool (decide_eq_false h5), trivial⟩ fun a w h => then_normal ?_
   refine at_test false h (by kernel_rfl) (fun hh => nomatch hh) (fun hh => ?_)
   refine wp_skip (then_normal (wp_seq ?_))
   refine at_regq [] { ts := [4], os := [1] } [] gamOK hT h (by kernel_rfl) trivial fun a w h => then_normal (wp_ret ?_)
   exact at_return ((rndS x0 x1), ()) [] h (by kernel_rfl) trivial (congrArg (fun z => (z, ())) (show ((rndS x0 x1)) = rndV x0 x1 from by (unfold rndV; first | (rw [if_pos ⟨by omega, by assumption⟩]; done) | (rw [if_neg (fun e => by have e1 := e.1; have e2 := e.2; first | omega | contradiction)]; done))))

abbrev Q_spec_Combine := (fun (x0 : (List (List Int))) (x1 : (List Int)) => Sh.fit s44 x0 ∧ Sh.fit s27 x1)
def S_spec_Combine : Sum := { fid := 47, dom := [s44, s27], cod := [s27], dp := true, fz := false, pre := fun x => Q_spec_Combine x.1 x.2.1, g := fun x => ((combV x.1 x.2.1), ()) }
def S_spec_Combine_tab : List (Nat × Sum) := [(46, S_spec_IsValidVector), (60, S_spec_AddScaled)]
theorem S_spec_Combine_ok : FnOK Tryd.prog 47 S_spec_Combine := by
 refine at_enter 64 (fun x => ⟨[(0, aF s27 x.1), (1, aF (.int 3) x.2.1)], []⟩) Tryd.func47 rfl (by kernel_rfl) (fun x => rfl) ?_
 rintro w0 Z0 ⟨x0, x1, u⟩ a w
 revert x0 x1
 intro (x0 : (List (List Int))) (x1 : (List Int)) hpre hlens h
 replace hpre : Q_spec_Combine x0 x1 := hpre
 have hT : TabOK Tryd.prog w0 [] S_spec_Combine_tab := (.cons S_spec_IsValidVector_ok (.cons S_spec_AddScaled_ok .nil))
 obtain ⟨hf0, hf1⟩ := hpre
 have hn0_1 : List.length x0 ≤ 1073741824 := hf0.1
 have hn1_2 : List.length x1 ≤ 1073741824 := hf1.1
 refine wp_seq ?_
 refine at_regq [] { ts := [0, 1, 4], os := [] } [] gamOK hT h (by kernel_rfl) trivial fun a w h => then_normal (wp_seq (wp_seq ?_))
 by_cases h1 : ((List.length x0 : Nat) : Int) = 0
 ·refine at_regq [{}, {}, { hint := some (aB true) }] { ts := [0, 1, 4, 21], os := [] } [(AV.p (.c (.v (.bool (decide (((List.length x0 : Nat) : Int) = 0))))) = AV.p (.c (.v (.bool true))))] gamOK hT h (by kernel_rfl) ⟨hint_bool (decide_eq_true h1), trivial⟩ fun a w h => then_normal ?_
  refine at_test true h (by kernel_rfl) (fun hh => ?_) (fun hh => nomatch hh)
  refine wp_seq ?_
  refine at_regq [{ ids := [1] }] { ts := [0, 1, 4], os := [1] } [] gamOK hT h (by kernel_rfl) trivial fun a w h => then_normal (wp_ret (then_ret ?_))
  exact at_return (([] : List Int), ()) [] h (by kernel_rfl) trivial (congrArg (fun z => (z, ())) (show (([] : List Int)) = combV x0 x1 from by first | exact combV_n (by first | (left; omega) | (right; left; omega) | (right; right; left; assumption) | (right; right; right; assumption)) | (rw [← combV_y (by omega) (by omega) (by assumption) (all_of (z := []) (i := i) (by omega) hok0.2)]; show _ = combTo x0 x1 (List.length x0); rw [show List.length x0 = i by omega]; done) | exact combV_n (Or.inr (Or.inr (Or.inr (all_at (z := []) (i := i) (by omega) (by (show ((validV _) && _) = false; rw [Bool.and_eq_false_iff]; first | (left; assumption) | (right; exact decide_eq_false (by omega))))))))))
 ·by_cases h2 : ((List.length x0 : Nat) : Int) = ((List.length x1 : Nat) : Int)
  ·refine at_regq [{}, {}, { hint := some (aB false) }, {}, {}, {}, {}, {}, { hint := some (aB false) }] { ts := [0, 1, 4, 21], os := [] } [(AV.p (.c (.v (.bool (decide (((List.length x0 : Nat) : Int) = 0))))) = AV.p (.c (.v (.bool false)))), (AV.p (.c (.v (.bool (!decide (((List.length x0 : Nat) : Int) = ((List.length x1 : Nat) : Int)))))) = AV.p (.c (.v (.bool false)))), Q_spec_IsValidVector x1] gamOK hT h (by kernel_rfl) ⟨hint_bool (decide_eq_false h1), hint_bool (ndT h2), (by exact hf1), trivial⟩ fun a w h => then_normal ?_
   refine at_test (!(validV x1)) h (by kernel_rfl) (fun h3 => ?_) (fun h3 => ?_)
   ·replace h3 : (validV x1) = false := notT h3
    refine wp_seq ?_
    refine at_regq [{ ids := [1] }] { ts := [0, 1, 4], os := [1] } [] gamOK hT h (by kernel_rfl) trivial fun a w h => then_normal (wp_ret (then_ret ?_))
    exact at_return (([] : List Int), ()) [] h (by kernel_rfl) trivial (congrArg (fun z => (z, ())) (show (([] : List Int)) = combV x0 x1 from by first | exact combV_n (by first | (left; omega) | (right; left; omega) | (right; right; left; assumption) | (right; right; right; assumption)) | (rw [← combV_y (by omega) (by omega) (by assumption) (all_of (z := []) (i := i) (by omega) hok0.2)]; show _ = combTo x0 x1 (List.length x0); rw [show List.length x0 = i by omega]; done) | exact combV_n (Or.inr (Or.inr (Or.inr (all_at (z := []) (i := i) (by omega) (by (show ((validV _) && _) = false; rw [Bool.and_eq_false_iff]; first | (left; assumption) | (right; exact decide_eq_false (by omega))))))))))
   ·replace h3 : (validV x1) = true := notF h3
    have hvh3 := validV_t h3
    refine wp_skip (then_normal (wp_seq ?_))
    refine at_regq [{}, {}, {}, {}, { ids := [2] }] { ts := [0, 1, 4, 5], os := [2] } [(0 : Int) ≤ 0 ∧ 0 < ((List.length x0 : Nat) : Int), (0 : Int) ≤ ((List.length (x0.getD 0 []) : Nat) : Int) ∧ ((List.length (x0.getD 0 []) : Nat) : Int) = ((List.length (x0.getD 0 []) : Nat) : Int) ∧ ((List.length (x0.getD 0 []) : Nat) : Int) * (8 : Nat) ≤ (140737488355328 : Int)] gamOK hT h (by kernel_rfl) ⟨(by refine ⟨?_, ?_⟩ <;> (first | omega | (simp only [lsA]; omega) | (simp <;> omega))), (by refine ⟨?_, ?_, ?_⟩ <;> ((have hA0 := mul_f ((List.length (x0.getD 0 []) : Nat) : Int) (8 : Nat); have hL1 := (show List.length (x0.getD 0 []) ≤ 1073741824 from ((Sh.fit_getD hf0 0)).1); first | omega | (simp only [lsA]; omega) | (simp <;> omega)))), trivial⟩ fun a w h => then_normal (wp_seq (wp_seq ?_))
    refine at_regq [] { ts := [0, 1, 4, 5, 6], os := [2] } [] gamOK hT h (by kernel_rfl) trivial fun a w h => then_normal (wp_block ?_)
    replace h := at_out (σ' := ⟨[(0, aF s27 x0), (1, aF (.int 3) x1), (4, .p (.c (cN))), (5, aS 2), (6, aI 0)], [(2, oR (.int 3) (List.replicate (List.length (x0.getD 0 [])) (0 : Int)))]⟩) { ts := [0, 1, 4, 5, 6], os := [2] } h (by kernel_rfl)
    refine at_loop (fun i : Nat => (⟨[(0, aF s27 x0), (1, aF (.int 3) x1), (4, .p (.c (cN))), (5, aS 2), (6, aI ((i : Nat) : Int))], [(2, oR (.int 3) (combTo x0 x1 i))]⟩ : St)) (fun i => (i ≤ List.length x0 ∧ allTo1 (cvB x0) x0 [] i)) (fun i => List.length x0 - i) (0) h (st_congr2 (fun (d0 : List Int) (d1 : Int) => (⟨[(0, aF s27 x0), (1, aF (.int 3) x1), (4, .p (.c (cN))), (5, aS 2), (6, aI d1)], [(2, oR (.int 3) d0)]⟩ : St)) (show ((List.replicate (List.length (x0.getD 0 [])) (0 : Int)) : List Int) = (combTo x0 x1 (0)) from by first | with_reducible rfl | (rfl) | rfl) (show (0 : Int) = (((0) : Nat) : Int) from by first | with_reducible rfl | (rfl) | rfl)) (by exact ⟨Nat.zero_le _, allTo1_zero⟩) ?_
    intro i a w hok0 h
    refine wp_seq (wp_seq ?_)
    refine at_regq [] { ts := [0, 1, 4, 5, 6, 31], os := [2] } [] gamOK hT h (by kernel_rfl) trivial fun a w h => then_normal ?_
    refine at_test (decide (((i : Nat) : Int) < ((List.length x0 : Nat) : Int))) h (by kernel_rfl) (fun h4 => ?_) (fun h4 => ?_)
    ·replace h4 : ((i : Nat) : Int) < ((List.length x0 : Nat) : Int) := of_decide_eq_true h4
     have hvr := (validV_t (v := x1) (by assumption)).2.2
     have hck := hvr i
     refine wp_skip (then_normal (wp_seq (wp_block (wp_seq (wp_seq ?_)))))
     rcases Bool.eq_false_or_eq_true (!(validV (x0.getD i []))) with h5 | h5
     ·have hzh5 : (validV (x0.getD i [])) = false := notT h5
      refine at_anyq [{}, {}, {}, {}, {}, { hint := some (aB true) }, {}, {}, {}, {}, {}, {}, {}, {}, {}, {}, {}, {}] { ts := [0, 1, 4, 5, 6, 41, 42, 43, 44, 45, 46, 47, 48, 49, 50, 51], os := [2] } [(0 : Int) ≤ ((i : Nat) : Int) ∧ ((i : Nat) : Int) < ((List.length x0 : Nat) : Int), Q_spec_IsValidVector (x0.getD i []), (AV.p (.c (.v (.bool (!(validV (x0.getD i [])))))) = AV.p (.c (.v (.bool true))))] gamOK hT mixed h (by kernel_rfl) ⟨(by refine ⟨?_, ?_⟩ <;> (first | omega | (simp only [lsA]; omega) | (simp <;> omega))), (by exact (Sh.fit_getD hf0 i)), hint_bool (h5), trivial⟩ fun a w h => then_normal ?_
      refine at_test true h (by kernel_rfl) (fun hh => ?_) (fun hh => nomatch hh)
      refine wp_seq ?_
      refine at_regq [{ ids := [3] }] { ts := [0, 1, 4, 5, 6, 41, 42, 43, 44, 45, 46, 47, 48, 49, 50], os := [2, 3] } [] gamOK hT h (by kernel_rfl) trivial fun a w h => then_normal (wp_ret (then_ret (in_ret (then_ret (then_ret (in_ret (then_ret ?_)))))))
      exact at_return (([] : List Int), ()) [] h (by kernel_rfl) trivial (congrArg (fun z => (z, ())) (show (([] : List Int)) = combV x0 x1 from by first | exact combV_n (by first | (left; omega) | (right; left; omega) | (right; right; left; assumption) | (right; right; right; assumption)) | (rw [← combV_y (by omega) (by omega) (by assumption) (all_of (z := []) (i := i) (by omega) hok0.2)]; show _ = combTo x0 x1 (List.length x0); rw [show List.length x0 = i by omega]; done) | exact combV_n (Or.inr (Or.inr (Or.inr (all_at (z := []) (i := i) (by omega) (by (show ((validV _) && _) = false; rw [Bool.and_eq_false_iff]; first | (left; assumption) | (right; exact decide_eq_false (by omega))))))))))
     ·have hzh5 : (validV (x0.getD i [])) = true := notF h5
      have hvh5 := validV_t (notF h5)
      refine at_anyq [{}, {}, {}, {}, {}, { hint := some (aB false) }, {}, {}, {}, {}, {}, {}, {}, {}, {}, {}, {}, {}] { ts := [0, 1, 4, 5, 6, 41, 42, 43, 44, 45, 46, 47, 48, 49, 50, 51], os := [2] } [(0 : Int) ≤ ((i : Nat) : Int) ∧ ((i : Nat) : Int) < ((List.length x0 : Nat) : Int), Q_spec_IsValidVector (x0.getD i []), (AV.p (.c (.v (.bool (!(validV (x0.getD i [])))))) = AV.p (.c (.v (.bool false)))), (0 : Int) ≤ ((i : Nat) : Int) ∧ ((i : Nat) : Int) < ((List.length x0 : Nat) : Int), (0 : Int) ≤ 0 ∧ 0 < ((List.length x0 : Nat) : Int)] gamOK hT mixed h (by kernel_rfl) ⟨(by refine ⟨?_, ?_⟩ <;> (first | omega | (simp only [lsA]; omega) | (simp <;> omega))), (by exact (Sh.fit_getD hf0 i)), hint_bool (h5), (by refine ⟨?_, ?_⟩ <;> (first | omega | (simp only [lsA]; omega) | (simp <;> omega))), (by refine ⟨?_, ?_⟩ <;> (first | omega | (simp only [lsA]; omega) | (simp <;> omega))), trivial⟩ fun a w h => then_normal ?_
      refine at_test (!decide (((List.length (x0.getD i []) : Nat) : Int) = ((List.length (x0.getD 0 []) : Nat) : Int))) h (by kernel_rfl) (fun h6 => ?_) (fun h6 => ?_)
      ·replace h6 : ¬ (((List.length (x0.getD i []) : Nat) : Int) = ((List.length (x0.getD 0 []) : Nat) : Int)) := of_decide_eq_false (notT h6)
       refine wp_seq ?_
       refine at_regq [{ ids := [3] }] { ts := [0, 1, 4, 5, 6, 41, 42, 43, 44, 45, 46, 47, 48, 49, 50], os := [2, 3] } [] gamOK hT h (by kernel_rfl) trivial fun a w h => then_normal (wp_ret (then_ret (in_ret (then_ret (then_ret (in_ret (then_ret ?_)))))))
       exact at_return (([] : List Int), ()) [] h (by kernel_rfl) trivial (congrArg (fun z => (z, ())) (show (([] : List Int)) = combV x0 x1 from by first | exact combV_n (by first | (left; omega) | (right; left; omega) | (right; right; left; assumption) | (right; right; right; assumption)) | (rw [← combV_y (by omega) (by omega) (by assumption) (all_of (z := []) (i := i) (by omega) hok0.2)]; show _ = combTo x0 x1 (List.length x0); rw [show List.length x0 = i by omega]; done) | exact combV_n (Or.inr (Or.inr (Or.inr (all_at (z := []) (i := i) (by omega) (by (show ((validV _) && _) = false; rw [Bool.and_eq_false_iff]; first | (left; assumption) | (right; exact decide_eq_false (by omega))))))))))
      ·replace h6 : ((List.length (x0.getD i []) : Nat) : Int) = ((List.length (x0.getD 0 []) : Nat) : Int) := of_decide_eq_true (notF h6)
       refine wp_skip (then_normal ?_)
       refine at_anyq [{}, {}, {}, {}, {}, {}, {}, {}, {}, { ids := [4] }, {}] { ts := [0, 1, 4, 5, 6, 41, 42, 43, 44, 45, 46, 47, 48, 49, 50], os := [4] } [(0 : Int) ≤ ((i : Nat) : Int) ∧ ((i : Nat) : Int) < ((List.length x0 : Nat) : Int), (0 : Int) ≤ ((i : Nat) : Int) ∧ ((i : Nat) : Int) < ((List.length x1 : Nat) : Int), Q_spec_AddScaled (combTo x0 x1 i) (x0.getD i []) (x1.getD i 0)] gamOK hT mixed h (by kernel_rfl) ⟨(by refine ⟨?_, ?_⟩ <;> (first | omega | (simp only [lsA]; omega) | (simp <;> omega))), (by refine ⟨?_, ?_⟩ <;> (first | omega | (simp only [lsA]; omega) | (simp <;> omega))), (by (have hci : cvB x0 (x0.getD i []) = true := (by (show ((validV _) && _) = true; rw [Bool.and_eq_true]; exact ⟨by assumption, decide_eq_true (by omega)⟩)); have hcv := cvB_ok hci; have hco := combTo_ok (n := List.length (x0.getD 0 [])) (vs := x0) (cs := x1) rfl hvr i (fun j hj => cvB_ok (hok0.2 j hj)); exact ⟨fitV hco (cvB_40 hci), fitV hcv (cvB_40 hci)⟩)), trivial⟩ fun a w h => in_normal (then_normal ?_)
       refine at_regq [{}, { nw := true }] { ts := [0, 1, 4, 5, 6, 41, 42, 43, 44, 45, 46, 47, 48, 49, 50], os := [4] } [I64 (((i : Nat) : Int) + 1)] gamOK hT h (by kernel_rfl) ⟨⟨by first | omega | (simp only [lsA]; omega) | (simp <;> omega), by first | omega | (simp only [lsA]; omega) | (simp <;> omega)⟩, trivial⟩ fun a w h => ?_
       replace h := at_out (σ' := ⟨[(0, aF s27 x0), (1, aF (.int 3) x1), (4, .p (.c (cN))), (5, aS 2), (6, aI (((i : Nat) : Int) + 1))], [(2, oR (.int 3) (addV (combTo x0 x1 i) (x0.getD i []) (x1.getD i 0)))]⟩) { ts := [0, 1, 4, 5, 6], os := [4], rn := [(4, 2)] } h (by kernel_rfl)
       exact ⟨i + 1, at_eq h (st_congr2 (fun (d0 : List Int) (d1 : Int) => (⟨[(0, aF s27 x0), (1, aF (.int 3) x1), (4, .p (.c (cN))), (5, aS 2), (6, aI d1)], [(2, oR (.int 3) d0)]⟩ : St)) (show ((addV (combTo x0 x1 i) (x0.getD i []) (x1.getD i 0)) : List Int) = (combTo x0 x1 (i + 1)) from by first | with_reducible rfl | ((have hci : cvB x0 (x0.getD i []) = true := (by (show ((validV _) && _) = true; rw [Bool.and_eq_true]; exact ⟨by assumption, decide_eq_true (by omega)⟩)); have hcv := cvB_ok hci; have hco := combTo_ok (n := List.length (x0.getD 0 [])) (vs := x0) (cs := x1) rfl hvr i (fun j hj => cvB_ok (hok0.2 j hj)); rw [addV_L hco hcv (cvB_40 hci) (by omega)]; rfl)) | rfl) (show (((i : Nat) : Int) + 1 : Int) = (((i + 1) : Nat) : Int) from by first | with_reducible rfl | (omega) | rfl)), (by exact ⟨by omega, allTo1_succ hok0.2 (by (show ((validV _) && _) = true; rw [Bool.and_eq_true]; exact ⟨by assumption, decide_eq_true (by omega)⟩))⟩), (by omega)⟩
    ·replace h4 : ¬ (((i : Nat) : Int) < ((List.length x0 : Nat) : Int)) := of_decide_eq_false h4
     refine wp_exit (then_exit (then_exit (in_hit (then_normal (wp_seq ?_)))))
     refine at_regq [] { ts := [4], os := [2] } [] gamOK hT h (by kernel_rfl) trivial fun a w h => then_normal (wp_ret ?_)
     exact at_return ((combTo x0 x1 i), ()) [] h (by kernel_rfl) trivial (congrArg (fun z => (z, ())) (show ((combTo x0 x1 i)) = combV x0 x1 from by first | exact combV_n (by first | (left; omega) | (right; left; omega) | (right; right; left; assumption) | (right; right; right; assumption)) | (rw [← combV_y (by omega) (by omega) (by assumption) (all_of (z := []) (i := i) (by omega) hok0.2)]; show _ = combTo x0 x1 (List.length x0); rw [show List.length x0 = i by omega]; done) | exact combV_n (Or.inr (Or.inr (Or.inr (all_at (z := []) (i := i) (by omega) (by (show ((validV _) && _) = false; rw [Bool.and_eq_false_iff]; first | (left; assumption) | (right; exact decide_eq_false (by omega))))))))))
  ·refine at_regq [{}, {}, { hint := some (aB false) }, {}, {}, {}, {}, {}, { hint := some (aB true) }] { ts := [0, 1, 4, 21], os := [] } [(AV.p (.c (.v (.bool (decide (((List.length x0 : Nat) : Int) = 0))))) = AV.p (.c (.v (.bool false)))), (AV.p (.c (.v (.bool (!decide (((List.length x0 : Nat) : Int) = ((List.length x1 : Nat) : Int)))))) = AV.p (.c (.v (.bool true))))] gamOK hT h (by kernel_rfl) ⟨hint_bool (decide_eq_false h1), hint_bool (ndF h2), trivial⟩ fun a w h => then_normal ?_
   refine at_test true h (by kernel_rfl) (fun hh => ?_) (fun hh => nomatch hh)
   refine wp_seq ?_
   refine at_regq [{ ids := [1] }] { ts := [0, 1, 4], os := [1] } [] gamOK hT h (by kernel_rfl) trivial fun a w h => then_normal (wp_ret (then_ret ?_))
   exact at_return (([] : List Int), ()) [] h (by kernel_rfl) trivial (congrArg (fun z => (z, ())) (show (([] : List Int)) = combV x0 x1 from by first | exact combV_n (by first | (left; omega) | (right; left; omega) | (right; right; left; assumption) | (right; right; right; assumption)) | (rw [← combV_y (by omega) (by omega) (by assumption) (all_of (z := []) (i := i) (by omega) hok0.2)]; show _ = combTo x0 x1 (List.length x0); rw [show List.length x0 = i by omega]; done) | exact combV_n (Or.inr (Or.inr (Or.inr (all_at (z := []) (i := i) (by omega) (by (show ((validV _) && _) = false; rw [Bool.and_eq_false_iff]; first | (left; assumption) | (right; exact decide_eq_false (by omega))))))))))

abbrev Q_spec_CombinePackets := (fun (x0 : (List T29)) (x1 : (List Int)) => Sh.fit s49 x0 ∧ Sh.fit s27 x1)
def S_spec_CombinePackets : Sum := { fid := 54, dom := [s49, s27], cod := [s29, (.bool 4)], dp := true, fz := false, pre := fun x => Q_spec_CombinePackets x.1 x.2.1, g := fun x => ((comP x.1 x.2.1).1, ((comP x.1 x.2.1).2, ())) }
def S_spec_CombinePackets_tab : List (Nat × Sum) := [(47, S_spec_Combine)]
theorem S_spec_CombinePackets_ok : FnOK Tryd.prog 54 S_spec_CombinePackets := by
 refine at_enter 68 (fun x => ⟨[(0, aF s29 x.1), (1, aF (.int 3) x.2.1)], []⟩) Tryd.func54 rfl (by kernel_rfl) (fun x => rfl) ?_
 rintro w0 Z0 ⟨x0, x1, u⟩ a w
 revert x0 x1
 intro (x0 : (List T29)) (x1 : (List Int)) hpre hlens h
 replace hpre : Q_spec_CombinePackets x0 x1 := hpre
 have hT : TabOK Tryd.prog w0 [] S_spec_CombinePackets_tab := (.cons S_spec_Combine_ok .nil)
 obtain ⟨hf0, hf1⟩ := hpre
 have hn0_1 : List.length x0 ≤ 1073741824 := hf0.1
 have hn1_2 : List.length x1 ≤ 1073741824 := hf1.1
 refine wp_seq ?_
 refine at_regq [{ ids := [1] }] { ts := [0, 1, 4, 5], os := [1] } [] gamOK hT h (by kernel_rfl) trivial fun a w h => then_normal (wp_seq ?_)
 refine at_regq [{ ids := [2], dp := false }] { ts := [0, 1, 4, 5, 6], os := [1, 2] } [] gamOK hT h (by kernel_rfl) trivial fun a w h => then_normal (wp_seq ?_)
 refine at_regq [{ ids := [3], dp := false }] { ts := [0, 1, 4, 5, 6, 7], os := [1, 2, 3] } [] gamOK hT h (by kernel_rfl) trivial fun a w h => then_normal (wp_seq (wp_seq ?_))
 refine at_regq [] { ts := [0, 1, 4, 5, 6, 7, 8], os := [1, 2, 3] } [] gamOK hT h (by kernel_rfl) trivial fun a w h => then_normal (wp_block ?_)
 replace h := at_out (σ' := ⟨[(0, aF s29 x0), (1, aF (.int 3) x1), (4, aP 1 0), (5, aB false), (6, aS 2), (7, aS 3), (8, aI 0)], [(1, oX 29 [cI 0, cN, cN]), (2, oF s27 ([] : List (List Int))), (3, oF s27 ([] : List (List Int)))]⟩) { ts := [0, 1, 4, 5, 6, 7, 8], os := [1, 2, 3] } h (by kernel_rfl)
 refine at_loop (fun i : Nat => (⟨[(0, aF s29 x0), (1, aF (.int 3) x1), (4, aP 1 0), (5, aB false), (6, aS 2), (7, aS 3), (8, aI ((i : Nat) : Int))], [(1, oX 29 [cI 0, cN, cN]), (2, oF s27 (cofs (List.take i x0))), (3, oF s27 (pays (List.take i x0)))]⟩ : St)) (fun i => (i ≤ List.length x0 ∧ allTo1 (fun p => decide (p.1 = (x0.getD 0 (0, ([], []))).1)) x0 (0, ([], [])) i)) (fun i => List.length x0 - i) (0) h (st_congr3 (fun (d0 : List (List Int)) (d1 : List (List Int)) (d2 : Int) => (⟨[(0, aF s29 x0), (1, aF (.int 3) x1), (4, aP 1 0), (5, aB false), (6, aS 2), (7, aS 3), (8, aI d2)], [(1, oX 29 [cI 0, cN, cN]), (2, oF s27 d0), (3, oF s27 d1)]⟩ : St)) (show (([] : List (List Int)) : List (List Int)) = (cofs (List.take (0) x0)) from by first | with_reducible rfl | (rfl) | rfl) (show (([] : List (List Int)) : List (List Int)) = (pays (List.take (0) x0)) from by first | with_reducible rfl | (rfl) | rfl) (show (0 : Int) = (((0) : Nat) : Int) from by first | with_reducible rfl | (rfl) | rfl)) (by exact ⟨Nat.zero_le _, allTo1_zero⟩) ?_
 intro i a w hok0 h
 have hcl := cofs_len (List.take i x0)
 have hpl := pays_len (List.take i x0)
 have hlt := len_take_le (xs := x0) i
 refine wp_seq (wp_seq ?_)
 refine at_regq [] { ts := [0, 1, 4, 5, 6, 7, 8, 16], os := [1, 2, 3] } [] gamOK hT h (by kernel_rfl) trivial fun a w h => then_normal ?_
 refine at_test (decide (((i : Nat) : Int) < ((List.length x0 : Nat) : Int))) h (by kernel_rfl) (fun h1 => ?_) (fun h1 => ?_)
 ·replace h1 : ((i : Nat) : Int) < ((List.length x0 : Nat) : Int) := of_decide_eq_true h1
  refine wp_skip (then_normal (wp_seq (wp_block (wp_seq (wp_seq ?_)))))
  refine at_anyq [{}, {}, {}, {}, {}, {}, {}, {}, {}, {}] { ts := [0, 1, 4, 5, 6, 7, 8, 28], os := [1, 2, 3] } [(0 : Int) ≤ ((i : Nat) : Int) ∧ ((i : Nat) : Int) < ((List.length x0 : Nat) : Int), (0 : Int) ≤ 0 ∧ 0 < ((List.length x0 : Nat) : Int)] gamOK hT mixed h (by kernel_rfl) ⟨(by refine ⟨?_, ?_⟩ <;> (first | omega | (simp only [lsA]; omega) | (simp <;> omega))), (by refine ⟨?_, ?_⟩ <;> (first | omega | (simp only [lsA]; omega) | (simp <;> omega))), trivial⟩ fun a w h => then_normal ?_
  refine at_test (!decide ((x0.getD i (0, ([], []))).1 = (x0.getD 0 (0, ([], []))).1)) h (by kernel_rfl) (fun h2 => ?_) (fun h2 => ?_)
  ·replace h2 : ¬ ((x0.getD i (0, ([], []))).1 = (x0.getD 0 (0, ([], []))).1) := of_decide_eq_false (notT h2)
   refine wp_seq ?_
   refine at_regq [] { ts := [0, 1, 4, 5, 6, 7, 8], os := [1, 2, 3] } [] gamOK hT h (by kernel_rfl) trivial fun a w h => then_normal (wp_ret (then_ret (in_ret (then_ret ?_))))
   have hs3 : (List.all x0 (fun p => decide (p.1 = (x0.getD 0 (0, ([], []))).1))) = false := by exact all_at (z := (0, ([], []))) (i := i) (by omega) (decide_eq_false (by omega))
   refine then_ret (in_ret (then_ret ?_))
   exact at_return ((0, (([] : List Int), ([] : List Int))), (false, ())) [] h (by kernel_rfl) trivial (congrArg (fun z => (z.1, z.2, ())) (show (((0, (([] : List Int), ([] : List Int))), false)) = comP x0 x1 from by first | exact comP_n (by first | (left; assumption) | (right; left; omega) | (right; right; omega)) | exact comP_y (by assumption) (by omega) (by omega)))
  ·replace h2 : (x0.getD i (0, ([], []))).1 = (x0.getD 0 (0, ([], []))).1 := of_decide_eq_true (notF h2)
   refine wp_skip (then_normal (wp_seq ?_))
   refine at_regq [{}, {}, {}, {}, {}, {}, { ids := [4], dp := false }, { ids := [5] }] { ts := [0, 1, 4, 5, 6, 7, 8], os := [1, 3, 5] } [(0 : Int) ≤ ((i : Nat) : Int) ∧ ((i : Nat) : Int) < ((List.length x0 : Nat) : Int), (List.length (cofs (List.take i x0)) + List.length ([(x0.getD i (0, ([], []))).2.1])) * 24 ≤ 140737488355328] gamOK hT h (by kernel_rfl) ⟨(by refine ⟨?_, ?_⟩ <;> (first | omega | (simp only [lsA]; omega) | (simp <;> omega))), (by first | omega | (simp only [lsA]; omega) | (simp <;> omega)), trivial⟩ fun a w h => then_normal ?_
   refine at_regq [{}, {}, {}, {}, {}, {}, { ids := [6], dp := false }, { ids := [7] }] { ts := [0, 1, 4, 5, 6, 7, 8], os := [1, 5, 7] } [(0 : Int) ≤ ((i : Nat) : Int) ∧ ((i : Nat) : Int) < ((List.length x0 : Nat) : Int), (List.length (pays (List.take i x0)) + List.length ([(x0.getD i (0, ([], []))).2.2])) * 24 ≤ 140737488355328] gamOK hT h (by kernel_rfl) ⟨(by refine ⟨?_, ?_⟩ <;> (first | omega | (simp only [lsA]; omega) | (simp <;> omega))), (by first | omega | (simp only [lsA]; omega) | (simp <;> omega)), trivial⟩ fun a w h => in_normal (then_normal ?_)
   refine at_regq [{}, { nw := true }] { ts := [0, 1, 4, 5, 6, 7, 8], os := [1, 5, 7] } [I64 (((i : Nat) : Int) + 1)] gamOK hT h (by kernel_rfl) ⟨⟨by first | omega | (simp only [lsA]; omega) | (simp <;> omega), by first | omega | (simp only [lsA]; omega) | (simp <;> omega)⟩, trivial⟩ fun a w h => ?_
   replace h := at_out (σ' := ⟨[(0, aF s29 x0), (1, aF (.int 3) x1), (4, aP 1 0), (5, aB false), (6, aS 2), (7, aS 3), (8, aI (((i : Nat) : Int) + 1))], [(1, oX 29 [cI 0, cN, cN]), (2, oF s27 ((cofs (List.take i x0)) ++ ([(x0.getD i (0, ([], []))).2.1]))), (3, oF s27 ((pays (List.take i x0)) ++ ([(x0.getD i (0, ([], []))).2.2])))]⟩) { ts := [0, 1, 4, 5, 6, 7, 8], os := [1, 5, 7], rn := [(5, 2), (7, 3)] } h (by kernel_rfl)
   exact ⟨i + 1, at_eq h (st_congr3 (fun (d0 : List (List Int)) (d1 : List (List Int)) (d2 : Int) => (⟨[(0, aF s29 x0), (1, aF (.int 3) x1), (4, aP 1 0), (5, aB false), (6, aS 2), (7, aS 3), (8, aI d2)], [(1, oX 29 [cI 0, cN, cN]), (2, oF s27 d0), (3, oF s27 d1)]⟩ : St)) (show (((cofs (List.take i x0)) ++ ([(x0.getD i (0, ([], []))).2.1])) : List (List Int)) = (cofs (List.take (i + 1) x0)) from by first | with_reducible rfl | ((rw [take_snoc (z := (0, ([], []))) (by omega), cofs_snoc]; done)) | rfl) (show (((pays (List.take i x0)) ++ ([(x0.getD i (0, ([], []))).2.2])) : List (List Int)) = (pays (List.take (i + 1) x0)) from by first | with_reducible rfl | ((rw [take_snoc (z := (0, ([], []))) (by omega), pays_snoc]; done)) | rfl) (show (((i : Nat) : Int) + 1 : Int) = (((i + 1) : Nat) : Int) from by first | with_reducible rfl | (omega) | rfl)), (by exact ⟨by omega, allTo1_succ hok0.2 (decide_eq_true (by omega))⟩), (by omega)⟩
 ·replace h1 : ¬ (((i : Nat) : Int) < ((List.length x0 : Nat) : Int)) := of_decide_eq_false h1
  refine wp_exit (then_exit ?_)
  have hs4 : (List.all x0 (fun p => decide (p.1 = (x0.getD 0 (0, ([], []))).1))) = true := by exact all_of (z := (0, ([], []))) (i := i) (by omega) hok0.2
  replace h := at_out (σ' := ⟨[(0, aF s29 x0), (1, aF (.int 3) x1), (4, aP 1 0), (5, aB false), (6, aS 2), (7, aS 3)], [(1, oX 29 [cI 0, cN, cN]), (2, oF s27 (cofs (List.take i x0))), (3, oF s27 (pays (List.take i x0)))]⟩) { ts := [0, 1, 4, 5, 6, 7], os := [1, 2, 3] } h (by kernel_rfl)
  replace h := at_eq (σ' := ⟨[(0, aF s29 x0), (1, aF (.int 3) x1), (4, aP 1 0), (5, aB false), (6, aS 2), (7, aS 3)], [(1, oX 29 [cI 0, cN, cN]), (2, oF s27 (cofs x0)), (3, oF s27 (pays x0))]⟩) h (st_congr2 (fun (d0 : List (List Int)) (d1 : List (List Int)) => (⟨[(0, aF s29 x0), (1, aF (.int 3) x1), (4, aP 1 0), (5, aB false), (6, aS 2), (7, aS 3)], [(1, oX 29 [cI 0, cN, cN]), (2, oF s27 d0), (3, oF s27 d1)]⟩ : St)) (show ((cofs (List.take i x0)) : List (List Int)) = (cofs x0) from by first | with_reducible rfl | (rw [take_all (by omega)]) | rfl) (show ((pays (List.take i x0)) : List (List Int)) = (pays x0) from by first | with_reducible rfl | (rw [take_all (by omega)]) | rfl))
  refine then_exit (in_hit (then_normal (wp_seq ?_)))
  refine at_regq [{}, {}, { ids := [8] }] { ts := [0, 1, 4, 5, 7, 9], os := [1, 3, 8] } [Q_spec_Combine (cofs x0) x1] gamOK hT h (by kernel_rfl) ⟨(by first | exact ⟨fit_cofs hf0, hf1⟩ | exact ⟨fit_pays hf0, hf1⟩), trivial⟩ fun a w h => then_normal (wp_seq ?_)
  refine at_regq [{}, {}, { ids := [9] }] { ts := [0, 4, 5, 9, 10], os := [1, 8, 9] } [Q_spec_Combine (pays x0) x1] gamOK hT h (by kernel_rfl) ⟨(by first | exact ⟨fit_cofs hf0, hf1⟩ | exact ⟨fit_pays hf0, hf1⟩), trivial⟩ fun a w h => then_normal (wp_seq (wp_seq ?_))
  by_cases h5 : ((List.length (combV (cofs x0) x1) : Nat) : Int) = 0
  ·refine at_regq [{}, {}, { hint := some (aB true) }] { ts := [0, 4, 5, 9, 10, 59], os := [1, 8, 9] } [(AV.p (.c (.v (.bool (decide (((List.length (combV (cofs x0) x1) : Nat) : Int) = 0))))) = AV.p (.c (.v (.bool true))))] gamOK hT h (by kernel_rfl) ⟨hint_bool (decide_eq_true h5), trivial⟩ fun a w h => then_normal ?_
   refine at_test true h (by kernel_rfl) (fun hh => ?_) (fun hh => nomatch hh)
   refine wp_seq ?_
   refine at_regq [] { ts := [0, 4, 5, 9, 10], os := [1, 8, 9] } [] gamOK hT h (by kernel_rfl) trivial fun a w h => then_normal (wp_ret (then_ret ?_))
   exact at_return ((0, (([] : List Int), ([] : List Int))), (false, ())) [] h (by kernel_rfl) trivial (congrArg (fun z => (z.1, z.2, ())) (show (((0, (([] : List Int), ([] : List Int))), false)) = comP x0 x1 from by first | exact comP_n (by first | (left; assumption) | (right; left; omega) | (right; right; omega)) | exact comP_y (by assumption) (by omega) (by omega)))
  ·refine at_regq [{}, {}, { hint := some (aB false) }] { ts := [0, 4, 5, 9, 10, 59], os := [1, 8, 9] } [(AV.p (.c (.v (.bool (decide (((List.length (combV (cofs x0) x1) : Nat) : Int) = 0))))) = AV.p (.c (.v (.bool false))))] gamOK hT h (by kernel_rfl) ⟨hint_bool (decide_eq_false h5), trivial⟩ fun a w h => then_normal ?_
   refine at_test (decide (((List.length (combV (pays x0) x1) : Nat) : Int) = 0)) h (by kernel_rfl) (fun h6 => ?_) (fun h6 => ?_)
   ·replace h6 : ((List.length (combV (pays x0) x1) : Nat) : Int) = 0 := of_decide_eq_true h6
    refine wp_seq ?_
    refine at_regq [] { ts := [0, 4, 5, 9, 10], os := [1, 8, 9] } [] gamOK hT h (by kernel_rfl) trivial fun a w h => then_normal (wp_ret (then_ret ?_))
    exact at_return ((0, (([] : List Int), ([] : List Int))), (false, ())) [] h (by kernel_rfl) trivial (congrArg (fun z => (z.1, z.2, ())) (show (((0, (([] : List Int), ([] : List Int))), false)) = comP x0 x1 from by first | exact comP_n (by first | (left; assumption) | (right; left; omega) | (right; right; omega)) | exact comP_y (by assumption) (by omega) (by omega)))
   ·replace h6 : ¬ (((List.length (combV (pays x0) x1) : Nat) : Int) = 0) := of_decide_eq_false h6
    have hcp := pays_len x0
    have hcq := combV_pos (vs := pays x0) (cs := x1) (by omega)
    refine wp_skip (then_normal (wp_seq ?_))
    refine at_regq [] { ts := [4, 5], os := [1, 8, 9] } [(0 : Int) ≤ 0 ∧ 0 < ((List.length x0 : Nat) : Int)] gamOK hT h (by kernel_rfl) ⟨(by refine ⟨?_, ?_⟩ <;> (first | omega | (simp only [lsA]; omega) | (simp <;> omega))), trivial⟩ fun a w h => then_normal (wp_ret ?_)
    exact at_return (((x0.getD 0 (0, ([], []))).1, ((combV (cofs x0) x1), (combV (pays x0) x1))), (true, ())) [] h (by kernel_rfl) trivial (congrArg (fun z => (z.1, z.2, ())) (show ((((x0.getD 0 (0, ([], []))).1, ((combV (cofs x0) x1), (combV (pays x0) x1))), true)) = comP x0 x1 from by first | exact comP_n (by first | (left; assumption) | (right; left; omega) | (right; right; omega)) | exact comP_y (by assumption) (by omega) (by omega)))

def D_spec_l15Seed := (fun (r : T51) (s : Int) => keyed s ([r.1, r.2.2.2.2]))
abbrev Q_spec_l15Seed := (fun (x0 : T51) (x1 : Int) => Sh.fit s51 x0)
def S_spec_l15Seed : Sum := { fid := 56, dom := [s51, (.int 3)], cod := [(.int 3)], dp := true, fz := false, pre := fun x => Q_spec_l15Seed x.1 x.2.1, g := fun x => ((D_spec_l15Seed x.1 x.2.1), ()) }
def S_spec_l15Seed_tab : List (Nat × Sum) := [(66, S_spec_KeyedHash)]
theorem S_spec_l15Seed_ok : FnOK Tryd.prog 56 S_spec_l15Seed := by
 refine at_enter 12 (fun x => ⟨[(0, aG [cI x.1.1, cI x.1.2.1, cI x.1.2.2.1, .ro s29 x.1.2.2.2.1, cI x.1.2.2.2.2]), (1, aI x.2.1)], []⟩) Tryd.func56 rfl (by kernel_rfl) (fun x => rfl) ?_
 rintro w0 Z0 ⟨x0, x1, u⟩ a w
 revert x0 x1
 intro (x0 : T51) (x1 : Int) hpre hlens h
 replace hpre : Q_spec_l15Seed x0 x1 := hpre
 have hT : TabOK Tryd.prog w0 [] S_spec_l15Seed_tab := (.cons S_spec_KeyedHash_ok .nil)
 have hf0 : Sh.fit s51 x0 := hpre
 have hn0_1 : List.length x0.2.2.2.1 ≤ 1073741824 := hf0.2.2.2.1.1
 refine wp_seq ?_
 refine at_regq [{ ids := [1] }] { ts := [1, 2, 4], os := [1] } [] gamOK hT h (by kernel_rfl) trivial fun a w h => then_normal (wp_seq ?_)
 refine at_regq [{}, {}, {}, {}, {}, { ids := [2] }] { ts := [4], os := [] } [pKey x1 ([x0.1, x0.2.2.2.2])] gamOK hT h (by kernel_rfl) ⟨(by (show _ ≤ _; simp)), trivial⟩ fun a w h => then_normal (wp_ret ?_)
 exact at_return ((keyed x1 ([x0.1, x0.2.2.2.2])), ()) [] h (by kernel_rfl) trivial (congrArg (fun z => (z, ())) (show ((keyed x1 ([x0.1, x0.2.2.2.2]))) = D_spec_l15Seed x0 x1 from by unfold D_spec_l15Seed; rfl))

abbrev Q_spec_Recode := (fun (x0 : T51) (x1 : Int) => Sh.fit s51 x0)
def S_spec_Recode : Sum := { fid := 42, dom := [s51, (.int 3)], cod := [s51, s29, (.bool 4)], dp := true, fz := false, pre := fun x => Q_spec_Recode x.1 x.2.1, g := fun x => ((recodeR x.1 x.2.1).1, ((recodeR x.1 x.2.1).2.1, ((recodeR x.1 x.2.1).2.2, ()))) }
def S_spec_Recode_tab : List (Nat × Sum) := [(52, S_spec_l15Copy), (53, S_spec_IsValidRecoder), (56, S_spec_l15Seed), (55, S_spec_RandomVector), (54, S_spec_CombinePackets)]
theorem S_spec_Recode_ok : FnOK Tryd.prog 42 S_spec_Recode := by
 refine at_enter 48 (fun x => ⟨[(0, aG [cI x.1.1, cI x.1.2.1, cI x.1.2.2.1, .ro s29 x.1.2.2.2.1, cI x.1.2.2.2.2]), (1, aI x.2.1)], []⟩) Tryd.func42 rfl (by kernel_rfl) (fun x => rfl) ?_
 rintro w0 Z0 ⟨x0, x1, u⟩ a w
 revert x0 x1
 intro (x0 : T51) (x1 : Int) hpre hlens h
 replace hpre : Q_spec_Recode x0 x1 := hpre
 have hT : TabOK Tryd.prog w0 [] S_spec_Recode_tab := (.cons S_spec_l15Copy_ok (.cons S_spec_IsValidRecoder_ok (.cons S_spec_l15Seed_ok (.cons S_spec_RandomVector_ok (.cons S_spec_CombinePackets_ok .nil)))))
 have hf0 : Sh.fit s51 x0 := hpre
 have hn0_1 : List.length x0.2.2.2.1 ≤ 1073741824 := hf0.2.2.2.1.1
 refine wp_seq ?_
 refine at_regq [{ ids := [1] }, { ids := [2] }, { ids := [3] }] { ts := [1, 2, 4, 5, 6], os := [1, 2, 3] } [] gamOK hT h (by kernel_rfl) trivial fun a w h => then_normal (wp_seq ?_)
 refine at_regq [{}, { ids := [4] }, { ids := [5] }] { ts := [1, 2, 4, 5, 6, 7], os := [1, 2, 3, 4, 5] } [Q_spec_l15Copy x0] gamOK hT h (by kernel_rfl) ⟨(by exact hf0), trivial⟩ fun a w h => then_normal (wp_seq (wp_seq ?_))
 rcases Bool.eq_false_or_eq_true (!(validR x0)) with h1 | h1
 ·have hzh1 : (validR x0) = false := notT h1
  refine at_regq [{}, {}, { hint := some (aB true) }] { ts := [1, 2, 4, 5, 6, 7, 25], os := [1, 2, 3, 4, 5] } [Q_spec_IsValidRecoder x0, (AV.p (.c (.v (.bool (!(validR x0))))) = AV.p (.c (.v (.bool true))))] gamOK hT h (by kernel_rfl) ⟨(by exact hf0), hint_bool (h1), trivial⟩ fun a w h => then_normal ?_
  refine at_test true h (by kernel_rfl) (fun hh => ?_) (fun hh => nomatch hh)
  refine wp_seq ?_
  refine at_regq [] { ts := [1, 2, 4, 5, 6, 7], os := [1, 2, 3, 4, 5] } [] gamOK hT h (by kernel_rfl) trivial fun a w h => then_normal (wp_ret (then_ret ?_))
  exact at_return (x0, ((0, (([] : List Int), ([] : List Int))), (false, ()))) [] h (by kernel_rfl) trivial (congrArg (fun z => (z.1, z.2.1, z.2.2, ())) (show ((x0, (0, (([] : List Int), ([] : List Int))), false)) = recodeR x0 x1 from by first | exact recodeR_n (by assumption) | (rw [← recodeR_y (by assumption), ← recU_y (recNo_t (by omega)), ← recD_y (recNo_t (by omega))]; done) | (rw [← recodeR_y (by assumption), ← recU_n (recNo_f (by omega) (by omega)), ← recD_n (recNo_f (by omega) (by omega))]; done)))
 ·have hzh1 : (validR x0) = true := notF h1
  have hvh1 := validR_t (notF h1)
  by_cases h2 : ((List.length x0.2.2.2.1 : Nat) : Int) = 0
  ·refine at_regq [{}, {}, { hint := some (aB false) }, {}, {}, {}, {}, { hint := some (aB true) }] { ts := [1, 2, 4, 5, 6, 7, 25], os := [1, 2, 3, 4, 5] } [Q_spec_IsValidRecoder x0, (AV.p (.c (.v (.bool (!(validR x0))))) = AV.p (.c (.v (.bool false)))), (AV.p (.c (.v (.bool (decide (((List.length x0.2.2.2.1 : Nat) : Int) = 0))))) = AV.p (.c (.v (.bool true))))] gamOK hT h (by kernel_rfl) ⟨(by exact hf0), hint_bool (h1), hint_bool (decide_eq_true h2), trivial⟩ fun a w h => then_normal ?_
   refine at_test true h (by kernel_rfl) (fun hh => ?_) (fun hh => nomatch hh)
   refine wp_seq ?_
   refine at_regq [] { ts := [1, 2, 4, 5, 6, 7], os := [1, 2, 3, 4, 5] } [] gamOK hT h (by kernel_rfl) trivial fun a w h => then_normal (wp_ret (then_ret ?_))
   exact at_return (x0, ((0, (([] : List Int), ([] : List Int))), (false, ()))) [] h (by kernel_rfl) trivial (congrArg (fun z => (z.1, z.2.1, z.2.2, ())) (show ((x0, (0, (([] : List Int), ([] : List Int))), false)) = recodeR x0 x1 from by first | exact recodeR_n (by assumption) | (rw [← recodeR_y (by assumption), ← recU_y (recNo_t (by omega)), ← recD_y (recNo_t (by omega))]; done) | (rw [← recodeR_y (by assumption), ← recU_n (recNo_f (by omega) (by omega)), ← recD_n (recNo_f (by omega) (by omega))]; done)))
  ·refine at_regq [{}, {}, { hint := some (aB false) }, {}, {}, {}, {}, { hint := some (aB false) }] { ts := [1, 2, 4, 5, 6, 7, 25], os := [1, 2, 3, 4, 5] } [Q_spec_IsValidRecoder x0, (AV.p (.c (.v (.bool (!(validR x0))))) = AV.p (.c (.v (.bool false)))), (AV.p (.c (.v (.bool (decide (((List.length x0.2.2.2.1 : Nat) : Int) = 0))))) = AV.p (.c (.v (.bool false))))] gamOK hT h (by kernel_rfl) ⟨(by exact hf0), hint_bool (h1), hint_bool (decide_eq_false h2), trivial⟩ fun a w h => then_normal ?_
   refine at_test (decide (x0.2.2.2.2 = 1000000000000)) h (by kernel_rfl) (fun h3 => ?_) (fun h3 => ?_)
   ·replace h3 : x0.2.2.2.2 = 1000000000000 := of_decide_eq_true h3
    refine wp_seq ?_
    refine at_regq [] { ts := [1, 2, 4, 5, 6, 7], os := [1, 2, 3, 4, 5] } [] gamOK hT h (by kernel_rfl) trivial fun a w h => then_normal (wp_ret (then_ret ?_))
    exact at_return (x0, ((0, (([] : List Int), ([] : List Int))), (false, ()))) [] h (by kernel_rfl) trivial (congrArg (fun z => (z.1, z.2.1, z.2.2, ())) (show ((x0, (0, (([] : List Int), ([] : List Int))), false)) = recodeR x0 x1 from by first | exact recodeR_n (by assumption) | (rw [← recodeR_y (by assumption), ← recU_y (recNo_t (by omega)), ← recD_y (recNo_t (by omega))]; done) | (rw [← recodeR_y (by assumption), ← recU_n (recNo_f (by omega) (by omega)), ← recD_n (recNo_f (by omega) (by omega))]; done)))
   ·replace h3 : ¬ (x0.2.2.2.2 = 1000000000000) := of_decide_eq_false h3
    refine wp_skip (then_normal (wp_seq ?_))
    refine at_anyq [{}, {}, {}, {}, {}, {}, {}, {}, { ids := [6] }, { ids := [7, 8] }, {}, {}, {}, { ids := [9] }, {}, {}] { ts := [2, 4, 5, 6, 7, 8, 9], os := [1, 2, 3, 4, 5, 7, 8, 9] } [Q_spec_l15Seed x0 x1, True, Q_spec_CombinePackets x0.2.2.2.1 (rndV (keyed x1 ([x0.1, x0.2.2.2.2])) ((List.length x0.2.2.2.1 : Nat) : Int))] gamOK hT mixed h (by kernel_rfl) ⟨(by exact hf0), trivial, (by exact ⟨hf0.2.2.2.1, (Sh.fit_len rfl (Nat.le_trans (rndV_len _ _) (by decide)))⟩), trivial⟩ fun a w h => then_normal (wp_seq ?_)
    refine at_regq [{}, {}, { nw := true }] { ts := [4, 5, 6, 7, 8, 9], os := [2, 3, 4, 5, 7, 8, 9] } [I64 (x0.2.2.2.2 + 1)] gamOK hT h (by kernel_rfl) ⟨⟨by first | omega | (simp only [lsA]; omega) | (simp <;> omega), by first | omega | (simp only [lsA]; omega) | (simp <;> omega)⟩, trivial⟩ fun a w h => then_normal (wp_seq ?_)
    refine at_anyq [{}, {}, {}, {}, {}, {}] { ts := [4, 5, 6], os := [2, 3, 4, 7, 8] } [] gamOK hT mixed h (by kernel_rfl) trivial fun a w h => then_normal (wp_ret ?_)
    exact at_return ((x0.1, (x0.2.1, (x0.2.2.1, (x0.2.2.2.1, x0.2.2.2.2 + 1)))), ((comP x0.2.2.2.1 (rndV (keyed x1 ([x0.1, x0.2.2.2.2])) ((List.length x0.2.2.2.1 : Nat) : Int))).1, ((comP x0.2.2.2.1 (rndV (keyed x1 ([x0.1, x0.2.2.2.2])) ((List.length x0.2.2.2.1 : Nat) : Int))).2, ()))) [] h (by kernel_rfl) trivial (congrArg (fun z => (z.1, z.2.1, z.2.2, ())) (show (((x0.1, (x0.2.1, (x0.2.2.1, (x0.2.2.2.1, x0.2.2.2.2 + 1)))), (comP x0.2.2.2.1 (rndV (keyed x1 ([x0.1, x0.2.2.2.2])) ((List.length x0.2.2.2.1 : Nat) : Int))).1, (comP x0.2.2.2.1 (rndV (keyed x1 ([x0.1, x0.2.2.2.2])) ((List.length x0.2.2.2.1 : Nat) : Int))).2)) = recodeR x0 x1 from by first | exact recodeR_n (by assumption) | (rw [← recodeR_y (by assumption), ← recU_y (recNo_t (by omega)), ← recD_y (recNo_t (by omega))]; done) | (rw [← recodeR_y (by assumption), ← recU_n (recNo_f (by omega) (by omega)), ← recD_n (recNo_f (by omega) (by omega))]; done)))

def codePk (g : T46) (cs : List Int) : T29 × Bool := if validG g = true ∧ validV cs = true ∧ cs.length = g.2.length then ((g.1, cs, combV g.2 cs), true) else ((0, [], []), false)
theorem codePk_y {g : T46} {cs : List Int} (h1 : validG g = true) (h2 : validV cs = true) (h3 : cs.length = g.2.length) : ((g.1, cs, combV g.2 cs), true) = codePk g cs := (if_pos ⟨h1, h2, h3⟩).symm
theorem codePk_n {g : T46} {cs : List Int} (h : validG g = false ∨ validV cs = false ∨ ¬ cs.length = g.2.length) : ((0, [], []), false) = codePk g cs := by
 unfold codePk; rw [if_neg]
 rintro ⟨h1, h2, h3⟩
 rcases h with h | h | h
 ·rw [h1] at h; cases h
 ·rw [h2] at h; cases h
 ·exact h h3
theorem genP {g : T46} (h : validG g = true) {cs : List Int} (hc : LA.VokB g.2.length cs) : combP g.2 cs := by
 have h1 := validG_t h
 have hm := validM_t h1.2.2.1
 have hk := validM_ok h1.2.2.1
 have h0 := (validV_t (hm.2 _ (getD_mem (z := []) (show 0 < g.2.length by omega))).1).1
 exact ⟨⟨by omega, by have := hc.1; omega, h0⟩, fun j hj => hk _ (LA.getD_in hj), fun j => hc.rng j⟩
theorem genC {g : T46} (h : validG g = true) {cs : List Int} (hc : LA.VokB g.2.length cs) : combV g.2 cs = combS g.2 cs := by
 have h1 := validG_t h
 have hm := validM_t h1.2.2.1
 refine (combV_y (by omega) hc.1.symm (validV_of hc (by omega)) ?_).symm
 rw [List.all_eq_true]; intro v hv
 have h2 := hm.2 v hv
 unfold cvB
 rw [Bool.and_eq_true]; exact ⟨h2.1, decide_eq_true h2.2⟩
abbrev Q_spec_CodePacket := (fun (x0 : T46) (x1 : (List Int)) => Sh.fit s46 x0 ∧ Sh.fit s27 x1)
def S_spec_CodePacket : Sum := { fid := 29, dom := [s46, s27], cod := [s29, (.bool 4)], dp := true, fz := false, pre := fun x => Q_spec_CodePacket x.1 x.2.1, g := fun x => ((codePk x.1 x.2.1).1, ((codePk x.1 x.2.1).2, ())) }
def S_spec_CodePacket_tab : List (Nat × Sum) := [(45, S_spec_IsValidGeneration), (46, S_spec_IsValidVector), (47, S_spec_Combine)]
theorem S_spec_CodePacket_ok : FnOK Tryd.prog 29 S_spec_CodePacket := by
 refine at_enter 33 (fun x => ⟨[(0, aG [cI x.1.1, .ro s27 x.1.2]), (1, aF (.int 3) x.2.1)], []⟩) Tryd.func29 rfl (by kernel_rfl) (fun x => rfl) ?_
 rintro w0 Z0 ⟨x0, x1, u⟩ a w
 revert x0 x1
 intro (x0 : T46) (x1 : (List Int)) hpre hlens h
 replace hpre : Q_spec_CodePacket x0 x1 := hpre
 have hT : TabOK Tryd.prog w0 [] S_spec_CodePacket_tab := (.cons S_spec_IsValidGeneration_ok (.cons S_spec_IsValidVector_ok (.cons S_spec_Combine_ok .nil)))
 obtain ⟨hf0, hf1⟩ := hpre
 have hn0_1 : List.length x0.2 ≤ 1073741824 := hf0.2.1
 have hn1_2 : List.length x1 ≤ 1073741824 := hf1.1
 refine wp_seq ?_
 refine at_regq [{ ids := [1] }, { ids := [2] }] { ts := [1, 2, 4, 5], os := [1, 2] } [] gamOK hT h (by kernel_rfl) trivial fun a w h => then_normal (wp_seq (wp_seq ?_))
 rcases Bool.eq_false_or_eq_true (!(validG x0)) with h1 | h1
 ·have hzh1 : (validG x0) = false := notT h1
  refine at_regq [{}, {}, { hint := some (aB true) }] { ts := [1, 2, 4, 5, 21], os := [1, 2] } [Q_spec_IsValidGeneration x0, (AV.p (.c (.v (.bool (!(validG x0))))) = AV.p (.c (.v (.bool true))))] gamOK hT h (by kernel_rfl) ⟨(by exact hf0), hint_bool (h1), trivial⟩ fun a w h => then_normal ?_
  refine at_test true h (by kernel_rfl) (fun hh => ?_) (fun hh => nomatch hh)
  refine wp_seq ?_
  refine at_regq [] { ts := [1, 2, 4, 5], os := [1, 2] } [] gamOK hT h (by kernel_rfl) trivial fun a w h => then_normal (wp_ret (then_ret ?_))
  exact at_return ((0, (([] : List Int), ([] : List Int))), (false, ())) [] h (by kernel_rfl) trivial (congrArg (fun z => (z.1, z.2, ())) (show (((0, (([] : List Int), ([] : List Int))), false)) = codePk x0 x1 from by first | exact codePk_n (by first | (left; assumption) | (right; left; assumption) | (right; right; omega)) | exact codePk_y (cs := x1) (by assumption) (by assumption) (by omega)))
 ·have hzh1 : (validG x0) = true := notF h1
  have hvh1 := validG_t (notF h1)
  rcases Bool.eq_false_or_eq_true (!(validV x1)) with h2 | h2
  ·have hzh2 : (validV x1) = false := notT h2
   refine at_regq [{}, {}, { hint := some (aB false) }, {}, {}, {}, { hint := some (aB true) }] { ts := [1, 2, 4, 5, 21], os := [1, 2] } [Q_spec_IsValidGeneration x0, (AV.p (.c (.v (.bool (!(validG x0))))) = AV.p (.c (.v (.bool false)))), Q_spec_IsValidVector x1, (AV.p (.c (.v (.bool (!(validV x1))))) = AV.p (.c (.v (.bool true))))] gamOK hT h (by kernel_rfl) ⟨(by exact hf0), hint_bool (h1), (by exact hf1), hint_bool (h2), trivial⟩ fun a w h => then_normal ?_
   refine at_test true h (by kernel_rfl) (fun hh => ?_) (fun hh => nomatch hh)
   refine wp_seq ?_
   refine at_regq [] { ts := [1, 2, 4, 5], os := [1, 2] } [] gamOK hT h (by kernel_rfl) trivial fun a w h => then_normal (wp_ret (then_ret ?_))
   exact at_return ((0, (([] : List Int), ([] : List Int))), (false, ())) [] h (by kernel_rfl) trivial (congrArg (fun z => (z.1, z.2, ())) (show (((0, (([] : List Int), ([] : List Int))), false)) = codePk x0 x1 from by first | exact codePk_n (by first | (left; assumption) | (right; left; assumption) | (right; right; omega)) | exact codePk_y (cs := x1) (by assumption) (by assumption) (by omega)))
  ·have hzh2 : (validV x1) = true := notF h2
   have hvh2 := validV_t (notF h2)
   refine at_regq [{}, {}, { hint := some (aB false) }, {}, {}, {}, { hint := some (aB false) }] { ts := [1, 2, 4, 5, 21], os := [1, 2] } [Q_spec_IsValidGeneration x0, (AV.p (.c (.v (.bool (!(validG x0))))) = AV.p (.c (.v (.bool false)))), Q_spec_IsValidVector x1, (AV.p (.c (.v (.bool (!(validV x1))))) = AV.p (.c (.v (.bool false))))] gamOK hT h (by kernel_rfl) ⟨(by exact hf0), hint_bool (h1), (by exact hf1), hint_bool (h2), trivial⟩ fun a w h => then_normal ?_
   refine at_test (!decide (((List.length x1 : Nat) : Int) = ((List.length x0.2 : Nat) : Int))) h (by kernel_rfl) (fun h3 => ?_) (fun h3 => ?_)
   ·replace h3 : ¬ (((List.length x1 : Nat) : Int) = ((List.length x0.2 : Nat) : Int)) := of_decide_eq_false (notT h3)
    refine wp_seq ?_
    refine at_regq [] { ts := [1, 2, 4, 5], os := [1, 2] } [] gamOK hT h (by kernel_rfl) trivial fun a w h => then_normal (wp_ret (then_ret ?_))
    exact at_return ((0, (([] : List Int), ([] : List Int))), (false, ())) [] h (by kernel_rfl) trivial (congrArg (fun z => (z.1, z.2, ())) (show (((0, (([] : List Int), ([] : List Int))), false)) = codePk x0 x1 from by first | exact codePk_n (by first | (left; assumption) | (right; left; assumption) | (right; right; omega)) | exact codePk_y (cs := x1) (by assumption) (by assumption) (by omega)))
   ·replace h3 : ((List.length x1 : Nat) : Int) = ((List.length x0.2 : Nat) : Int) := of_decide_eq_true (notF h3)
    refine wp_skip (then_normal (wp_seq ?_))
    refine at_anyq [{}, {}, { ids := [3] }, {}, { ids := [4] }, {}, {}, {}, { ids := [5] }, {}, {}, {}] { ts := [4, 5], os := [2, 4, 5] } [(List.length ([] : List Int) + List.length x1) * 8 ≤ 140737488355328, Q_spec_Combine x0.2 x1] gamOK hT mixed h (by kernel_rfl) ⟨(by first | omega | (simp only [lsA]; omega) | (simp <;> omega)), (by exact ⟨hf0.2, hf1⟩), trivial⟩ fun a w h => then_normal (wp_ret ?_)
    exact at_return ((x0.1, ((([] : List Int) ++ x1), (combV x0.2 x1))), (true, ())) [] h (by kernel_rfl) trivial (congrArg (fun z => (z.1, z.2, ())) (show (((x0.1, ((([] : List Int) ++ x1), (combV x0.2 x1))), true)) = codePk x0 x1 from by first | exact codePk_n (by first | (left; assumption) | (right; left; assumption) | (right; right; omega)) | exact codePk_y (cs := x1) (by assumption) (by assumption) (by omega)))

def and255 (z : Int) : Int := IntKind.i64.wrap ((BitVec.ofInt (IntKind.i64).bits z &&& BitVec.ofInt (IntKind.i64).bits 255).toNat : Int)
theorem and255_bd (z : Int) : 0 ≤ and255 z ∧ and255 z ≤ 255 := by
 unfold and255
 have e : (BitVec.ofInt (IntKind.i64).bits z &&& BitVec.ofInt (IntKind.i64).bits 255).toNat ≤ 255 := by
  rw [BitVec.toNat_and]
  have h2 : (BitVec.ofInt (IntKind.i64).bits 255).toNat = 255 := by decide
  rw [h2]; exact Nat.and_le_right
 rw [IntKind.wrap_i64]; omega
def lcgF (h : Int) : Int := IntKind.i64.wrap (IntKind.i64.wrap (h * 6364136223846793005) + 1442695040888963407)
def xorF (h : Int) : Int := IntKind.i64.wrap ((BitVec.ofInt (IntKind.i64).bits (Int.fdiv h (2 ^ (min (33 : Int).toNat (IntKind.i64).bits))) ^^^ BitVec.ofInt (IntKind.i64).bits (Int.fdiv h (2 ^ (min (47 : Int).toNat (IntKind.i64).bits)))).toNat : Int)
def hsF (h c : Int) : Int := IntKind.i64.wrap ((BitVec.ofInt (IntKind.i64).bits (IntKind.i64.wrap (IntKind.i64.wrap (IntKind.i64.wrap (h * 137) + c) + 11)) &&& BitVec.ofInt (IntKind.i64).bits 1073741823).toNat : Int)
def hsTo (code : List Int) : Nat → Int
 | 0 => 193017 + ((List.length code : Nat) : Int)
 | i + 1 => hsF (hsTo code i) (code.getD i 0)
def newC (code : List Int) : T60 := (code, 0, hsTo code (min (List.length code) 4000))
abbrev Q_spec_l1New := (fun (x0 : (List Int)) => Sh.fit s22 x0)
def B_spec_l1New : NS := { t := 60, s := s60, dom := [s22], pre := fun x => Q_spec_l1New x.1, g := fun x => (newC x.1) }
def S_spec_l1New : Sum := nSum 13 B_spec_l1New
def S_spec_l1New_tab : List (Nat × Sum) := []
theorem S_spec_l1New_ok : FnOK Tryd.prog 13 S_spec_l1New := by
 refine at_enterN (B := B_spec_l1New) 32 (fun x => ⟨[(0, aF (.u8 5) x.1)], []⟩) Tryd.func13 rfl (by kernel_rfl) (fun x => rfl) ?_
 rintro w0 Z0 ⟨x0, u⟩ a w
 revert x0
 intro (x0 : (List Int)) hpre hlens h
 replace h : At w0 Z0 [] 32 ⟨[(0, aF (.u8 5) x0)], []⟩ a w := h
 replace hpre : Q_spec_l1New x0 := hpre
 have hl1 : List.length x0 ≤ 9223372036854775807 := hlens.1.1
 have hu0 : u8L x0 := hlens.1.2
 have hT : TabOK Tryd.prog w0 [] S_spec_l1New_tab := .nil
 have hf0 : Sh.fit s22 x0 := hpre
 have hn0_1 : List.length x0 ≤ 1073741824 := hf0.1
 refine wp_seq ?_
 refine at_regq [] { ts := [0, 2], os := [] } [] gamOK hT h (by kernel_rfl) trivial fun a w h => then_normal (wp_seq ?_)
 refine at_regq [{}, {}, { nw := true }] { ts := [0, 2, 3], os := [] } [I64 (193017 + ((List.length x0 : Nat) : Int))] gamOK hT h (by kernel_rfl) ⟨⟨by first | omega | (simp only [lsA]; omega) | (simp <;> omega), by first | omega | (simp only [lsA]; omega) | (simp <;> omega)⟩, trivial⟩ fun a w h => then_normal (wp_seq (wp_seq ?_))
 refine at_regq [] { ts := [0, 2, 3, 4], os := [] } [] gamOK hT h (by kernel_rfl) trivial fun a w h => then_normal (wp_block ?_)
 replace h := at_out (σ' := ⟨[(0, aF (.u8 5) x0), (2, .p (.c (.v (.pointer none)))), (3, aI (193017 + ((List.length x0 : Nat) : Int))), (4, aI 0)], []⟩) { ts := [0, 2, 3, 4], os := [] } h (by kernel_rfl)
 refine at_loop (fun i : Nat => (⟨[(0, aF (.u8 5) x0), (2, .p (.c (.v (.pointer none)))), (3, aI (hsTo x0 i)), (4, aI ((i : Nat) : Int))], []⟩ : St)) (fun i => i ≤ (min (List.length x0) 4000)) (fun i => (min (List.length x0) 4000) - i) (0) h (st_congr2 (fun (d0 : Int) (d1 : Int) => (⟨[(0, aF (.u8 5) x0), (2, .p (.c (.v (.pointer none)))), (3, aI d0), (4, aI d1)], []⟩ : St)) (show (193017 + ((List.length x0 : Nat) : Int) : Int) = (hsTo x0 (0)) from by first | with_reducible rfl | (rfl) | rfl) (show (0 : Int) = (((0) : Nat) : Int) from by first | with_reducible rfl | (rfl) | rfl)) (by omega) ?_
 intro i a w hok0 h
 have hu1 := getD_u8 hu0 i
 refine wp_seq (wp_seq ?_)
 by_cases h1 : ((i : Nat) : Int) < ((List.length x0 : Nat) : Int)
 ·refine at_regq [{}, {}, {}, { hint := some (aB true) }] { ts := [0, 2, 3, 4, 13, 14, 15], os := [] } [(AV.p (.c (.v (.bool (decide (((i : Nat) : Int) < ((List.length x0 : Nat) : Int)))))) = AV.p (.c (.v (.bool true))))] gamOK hT h (by kernel_rfl) ⟨hint_bool (decide_eq_true h1), trivial⟩ fun a w h => then_normal ?_
  refine at_test (decide (((i : Nat) : Int) < 4000)) h (by kernel_rfl) (fun h2 => ?_) (fun h2 => ?_)
  ·replace h2 : ((i : Nat) : Int) < 4000 := of_decide_eq_true h2
   refine wp_skip (then_normal (wp_seq (wp_block ?_)))
   refine at_regq [{}, {}, {}, {}, {}, {}, { hint := some (aI (x0.getD i 0)) }, {}, {}, { hint := some (aI (hsF (hsTo x0 i) (x0.getD i 0))) }] { ts := [0, 2, 3, 4, 13, 14], os := [] } [(0 : Int) ≤ ((i : Nat) : Int) ∧ ((i : Nat) : Int) < ((List.length x0 : Nat) : Int), (AV.p (.c (.v (.int .i64 (IntKind.i64.wrap ((x0.getD i 0)))))) = AV.p (.c (.v (.int .i64 ((x0.getD i 0)))))), (AV.p (.c (.v (.int .i64 (IntKind.i64.wrap ((BitVec.ofInt (IntKind.i64).bits (IntKind.i64.wrap ((IntKind.i64.wrap ((IntKind.i64.wrap ((hsTo x0 i) * 137)) + (x0.getD i 0))) + 11)) &&& BitVec.ofInt (IntKind.i64).bits 1073741823).toNat : Int))))) = AV.p (.c (.v (.int .i64 ((hsF (hsTo x0 i) (x0.getD i 0)))))))] gamOK hT h (by kernel_rfl) ⟨(by refine ⟨?_, ?_⟩ <;> (first | omega | (simp only [lsA]; omega) | (simp <;> omega))), hint_int (wrap_id ⟨by first | omega | (simp only [lsA]; omega) | (simp <;> omega), by first | omega | (simp only [lsA]; omega) | (simp <;> omega)⟩), hint_int (by rfl), trivial⟩ fun a w h => in_normal (then_normal ?_)
   refine at_regq [{}, { nw := true }] { ts := [0, 2, 3, 4, 13, 14], os := [] } [I64 (((i : Nat) : Int) + 1)] gamOK hT h (by kernel_rfl) ⟨⟨by first | omega | (simp only [lsA]; omega) | (simp <;> omega), by first | omega | (simp only [lsA]; omega) | (simp <;> omega)⟩, trivial⟩ fun a w h => ?_
   replace h := at_out (σ' := ⟨[(0, aF (.u8 5) x0), (2, .p (.c (.v (.pointer none)))), (3, aI (hsF (hsTo x0 i) (x0.getD i 0))), (4, aI (((i : Nat) : Int) + 1))], []⟩) { ts := [0, 2, 3, 4], os := [] } h (by kernel_rfl)
   exact ⟨i + 1, at_eq h (st_congr2 (fun (d0 : Int) (d1 : Int) => (⟨[(0, aF (.u8 5) x0), (2, .p (.c (.v (.pointer none)))), (3, aI d0), (4, aI d1)], []⟩ : St)) (show ((hsF (hsTo x0 i) (x0.getD i 0)) : Int) = (hsTo x0 (i + 1)) from by first | with_reducible rfl | (rfl) | rfl) (show (((i : Nat) : Int) + 1 : Int) = (((i + 1) : Nat) : Int) from by first | with_reducible rfl | (omega) | rfl)), (by omega), (by omega)⟩
  ·replace h2 : ¬ (((i : Nat) : Int) < 4000) := of_decide_eq_false h2
   refine wp_exit (then_exit ?_)
   replace h := at_out (σ' := ⟨[(0, aF (.u8 5) x0), (2, .p (.c (.v (.pointer none)))), (3, aI (hsTo x0 i))], []⟩) { ts := [0, 2, 3], os := [] } h (by kernel_rfl)
   replace h := at_eq (σ' := ⟨[(0, aF (.u8 5) x0), (2, .p (.c (.v (.pointer none)))), (3, aI (hsTo x0 (min (List.length x0) 4000)))], []⟩) h (st_congr1 (fun (d0 : Int) => (⟨[(0, aF (.u8 5) x0), (2, .p (.c (.v (.pointer none)))), (3, aI d0)], []⟩ : St)) (show ((hsTo x0 i) : Int) = (hsTo x0 (min (List.length x0) 4000)) from by first | with_reducible rfl | (rw [show i = (min (List.length x0) 4000) by omega]) | rfl))
   refine then_exit (in_hit (then_normal (wp_seq ?_)))
   refine at_regq [{}, {}, {}, { ids := [1] }] { ts := [2], os := [1] } [] gamOK hT h (by kernel_rfl) trivial fun a w h => then_normal (wp_ret ?_)
   exact at_returnN (B := B_spec_l1New) (x := (x0, ())) ((x0, (0, (hsTo x0 (min (List.length x0) 4000))))) [] h (by kernel_rfl) trivial (show (x0, (0, (hsTo x0 (min (List.length x0) 4000)))) = newC x0 from by rfl)
 ·refine at_regq [{}, {}, {}, { hint := some (aB false) }] { ts := [0, 2, 3, 4, 13, 14, 15], os := [] } [(AV.p (.c (.v (.bool (decide (((i : Nat) : Int) < ((List.length x0 : Nat) : Int)))))) = AV.p (.c (.v (.bool false))))] gamOK hT h (by kernel_rfl) ⟨hint_bool (decide_eq_false h1), trivial⟩ fun a w h => then_normal ?_
  refine at_test false h (by kernel_rfl) (fun hh => nomatch hh) (fun hh => ?_)
  refine wp_exit (then_exit ?_)
  replace h := at_out (σ' := ⟨[(0, aF (.u8 5) x0), (2, .p (.c (.v (.pointer none)))), (3, aI (hsTo x0 i))], []⟩) { ts := [0, 2, 3], os := [] } h (by kernel_rfl)
  replace h := at_eq (σ' := ⟨[(0, aF (.u8 5) x0), (2, .p (.c (.v (.pointer none)))), (3, aI (hsTo x0 (min (List.length x0) 4000)))], []⟩) h (st_congr1 (fun (d0 : Int) => (⟨[(0, aF (.u8 5) x0), (2, .p (.c (.v (.pointer none)))), (3, aI d0)], []⟩ : St)) (show ((hsTo x0 i) : Int) = (hsTo x0 (min (List.length x0) 4000)) from by first | with_reducible rfl | (rw [show i = (min (List.length x0) 4000) by omega]) | rfl))
  refine then_exit (in_hit (then_normal (wp_seq ?_)))
  refine at_regq [{}, {}, {}, { ids := [1] }] { ts := [2], os := [1] } [] gamOK hT h (by kernel_rfl) trivial fun a w h => then_normal (wp_ret ?_)
  exact at_returnN (B := B_spec_l1New) (x := (x0, ())) ((x0, (0, (hsTo x0 (min (List.length x0) 4000))))) [] h (by kernel_rfl) trivial (show (x0, (0, (hsTo x0 (min (List.length x0) 4000)))) = newC x0 from by rfl)

@[irreducible]
def byteC (x0 : T60) : T60 × Int := (if x0.2.1 < ((List.length x0.1 : Nat) : Int) then ((x0.1, (x0.2.1 + 1, (lcgF x0.2.2))), (and255 (and255 (xorF (lcgF x0.2.2)) + x0.1.getD x0.2.1.toNat 0))) else ((x0.1, (x0.2.1, (lcgF x0.2.2))), (and255 (xorF (lcgF x0.2.2)))))
abbrev Q_spec_l1Byte := (fun (x0 : T60) => 0 ≤ x0.2.1)
def B_spec_l1Byte : BS := { t := 60, s := s60, dom := [], cod := [(.int 3)], pre := fun y x => Q_spec_l1Byte y, upd := fun y x => (byteC y).1, g := fun y x => ((byteC y).2, ()) }
def S_spec_l1Byte : Sum := bSum 26 B_spec_l1Byte
def S_spec_l1Byte_tab : List (Nat × Sum) := []
theorem S_spec_l1Byte_ok : FnOK Tryd.prog 26 S_spec_l1Byte := by
 refine at_enterB (B := B_spec_l1Byte) 58 (fun v y x => ⟨[(0, aP 1 0)], [(1, oX 60 [.ro (.u8 5) y.1, cI y.2.1, cI y.2.2]), (2, oP 1 v)]⟩) Tryd.func26 rfl (by kernel_rfl) (fun v y x => rfl) ?_
 rintro w0 Z0 b0 x0 ⟨u⟩ a w
 revert x0
 intro (x0 : T60) hpre hlens0 hlens h
 replace h : At w0 Z0 [b0] 58 ⟨[(0, aP 1 0)], [(1, oX 60 [.ro (.u8 5) x0.1, cI x0.2.1, cI x0.2.2]), (2, oP 1 (Value.pointer (some ⟨b0, 0, none⟩)))]⟩ a w := h
 replace hpre : Q_spec_l1Byte x0 := hpre
 have hl1 : List.length x0.1 ≤ 9223372036854775807 := hlens0.1.1
 have hu0 : u8L x0.1 := hlens0.1.2
 have hT : TabOK Tryd.prog w0 [b0] S_spec_l1Byte_tab := .nil
 have hp : (0 : Int) ≤ x0.2.1 := hpre
 refine wp_seq ?_
 refine at_regq [] { ts := [0, 2], os := [1, 2] } [] gamOK hT h (by kernel_rfl) trivial fun a w h => then_normal (wp_seq ?_)
 refine at_regq [{}, {}, {}, {}, {}, {}, { hint := some (aI (lcgF x0.2.2)) }] { ts := [0, 2], os := [1, 2] } [(AV.p (.c (.v (.int .i64 (IntKind.i64.wrap ((IntKind.i64.wrap (x0.2.2 * 6364136223846793005)) + 1442695040888963407))))) = AV.p (.c (.v (.int .i64 ((lcgF x0.2.2))))))] gamOK hT h (by kernel_rfl) ⟨hint_int (by rfl), trivial⟩ fun a w h => then_normal (wp_seq ?_)
 refine at_anyq [{}, {}, {}, {}, {}, {}, {}, {}, {}, {}, { hint := some (aI (xorF (lcgF x0.2.2))) }, { hint := some (aI (and255 (xorF (lcgF x0.2.2)))) }, {}] { ts := [0, 2, 3], os := [1, 2] } [(0 : Int) ≤ 33, (0 : Int) ≤ 47, (AV.p (.c (.v (.int .i64 (IntKind.i64.wrap ((BitVec.ofInt (IntKind.i64).bits (Int.fdiv (lcgF x0.2.2) (2 ^ (min (33 : Int).toNat (IntKind.i64).bits))) ^^^ BitVec.ofInt (IntKind.i64).bits (Int.fdiv (lcgF x0.2.2) (2 ^ (min (47 : Int).toNat (IntKind.i64).bits)))).toNat : Int))))) = AV.p (.c (.v (.int .i64 ((xorF (lcgF x0.2.2))))))), (AV.p (.c (.v (.int .i64 (IntKind.i64.wrap ((BitVec.ofInt (IntKind.i64).bits (xorF (lcgF x0.2.2)) &&& BitVec.ofInt (IntKind.i64).bits 255).toNat : Int))))) = AV.p (.c (.v (.int .i64 ((and255 (xorF (lcgF x0.2.2))))))))] gamOK hT mixed h (by kernel_rfl) ⟨(by first | omega | (simp only [lsA]; omega) | (simp <;> omega)), (by first | omega | (simp only [lsA]; omega) | (simp <;> omega)), hint_int (by rfl), hint_int (by rfl), trivial⟩ fun a w h => then_normal (wp_seq (wp_seq ?_))
 refine at_anyq [{}, {}, {}, {}, {}, {}, {}, {}, {}, {}] { ts := [0, 2, 3, 34], os := [1, 2] } [] gamOK hT mixed h (by kernel_rfl) trivial fun a w h => then_normal ?_
 refine at_test (decide (x0.2.1 < ((List.length x0.1 : Nat) : Int))) h (by kernel_rfl) (fun h1 => ?_) (fun h1 => ?_)
 ·replace h1 : x0.2.1 < ((List.length x0.1 : Nat) : Int) := of_decide_eq_true h1
  have hu1 := getD_u8 hu0 x0.2.1.toNat
  have ha1 := and255_bd (xorF (lcgF x0.2.2))
  refine wp_seq ?_
  refine at_anyq [{}, {}, {}, {}, {}, {}, {}, {}, {}, {}, {}, { hint := some (aI (x0.1.getD ((x0.2.1).toNat) 0)) }, { nw := true }, { hint := some (aI (and255 (and255 (xorF (lcgF x0.2.2)) + x0.1.getD x0.2.1.toNat 0))) }, {}] { ts := [0, 2, 3], os := [1, 2] } [(0 : Int) ≤ x0.2.1 ∧ x0.2.1 < ((List.length x0.1 : Nat) : Int), (AV.p (.c (.v (.int .i64 (IntKind.i64.wrap ((x0.1.getD ((x0.2.1).toNat) 0)))))) = AV.p (.c (.v (.int .i64 ((x0.1.getD ((x0.2.1).toNat) 0)))))), I64 ((and255 (xorF (lcgF x0.2.2))) + (x0.1.getD ((x0.2.1).toNat) 0)), (AV.p (.c (.v (.int .i64 (IntKind.i64.wrap ((BitVec.ofInt (IntKind.i64).bits ((and255 (xorF (lcgF x0.2.2))) + (x0.1.getD ((x0.2.1).toNat) 0)) &&& BitVec.ofInt (IntKind.i64).bits 255).toNat : Int))))) = AV.p (.c (.v (.int .i64 ((and255 (and255 (xorF (lcgF x0.2.2)) + x0.1.getD x0.2.1.toNat 0)))))))] gamOK hT mixed h (by kernel_rfl) ⟨(by refine ⟨?_, ?_⟩ <;> (first | omega | (simp only [lsA]; omega) | (simp <;> omega))), hint_int (wrap_id ⟨by first | omega | (simp only [lsA]; omega) | (simp <;> omega), by first | omega | (simp only [lsA]; omega) | (simp <;> omega)⟩), ⟨by first | omega | (simp only [lsA]; omega) | (simp <;> omega), by first | omega | (simp only [lsA]; omega) | (simp <;> omega)⟩, hint_int (by rfl), trivial⟩ fun a w h => then_normal ?_
  refine at_regq [{}, {}, {}, {}, {}, { nw := true }] { ts := [2, 3], os := [1, 2] } [I64 (x0.2.1 + 1)] gamOK hT h (by kernel_rfl) ⟨⟨by first | omega | (simp only [lsA]; omega) | (simp <;> omega), by first | omega | (simp only [lsA]; omega) | (simp <;> omega)⟩, trivial⟩ fun a w h => then_normal (wp_seq ?_)
  refine at_regq [] { ts := [2], os := [1, 2] } [] gamOK hT h (by kernel_rfl) trivial fun a w h => then_normal (wp_ret ?_)
  have hr2 : (((x0.1, (x0.2.1 + 1, (lcgF x0.2.2))), (and255 (and255 (xorF (lcgF x0.2.2)) + x0.1.getD x0.2.1.toNat 0))) : T60 × Int) = byteC x0 := by (unfold byteC; rw [if_pos h1])
  exact at_returnB (B := B_spec_l1Byte) (c0 := x0) (x := (())) ((x0.1, (x0.2.1 + 1, (lcgF x0.2.2)))) ((and255 (and255 (xorF (lcgF x0.2.2)) + x0.1.getD x0.2.1.toNat 0)), ()) [(Value.pointer (some ⟨b0, 0, none⟩)) = (Value.pointer (some ⟨b0, 0, none⟩))] h (by kernel_rfl) ⟨rfl, trivial⟩ (congrArg (a₁ := ((x0.1, (x0.2.1 + 1, (lcgF x0.2.2))), (and255 (and255 (xorF (lcgF x0.2.2)) + x0.1.getD x0.2.1.toNat 0)))) (a₂ := byteC x0) (fun (z : T60 × Int) => z.1) hr2) (congrArg (a₁ := ((x0.1, (x0.2.1 + 1, (lcgF x0.2.2))), (and255 (and255 (xorF (lcgF x0.2.2)) + x0.1.getD x0.2.1.toNat 0)))) (a₂ := byteC x0) (fun (z : T60 × Int) => (z.2, ())) hr2)
 ·replace h1 : ¬ (x0.2.1 < ((List.length x0.1 : Nat) : Int)) := of_decide_eq_false h1
  refine wp_skip (then_normal (wp_seq ?_))
  refine at_regq [] { ts := [2], os := [1, 2] } [] gamOK hT h (by kernel_rfl) trivial fun a w h => then_normal (wp_ret ?_)
  have hr3 : (((x0.1, (x0.2.1, (lcgF x0.2.2))), (and255 (xorF (lcgF x0.2.2)))) : T60 × Int) = byteC x0 := by (unfold byteC; rw [if_neg h1])
  exact at_returnB (B := B_spec_l1Byte) (c0 := x0) (x := (())) ((x0.1, (x0.2.1, (lcgF x0.2.2)))) ((and255 (xorF (lcgF x0.2.2))), ()) [(Value.pointer (some ⟨b0, 0, none⟩)) = (Value.pointer (some ⟨b0, 0, none⟩))] h (by kernel_rfl) ⟨rfl, trivial⟩ (congrArg (a₁ := ((x0.1, (x0.2.1, (lcgF x0.2.2))), (and255 (xorF (lcgF x0.2.2))))) (a₂ := byteC x0) (fun (z : T60 × Int) => z.1) hr3) (congrArg (a₁ := ((x0.1, (x0.2.1, (lcgF x0.2.2))), (and255 (xorF (lcgF x0.2.2))))) (a₂ := byteC x0) (fun (z : T60 × Int) => (z.2, ())) hr3)
theorem byte_bd (x : T60) : 0 ≤ (byteC x).2 ∧ (byteC x).2 ≤ 255 := by
 unfold byteC; split <;> exact and255_bd _
theorem byte_ok {x : T60} (h : 0 ≤ x.2.1) : 0 ≤ (byteC x).1.2.1 := by
 unfold byteC; split
 ·show (0 : Int) ≤ x.2.1 + 1; omega
 ·exact h

@[irreducible]
def belowC (x0 : T60) (x1 : Int) : T60 × Int := (if x1 ≤ 0 then (x0, 0) else (if x1 ≤ 256 then ((byteC x0).1, (Int.tmod (byteC x0).2 x1)) else ((byteC (byteC (byteC x0).1).1).1, (Int.tmod ((((byteC x0).2 * 65536) + ((byteC (byteC x0).1).2 * 256)) + (byteC (byteC (byteC x0).1).1).2) x1))))
abbrev Q_spec_l1Below := (fun (x0 : T60) (x1 : Int) => 0 ≤ x0.2.1)
def B_spec_l1Below : BS := { t := 60, s := s60, dom := [(.int 3)], cod := [(.int 3)], pre := fun y x => Q_spec_l1Below y x.1, upd := fun y x => (belowC y x.1).1, g := fun y x => ((belowC y x.1).2, ()) }
def S_spec_l1Below : Sum := bSum 14 B_spec_l1Below
def S_spec_l1Below_tab : List (Nat × Sum) := [(26, S_spec_l1Byte)]
theorem S_spec_l1Below_ok : FnOK Tryd.prog 14 S_spec_l1Below := by
 refine at_enterB (B := B_spec_l1Below) 31 (fun v y x => ⟨[(0, aP 1 0), (1, aI x.1)], [(1, oX 60 [.ro (.u8 5) y.1, cI y.2.1, cI y.2.2]), (2, oP 1 v)]⟩) Tryd.func14 rfl (by kernel_rfl) (fun v y x => rfl) ?_
 rintro w0 Z0 b0 x0 ⟨x1, u⟩ a w
 revert x0 x1
 intro (x0 : T60) (x1 : Int) hpre hlens0 hlens h
 replace h : At w0 Z0 [b0] 31 ⟨[(0, aP 1 0), (1, aI x1)], [(1, oX 60 [.ro (.u8 5) x0.1, cI x0.2.1, cI x0.2.2]), (2, oP 1 (Value.pointer (some ⟨b0, 0, none⟩)))]⟩ a w := h
 replace hpre : Q_spec_l1Below x0 x1 := hpre
 have hl1 : List.length x0.1 ≤ 9223372036854775807 := hlens0.1.1
 have hu0 : u8L x0.1 := hlens0.1.2
 have hT : TabOK Tryd.prog w0 [b0] S_spec_l1Below_tab := (.cons S_spec_l1Byte_ok .nil)
 have hb1 := byte_ok hpre
 have hb2 := byte_ok hb1
 have hb3 := byte_ok hb2
 have hd1 := byte_bd x0
 have hd2 := byte_bd (byteC x0).1
 have hd3 := byte_bd (byteC (byteC x0).1).1
 refine wp_seq ?_
 refine at_regq [] { ts := [0, 1, 4], os := [1, 2] } [] gamOK hT h (by kernel_rfl) trivial fun a w h => then_normal (wp_seq (wp_seq ?_))
 refine at_regq [] { ts := [0, 1, 4, 9], os := [1, 2] } [] gamOK hT h (by kernel_rfl) trivial fun a w h => then_normal ?_
 refine at_test (decide (x1 ≤ 0)) h (by kernel_rfl) (fun h1 => ?_) (fun h1 => ?_)
 ·replace h1 : x1 ≤ 0 := of_decide_eq_true h1
  refine wp_seq ?_
  refine at_regq [] { ts := [0, 1, 4], os := [1, 2] } [] gamOK hT h (by kernel_rfl) trivial fun a w h => then_normal (wp_ret (then_ret ?_))
  have hr2 : ((x0, 0) : T60 × Int) = belowC x0 x1 := by (unfold belowC; rw [if_pos h1])
  exact at_returnB (B := B_spec_l1Below) (c0 := x0) (x := (x1, ())) (x0) (0, ()) [(Value.pointer (some ⟨b0, 0, none⟩)) = (Value.pointer (some ⟨b0, 0, none⟩))] h (by kernel_rfl) ⟨rfl, trivial⟩ (congrArg (a₁ := (x0, 0)) (a₂ := belowC x0 x1) (fun (z : T60 × Int) => z.1) hr2) (congrArg (a₁ := (x0, 0)) (a₂ := belowC x0 x1) (fun (z : T60 × Int) => (z.2, ())) hr2)
 ·replace h1 : ¬ (x1 ≤ 0) := of_decide_eq_false h1
  refine wp_skip (then_normal (wp_seq (wp_seq ?_)))
  refine at_regq [] { ts := [0, 1, 4, 11], os := [1, 2] } [] gamOK hT h (by kernel_rfl) trivial fun a w h => then_normal ?_
  refine at_test (decide (x1 ≤ 256)) h (by kernel_rfl) (fun h3 => ?_) (fun h3 => ?_)
  ·replace h3 : x1 ≤ 256 := of_decide_eq_true h3
   refine wp_seq ?_
   refine at_regq [] { ts := [0, 1, 4], os := [1, 2] } [B_spec_l1Byte.pre x0 (()), (x1 : Int) ≠ 0] gamOK hT h (by kernel_rfl) ⟨(by first | exact hpre | exact hb1 | exact hb2 | exact hb3), (by first | omega | (simp only [lsA]; omega) | (simp <;> omega)), trivial⟩ fun a w h => then_normal (wp_ret (then_ret ?_))
   have hr4 : (((byteC x0).1, (Int.tmod (byteC x0).2 x1)) : T60 × Int) = belowC x0 x1 := by (unfold belowC; rw [if_neg h1, if_pos h3])
   exact at_returnB (B := B_spec_l1Below) (c0 := x0) (x := (x1, ())) ((byteC x0).1) ((Int.tmod (byteC x0).2 x1), ()) [(Value.pointer (some ⟨b0, 0, none⟩)) = (Value.pointer (some ⟨b0, 0, none⟩))] h (by kernel_rfl) ⟨rfl, trivial⟩ (congrArg (a₁ := ((byteC x0).1, (Int.tmod (byteC x0).2 x1))) (a₂ := belowC x0 x1) (fun (z : T60 × Int) => z.1) hr4) (congrArg (a₁ := ((byteC x0).1, (Int.tmod (byteC x0).2 x1))) (a₂ := belowC x0 x1) (fun (z : T60 × Int) => (z.2, ())) hr4)
  ·replace h3 : ¬ (x1 ≤ 256) := of_decide_eq_false h3
   refine wp_skip (then_normal (wp_seq ?_))
   refine at_regq [] { ts := [0, 1, 4, 5], os := [1, 2] } [B_spec_l1Byte.pre x0 (())] gamOK hT h (by kernel_rfl) ⟨(by first | exact hpre | exact hb1 | exact hb2 | exact hb3), trivial⟩ fun a w h => then_normal (wp_seq ?_)
   refine at_regq [] { ts := [0, 1, 4, 5, 6], os := [1, 2] } [B_spec_l1Byte.pre (byteC x0).1 (())] gamOK hT h (by kernel_rfl) ⟨(by first | exact hpre | exact hb1 | exact hb2 | exact hb3), trivial⟩ fun a w h => then_normal (wp_seq ?_)
   refine at_regq [] { ts := [1, 4, 5, 6, 7], os := [1, 2] } [B_spec_l1Byte.pre (byteC (byteC x0).1).1 (())] gamOK hT h (by kernel_rfl) ⟨(by first | exact hpre | exact hb1 | exact hb2 | exact hb3), trivial⟩ fun a w h => then_normal (wp_seq ?_)
   refine at_regq [{}, { nw := true }, {}, { nw := true }, { nw := true }, {}, { nw := true }] { ts := [4], os := [1, 2] } [I64 ((byteC x0).2 * 65536), I64 ((byteC (byteC x0).1).2 * 256), I64 (((byteC x0).2 * 65536) + ((byteC (byteC x0).1).2 * 256)), I64 ((((byteC x0).2 * 65536) + ((byteC (byteC x0).1).2 * 256)) + (byteC (byteC (byteC x0).1).1).2), (x1 : Int) ≠ 0] gamOK hT h (by kernel_rfl) ⟨⟨by first | omega | (simp only [lsA]; omega) | (simp <;> omega), by first | omega | (simp only [lsA]; omega) | (simp <;> omega)⟩, ⟨by first | omega | (simp only [lsA]; omega) | (simp <;> omega), by first | omega | (simp only [lsA]; omega) | (simp <;> omega)⟩, ⟨by first | omega | (simp only [lsA]; omega) | (simp <;> omega), by first | omega | (simp only [lsA]; omega) | (simp <;> omega)⟩, ⟨by first | omega | (simp only [lsA]; omega) | (simp <;> omega), by first | omega | (simp only [lsA]; omega) | (simp <;> omega)⟩, (by first | omega | (simp only [lsA]; omega) | (simp <;> omega)), trivial⟩ fun a w h => then_normal (wp_ret ?_)
   have hr5 : (((byteC (byteC (byteC x0).1).1).1, (Int.tmod ((((byteC x0).2 * 65536) + ((byteC (byteC x0).1).2 * 256)) + (byteC (byteC (byteC x0).1).1).2) x1)) : T60 × Int) = belowC x0 x1 := by (unfold belowC; rw [if_neg h1, if_neg h3])
   exact at_returnB (B := B_spec_l1Below) (c0 := x0) (x := (x1, ())) ((byteC (byteC (byteC x0).1).1).1) ((Int.tmod ((((byteC x0).2 * 65536) + ((byteC (byteC x0).1).2 * 256)) + (byteC (byteC (byteC x0).1).1).2) x1), ()) [(Value.pointer (some ⟨b0, 0, none⟩)) = (Value.pointer (some ⟨b0, 0, none⟩))] h (by kernel_rfl) ⟨rfl, trivial⟩ (congrArg (a₁ := ((byteC (byteC (byteC x0).1).1).1, (Int.tmod ((((byteC x0).2 * 65536) + ((byteC (byteC x0).1).2 * 256)) + (byteC (byteC (byteC x0).1).1).2) x1))) (a₂ := belowC x0 x1) (fun (z : T60 × Int) => z.1) hr5) (congrArg (a₁ := ((byteC (byteC (byteC x0).1).1).1, (Int.tmod ((((byteC x0).2 * 65536) + ((byteC (byteC x0).1).2 * 256)) + (byteC (byteC (byteC x0).1).1).2) x1))) (a₂ := belowC x0 x1) (fun (z : T60 × Int) => (z.2, ())) hr5)
theorem below_ok {x : T60} {n : Int} (h : 0 ≤ x.2.1) : 0 ≤ (belowC x n).1.2.1 := by
 unfold belowC
 split
 ·exact h
 ·split
  ·exact byte_ok h
  ·exact byte_ok (byte_ok (byte_ok h))
theorem below_bd (x : T60) {n : Int} (h : 0 < n) : 0 ≤ (belowC x n).2 ∧ (belowC x n).2 < n := by
 unfold belowC
 rw [if_neg (by omega)]
 have hd1 := byte_bd x; have hd2 := byte_bd (byteC x).1; have hd3 := byte_bd (byteC (byteC x).1).1
 split
 ·exact LA.tmod_lt hd1.1 h
 ·exact LA.tmod_lt (by first | omega | (dsimp only; omega)) h

def onceC (x0 : T60) (x1 : Int) : T60 × Bool := ((belowC x0 x1).1, decide ((belowC x0 x1).2 = 0))
abbrev Q_spec_l1Once := (fun (x0 : T60) (x1 : Int) => 0 ≤ x0.2.1)
def B_spec_l1Once : BS := { t := 60, s := s60, dom := [(.int 3)], cod := [(.bool 4)], pre := fun y x => Q_spec_l1Once y x.1, upd := fun y x => (onceC y x.1).1, g := fun y x => ((onceC y x.1).2, ()) }
def S_spec_l1Once : Sum := bSum 18 B_spec_l1Once
def S_spec_l1Once_tab : List (Nat × Sum) := [(14, S_spec_l1Below)]
theorem S_spec_l1Once_ok : FnOK Tryd.prog 18 S_spec_l1Once := by
 refine at_enterB (B := B_spec_l1Once) 9 (fun v y x => ⟨[(0, aP 1 0), (1, aI x.1)], [(1, oX 60 [.ro (.u8 5) y.1, cI y.2.1, cI y.2.2]), (2, oP 1 v)]⟩) Tryd.func18 rfl (by kernel_rfl) (fun v y x => rfl) ?_
 rintro w0 Z0 b0 x0 ⟨x1, u⟩ a w
 revert x0 x1
 intro (x0 : T60) (x1 : Int) hpre hlens0 hlens h
 replace h : At w0 Z0 [b0] 9 ⟨[(0, aP 1 0), (1, aI x1)], [(1, oX 60 [.ro (.u8 5) x0.1, cI x0.2.1, cI x0.2.2]), (2, oP 1 (Value.pointer (some ⟨b0, 0, none⟩)))]⟩ a w := h
 replace hpre : Q_spec_l1Once x0 x1 := hpre
 have hl1 : List.length x0.1 ≤ 9223372036854775807 := hlens0.1.1
 have hu0 : u8L x0.1 := hlens0.1.2
 have hT : TabOK Tryd.prog w0 [b0] S_spec_l1Once_tab := (.cons S_spec_l1Below_ok .nil)
 refine wp_seq ?_
 refine at_regq [] { ts := [0, 1, 4], os := [1, 2] } [] gamOK hT h (by kernel_rfl) trivial fun a w h => then_normal (wp_seq ?_)
 refine at_regq [] { ts := [4], os := [1, 2] } [B_spec_l1Below.pre x0 (x1, ())] gamOK hT h (by kernel_rfl) ⟨(by exact hpre), trivial⟩ fun a w h => then_normal (wp_ret ?_)
 have hr1 : (((belowC x0 x1).1, decide ((belowC x0 x1).2 = 0)) : T60 × Bool) = onceC x0 x1 := by rfl
 exact at_returnB (B := B_spec_l1Once) (c0 := x0) (x := (x1, ())) ((belowC x0 x1).1) (decide ((belowC x0 x1).2 = 0), ()) [(Value.pointer (some ⟨b0, 0, none⟩)) = (Value.pointer (some ⟨b0, 0, none⟩))] h (by kernel_rfl) ⟨rfl, trivial⟩ (congrArg (a₁ := ((belowC x0 x1).1, decide ((belowC x0 x1).2 = 0))) (a₂ := onceC x0 x1) (fun (z : T60 × Bool) => z.1) hr1) (congrArg (a₁ := ((belowC x0 x1).1, decide ((belowC x0 x1).2 = 0))) (a₂ := onceC x0 x1) (fun (z : T60 × Bool) => (z.2, ())) hr1)
theorem once_ok {x : T60} {n : Int} (h : 0 ≤ x.2.1) : 0 ≤ (onceC x n).1.2.1 := below_ok h

def bigF (x0 : (List Int)) : Bool := decide (((List.length x0 : Nat) : Int) > 1048576)
def S_laws_big : Sum := { fid := 4, dom := [s22], cod := [(.bool 4)], dp := true, fz := false, pre := fun x => True, g := fun x => ((bigF x.1), ()) }
def S_laws_big_tab : List (Nat × Sum) := []
theorem S_laws_big_ok : FnOK Tryd.prog 4 S_laws_big := by
 refine at_enter 6 (fun x => ⟨[(0, aF (.u8 5) x.1)], []⟩) Tryd.func4 rfl (by kernel_rfl) (fun x => rfl) ?_
 rintro w0 Z0 ⟨x0, u⟩ a w
 revert x0
 intro (x0 : (List Int)) hpre hlens h
 have hl1 : List.length x0 ≤ 9223372036854775807 := hlens.1.1
 have hu0 : u8L x0 := hlens.1.2
 have hT : TabOK Tryd.prog w0 [] S_laws_big_tab := .nil
 refine wp_seq ?_
 refine at_regq [] { ts := [0, 2], os := [] } [] gamOK hT h (by kernel_rfl) trivial fun a w h => then_normal (wp_seq ?_)
 refine at_regq [] { ts := [2], os := [] } [] gamOK hT h (by kernel_rfl) trivial fun a w h => then_normal (wp_ret ?_)
 exact at_return (decide (((List.length x0 : Nat) : Int) > 1048576), ()) [] h (by kernel_rfl) trivial (congrArg (fun z => (z, ())) (show (decide (((List.length x0 : Nat) : Int) > 1048576)) = bigF x0 from by rfl))
theorem big_f {x : List Int} (h : bigF x = false) : List.length x ≤ 1048576 := by
 have := of_decide_eq_false h; omega

def pickC (x0 : T60) (x1 : (List Int)) : T60 × Int := ((belowC x0 ((List.length x1 : Nat) : Int)).1, (x1.getD (((belowC x0 ((List.length x1 : Nat) : Int)).2).toNat) 0))
abbrev Q_spec_l1Int := (fun (x0 : T60) (x1 : List Int) => 0 ≤ x0.2.1 ∧ (0 < List.length x1 ∧ List.length x1 ≤ 1000))
def B_spec_l1Int : BS := { t := 60, s := s60, dom := [s27], cod := [(.int 3)], pre := fun y x => Q_spec_l1Int y x.1, upd := fun y x => (pickC y x.1).1, g := fun y x => ((pickC y x.1).2, ()) }
def S_spec_l1Int : Sum := bSum 19 B_spec_l1Int
def S_spec_l1Int_tab : List (Nat × Sum) := [(14, S_spec_l1Below)]
theorem S_spec_l1Int_ok : FnOK Tryd.prog 19 S_spec_l1Int := by
 refine at_enterB (B := B_spec_l1Int) 12 (fun v y x => ⟨[(0, aP 1 0), (1, aF (.int 3) x.1)], [(1, oX 60 [.ro (.u8 5) y.1, cI y.2.1, cI y.2.2]), (2, oP 1 v)]⟩) Tryd.func19 rfl (by kernel_rfl) (fun v y x => rfl) ?_
 rintro w0 Z0 b0 x0 ⟨x1, u⟩ a w
 revert x0 x1
 intro (x0 : T60) (x1 : (List Int)) hpre hlens0 hlens h
 replace h : At w0 Z0 [b0] 12 ⟨[(0, aP 1 0), (1, aF (.int 3) x1)], [(1, oX 60 [.ro (.u8 5) x0.1, cI x0.2.1, cI x0.2.2]), (2, oP 1 (Value.pointer (some ⟨b0, 0, none⟩)))]⟩ a w := h
 replace hpre : Q_spec_l1Int x0 x1 := hpre
 have hl1 : List.length x0.1 ≤ 9223372036854775807 := hlens0.1.1
 have hu0 : u8L x0.1 := hlens0.1.2
 have hl2 : List.length x1 ≤ 9223372036854775807 := hlens.1.1
 have hT : TabOK Tryd.prog w0 [b0] S_spec_l1Int_tab := (.cons S_spec_l1Below_ok .nil)
 have hp1 := hpre.1
 have hp2 := hpre.2.1
 have hp3 := hpre.2.2
 have hb := below_bd x0 (n := ((List.length x1 : Nat) : Int)) (by omega)
 refine wp_seq ?_
 refine at_regq [] { ts := [0, 1, 4], os := [1, 2] } [] gamOK hT h (by kernel_rfl) trivial fun a w h => then_normal (wp_seq ?_)
 refine at_regq [] { ts := [4], os := [1, 2] } [B_spec_l1Below.pre x0 (((List.length x1 : Nat) : Int), ()), (0 : Int) ≤ (belowC x0 ((List.length x1 : Nat) : Int)).2 ∧ (belowC x0 ((List.length x1 : Nat) : Int)).2 < ((List.length x1 : Nat) : Int)] gamOK hT h (by kernel_rfl) ⟨(by exact hpre.1), (by refine ⟨?_, ?_⟩ <;> (first | omega | (simp only [lsA]; omega) | (simp <;> omega))), trivial⟩ fun a w h => then_normal (wp_ret ?_)
 have hr1 : (((belowC x0 ((List.length x1 : Nat) : Int)).1, (x1.getD (((belowC x0 ((List.length x1 : Nat) : Int)).2).toNat) 0)) : T60 × Int) = pickC x0 x1 := by rfl
 exact at_returnB (B := B_spec_l1Int) (c0 := x0) (x := (x1, ())) ((belowC x0 ((List.length x1 : Nat) : Int)).1) ((x1.getD (((belowC x0 ((List.length x1 : Nat) : Int)).2).toNat) 0), ()) [(Value.pointer (some ⟨b0, 0, none⟩)) = (Value.pointer (some ⟨b0, 0, none⟩))] h (by kernel_rfl) ⟨rfl, trivial⟩ (congrArg (a₁ := ((belowC x0 ((List.length x1 : Nat) : Int)).1, (x1.getD (((belowC x0 ((List.length x1 : Nat) : Int)).2).toNat) 0))) (a₂ := pickC x0 x1) (fun (z : T60 × Int) => z.1) hr1) (congrArg (a₁ := ((belowC x0 ((List.length x1 : Nat) : Int)).1, (x1.getD (((belowC x0 ((List.length x1 : Nat) : Int)).2).toNat) 0))) (a₂ := pickC x0 x1) (fun (z : T60 × Int) => (z.2, ())) hr1)
theorem pickC_ok {x : T60} {l : List Int} (h : 0 ≤ x.2.1) : 0 ≤ (pickC x l).1.2.1 := below_ok h
theorem pickC_mem {x : T60} {l : List Int} (h : 0 < List.length l) : (pickC x l).2 ∈ l := by
 have hb := below_bd x (n := ((List.length l : Nat) : Int)) (by omega)
 exact getD_mem (by omega)

def elemC (x0 : T60) : T60 × Int := ((belowC x0 1019).1, (belowC x0 1019).2)
abbrev Q_spec_l4Element := (fun (x0 : T60) => 0 ≤ x0.2.1)
def B_spec_l4Element : BS := { t := 60, s := s60, dom := [], cod := [(.int 3)], pre := fun y x => Q_spec_l4Element y, upd := fun y x => (elemC y).1, g := fun y x => ((elemC y).2, ()) }
def S_spec_l4Element : Sum := bSum 48 B_spec_l4Element
def S_spec_l4Element_tab : List (Nat × Sum) := [(14, S_spec_l1Below)]
theorem S_spec_l4Element_ok : FnOK Tryd.prog 48 S_spec_l4Element := by
 refine at_enterB (B := B_spec_l4Element) 5 (fun v y x => ⟨[(0, aP 1 0)], [(1, oX 60 [.ro (.u8 5) y.1, cI y.2.1, cI y.2.2]), (2, oP 1 v)]⟩) Tryd.func48 rfl (by kernel_rfl) (fun v y x => rfl) ?_
 rintro w0 Z0 b0 x0 ⟨u⟩ a w
 revert x0
 intro (x0 : T60) hpre hlens0 hlens h
 replace h : At w0 Z0 [b0] 5 ⟨[(0, aP 1 0)], [(1, oX 60 [.ro (.u8 5) x0.1, cI x0.2.1, cI x0.2.2]), (2, oP 1 (Value.pointer (some ⟨b0, 0, none⟩)))]⟩ a w := h
 replace hpre : Q_spec_l4Element x0 := hpre
 have hl1 : List.length x0.1 ≤ 9223372036854775807 := hlens0.1.1
 have hu0 : u8L x0.1 := hlens0.1.2
 have hT : TabOK Tryd.prog w0 [b0] S_spec_l4Element_tab := (.cons S_spec_l1Below_ok .nil)
 refine wp_seq ?_
 refine at_regq [] { ts := [0, 2], os := [1, 2] } [] gamOK hT h (by kernel_rfl) trivial fun a w h => then_normal (wp_seq ?_)
 refine at_regq [] { ts := [2], os := [1, 2] } [B_spec_l1Below.pre x0 (1019, ())] gamOK hT h (by kernel_rfl) ⟨(by exact hpre), trivial⟩ fun a w h => then_normal (wp_ret ?_)
 have hr1 : (((belowC x0 1019).1, (belowC x0 1019).2) : T60 × Int) = elemC x0 := by rfl
 exact at_returnB (B := B_spec_l4Element) (c0 := x0) (x := (())) ((belowC x0 1019).1) ((belowC x0 1019).2, ()) [(Value.pointer (some ⟨b0, 0, none⟩)) = (Value.pointer (some ⟨b0, 0, none⟩))] h (by kernel_rfl) ⟨rfl, trivial⟩ (congrArg (a₁ := ((belowC x0 1019).1, (belowC x0 1019).2)) (a₂ := elemC x0) (fun (z : T60 × Int) => z.1) hr1) (congrArg (a₁ := ((belowC x0 1019).1, (belowC x0 1019).2)) (a₂ := elemC x0) (fun (z : T60 × Int) => (z.2, ())) hr1)
theorem elem_ok {x : T60} (h : 0 ≤ x.2.1) : 0 ≤ (elemC x).1.2.1 := below_ok h
theorem elem_bd (x : T60) : LA.El (elemC x).2 := by have := below_bd x (n := 1019) (by decide); show 0 ≤ _ ∧ _ ≤ 1018; unfold elemC; dsimp only; omega
def vecS (q : T60 × List Int) : T60 × List Int := if (onceC q.1 3).2 = true then ((onceC q.1 3).1, q.2 ++ [0]) else ((elemC (onceC q.1 3).1).1, q.2 ++ [(elemC (onceC q.1 3).1).2])
def vecIt (x : T60) : Nat → T60 × List Int
 | 0 => (x, [])
 | i + 1 => vecS (vecIt x i)
theorem vecIt_y {x : T60} {i : Nat} (h : (onceC (vecIt x i).1 3).2 = true) : vecIt x (i + 1) = ((onceC (vecIt x i).1 3).1, (vecIt x i).2 ++ [0]) := if_pos h
theorem vecIt_n {x : T60} {i : Nat} (h : (onceC (vecIt x i).1 3).2 = false) : vecIt x (i + 1) = ((elemC (onceC (vecIt x i).1 3).1).1, (vecIt x i).2 ++ [(elemC (onceC (vecIt x i).1 3).1).2]) := if_neg (by rw [h]; decide)
theorem vecIt_inv {x : T60} (hx : 0 ≤ x.2.1) : ∀ i, 0 ≤ (vecIt x i).1.2.1 ∧ (vecIt x i).2.length = i ∧ ∀ e ∈ (vecIt x i).2, LA.El e
 | 0 => ⟨hx, rfl, fun e he => by cases he⟩
 | i + 1 => by
  obtain ⟨h1, h2, h3⟩ := vecIt_inv hx i
  have e : vecIt x (i + 1) = vecS (vecIt x i) := rfl
  have hb := elem_bd (onceC (vecIt x i).1 3).1
  rw [e]; unfold vecS
  split
  ·refine ⟨once_ok h1, by simp [h2], fun y hy => ?_⟩
   rcases List.mem_append.1 hy with hy | hy
   ·exact h3 y hy
   ·have : y = 0 := by simpa using hy
    rw [this]; unfold LA.El; omega
  ·refine ⟨elem_ok (once_ok h1), by simp [h2], fun y hy => ?_⟩
   rcases List.mem_append.1 hy with hy | hy
   ·exact h3 y hy
   ·have : y = (elemC (onceC (vecIt x i).1 3).1).2 := by simpa using hy
    rw [this]; exact hb

def vecD (x0 : T60) (x1 : Int) : T60 × (List Int) := ((vecIt x0 x1.toNat).1, (vecIt x0 x1.toNat).2)
abbrev Q_spec_l5Vector := (fun (x0 : T60) (x1 : Int) => 0 ≤ x0.2.1 ∧ x1 ≤ 1000)
def B_spec_l5Vector : BS := { t := 60, s := s60, dom := [(.int 3)], cod := [s27], pre := fun y x => Q_spec_l5Vector y x.1, upd := fun y x => (vecD y x.1).1, g := fun y x => ((vecD y x.1).2, ()) }
def S_spec_l5Vector : Sum := bSum 30 B_spec_l5Vector
def S_spec_l5Vector_tab : List (Nat × Sum) := [(18, S_spec_l1Once), (48, S_spec_l4Element)]
theorem S_spec_l5Vector_ok : FnOK Tryd.prog 30 S_spec_l5Vector := by
 refine at_enterB (B := B_spec_l5Vector) 24 (fun v y x => ⟨[(0, aP 1 0), (1, aI x.1)], [(1, oX 60 [.ro (.u8 5) y.1, cI y.2.1, cI y.2.2]), (2, oP 1 v)]⟩) Tryd.func30 rfl (by kernel_rfl) (fun v y x => rfl) ?_
 rintro w0 Z0 b0 x0 ⟨x1, u⟩ a w
 revert x0 x1
 intro (x0 : T60) (x1 : Int) hpre hlens0 hlens h
 replace h : At w0 Z0 [b0] 24 ⟨[(0, aP 1 0), (1, aI x1)], [(1, oX 60 [.ro (.u8 5) x0.1, cI x0.2.1, cI x0.2.2]), (2, oP 1 (Value.pointer (some ⟨b0, 0, none⟩)))]⟩ a w := h
 replace hpre : Q_spec_l5Vector x0 x1 := hpre
 have hl1 : List.length x0.1 ≤ 9223372036854775807 := hlens0.1.1
 have hu0 : u8L x0.1 := hlens0.1.2
 have hT : TabOK Tryd.prog w0 [b0] S_spec_l5Vector_tab := (.cons S_spec_l1Once_ok (.cons S_spec_l4Element_ok .nil))
 have hp2 := hpre.2
 refine wp_seq ?_
 refine at_regq [] { ts := [0, 1, 4], os := [1, 2] } [] gamOK hT h (by kernel_rfl) trivial fun a w h => then_normal (wp_seq ?_)
 refine at_regq [{ ids := [3] }] { ts := [0, 1, 4, 5], os := [1, 2, 3] } [] gamOK hT h (by kernel_rfl) trivial fun a w h => then_normal (wp_seq (wp_seq ?_))
 refine at_regq [] { ts := [0, 1, 4, 5, 6], os := [1, 2, 3] } [] gamOK hT h (by kernel_rfl) trivial fun a w h => then_normal (wp_block ?_)
 replace h := at_out (σ' := ⟨[(0, aP 1 0), (1, aI x1), (4, .p (.c (cN))), (5, aS 3), (6, aI 0)], [(1, oX 60 [.ro (.u8 5) x0.1, cI x0.2.1, cI x0.2.2]), (2, oP 1 (Value.pointer (some ⟨b0, 0, none⟩))), (3, oR (.int 3) ([] : List Int))]⟩) { ts := [0, 1, 4, 5, 6], os := [1, 2, 3] } h (by kernel_rfl)
 refine at_loop (fun i : Nat => (⟨[(0, aP 1 0), (1, aI x1), (4, .p (.c (cN))), (5, aS 3), (6, aI ((i : Nat) : Int))], [(1, oX 60 [.ro (.u8 5) (vecIt x0 i).1.1, cI (vecIt x0 i).1.2.1, cI (vecIt x0 i).1.2.2]), (2, oP 1 (Value.pointer (some ⟨b0, 0, none⟩))), (3, oR (.int 3) (vecIt x0 i).2)]⟩ : St)) (fun i => i ≤ x1.toNat) (fun i => x1.toNat - i) (0) h (st_congr5 (fun (d0 : List Int) (d1 : Int) (d2 : Int) (d3 : List Int) (d4 : Int) => (⟨[(0, aP 1 0), (1, aI x1), (4, .p (.c (cN))), (5, aS 3), (6, aI d4)], [(1, oX 60 [.ro (.u8 5) d0, cI d1, cI d2]), (2, oP 1 (Value.pointer (some ⟨b0, 0, none⟩))), (3, oR (.int 3) d3)]⟩ : St)) (show (x0.1 : List Int) = (vecIt x0 (0)).1.1 from by first | with_reducible rfl | (rfl) | rfl) (show (x0.2.1 : Int) = (vecIt x0 (0)).1.2.1 from by first | with_reducible rfl | (rfl) | rfl) (show (x0.2.2 : Int) = (vecIt x0 (0)).1.2.2 from by first | with_reducible rfl | (rfl) | rfl) (show (([] : List Int) : List Int) = (vecIt x0 (0)).2 from by first | with_reducible rfl | (rfl) | rfl) (show (0 : Int) = (((0) : Nat) : Int) from by first | with_reducible rfl | (rfl) | rfl)) (by omega) ?_
 intro i a w hok0 h
 have hvi := vecIt_inv hpre.1 i
 have hvl := hvi.2.1
 refine wp_seq (wp_seq ?_)
 refine at_regq [] { ts := [0, 1, 4, 5, 6, 10], os := [1, 2, 3] } [] gamOK hT h (by kernel_rfl) trivial fun a w h => then_normal ?_
 refine at_test (decide (((i : Nat) : Int) < x1)) h (by kernel_rfl) (fun h1 => ?_) (fun h1 => ?_)
 ·replace h1 : ((i : Nat) : Int) < x1 := of_decide_eq_true h1
  refine wp_skip (then_normal (wp_seq (wp_block (wp_seq ?_))))
  refine at_regq [] { ts := [0, 1, 4, 5, 6, 14], os := [1, 2, 3] } [B_spec_l1Once.pre (vecIt x0 i).1 (3, ())] gamOK hT h (by kernel_rfl) ⟨(by exact hvi.1), trivial⟩ fun a w h => then_normal ?_
  refine at_test ((onceC (vecIt x0 i).1 3).2) h (by kernel_rfl) (fun h2 => ?_) (fun h2 => ?_)
  ·refine at_regq [{}, { ids := [4] }, { ids := [5] }] { ts := [0, 1, 4, 5, 6], os := [1, 2, 5] } [(List.length (vecIt x0 i).2 + List.length ([0])) * 8 ≤ 140737488355328] gamOK hT h (by kernel_rfl) ⟨(by first | omega | (simp only [lsA]; omega) | (simp <;> omega)), trivial⟩ fun a w h => in_normal (then_normal ?_)
   refine at_regq [{}, { nw := true }] { ts := [0, 1, 4, 5, 6], os := [1, 2, 5] } [I64 (((i : Nat) : Int) + 1)] gamOK hT h (by kernel_rfl) ⟨⟨by first | omega | (simp only [lsA]; omega) | (simp <;> omega), by first | omega | (simp only [lsA]; omega) | (simp <;> omega)⟩, trivial⟩ fun a w h => ?_
   replace h := at_out (σ' := ⟨[(0, aP 1 0), (1, aI x1), (4, .p (.c (cN))), (5, aS 3), (6, aI (((i : Nat) : Int) + 1))], [(1, oX 60 [.ro (.u8 5) (onceC (vecIt x0 i).1 3).1.1, cI (onceC (vecIt x0 i).1 3).1.2.1, cI (onceC (vecIt x0 i).1 3).1.2.2]), (2, oP 1 (Value.pointer (some ⟨b0, 0, none⟩))), (3, oR (.int 3) ((vecIt x0 i).2 ++ ([0])))]⟩) { ts := [0, 1, 4, 5, 6], os := [1, 2, 5], rn := [(5, 3)] } h (by kernel_rfl)
   exact ⟨i + 1, at_eq h (st_congr5 (fun (d0 : List Int) (d1 : Int) (d2 : Int) (d3 : List Int) (d4 : Int) => (⟨[(0, aP 1 0), (1, aI x1), (4, .p (.c (cN))), (5, aS 3), (6, aI d4)], [(1, oX 60 [.ro (.u8 5) d0, cI d1, cI d2]), (2, oP 1 (Value.pointer (some ⟨b0, 0, none⟩))), (3, oR (.int 3) d3)]⟩ : St)) (show ((onceC (vecIt x0 i).1 3).1.1 : List Int) = (vecIt x0 (i + 1)).1.1 from by first | with_reducible rfl | (first | (rw [vecIt_y (x := x0) (i := i) (by assumption)]; done) | (rw [vecIt_n (x := x0) (i := i) (by assumption)]; done)) | rfl) (show ((onceC (vecIt x0 i).1 3).1.2.1 : Int) = (vecIt x0 (i + 1)).1.2.1 from by first | with_reducible rfl | (first | (rw [vecIt_y (x := x0) (i := i) (by assumption)]; done) | (rw [vecIt_n (x := x0) (i := i) (by assumption)]; done)) | rfl) (show ((onceC (vecIt x0 i).1 3).1.2.2 : Int) = (vecIt x0 (i + 1)).1.2.2 from by first | with_reducible rfl | (first | (rw [vecIt_y (x := x0) (i := i) (by assumption)]; done) | (rw [vecIt_n (x := x0) (i := i) (by assumption)]; done)) | rfl) (show (((vecIt x0 i).2 ++ ([0])) : List Int) = (vecIt x0 (i + 1)).2 from by first | with_reducible rfl | (first | (rw [vecIt_y (x := x0) (i := i) (by assumption)]; done) | (rw [vecIt_n (x := x0) (i := i) (by assumption)]; done)) | rfl) (show (((i : Nat) : Int) + 1 : Int) = (((i + 1) : Nat) : Int) from by first | with_reducible rfl | (omega) | rfl)), (by omega), (by omega)⟩
  ·refine at_regq [{}, {}, {}, { ids := [6] }, { ids := [7] }] { ts := [0, 1, 4, 5, 6], os := [1, 2, 7] } [B_spec_l4Element.pre (onceC (vecIt x0 i).1 3).1 (()), (List.length (vecIt x0 i).2 + List.length ([(elemC (onceC (vecIt x0 i).1 3).1).2])) * 8 ≤ 140737488355328] gamOK hT h (by kernel_rfl) ⟨(by exact (once_ok hvi.1)), (by first | omega | (simp only [lsA]; omega) | (simp <;> omega)), trivial⟩ fun a w h => in_normal (then_normal ?_)
   refine at_regq [{}, { nw := true }] { ts := [0, 1, 4, 5, 6], os := [1, 2, 7] } [I64 (((i : Nat) : Int) + 1)] gamOK hT h (by kernel_rfl) ⟨⟨by first | omega | (simp only [lsA]; omega) | (simp <;> omega), by first | omega | (simp only [lsA]; omega) | (simp <;> omega)⟩, trivial⟩ fun a w h => ?_
   replace h := at_out (σ' := ⟨[(0, aP 1 0), (1, aI x1), (4, .p (.c (cN))), (5, aS 3), (6, aI (((i : Nat) : Int) + 1))], [(1, oX 60 [.ro (.u8 5) (elemC (onceC (vecIt x0 i).1 3).1).1.1, cI (elemC (onceC (vecIt x0 i).1 3).1).1.2.1, cI (elemC (onceC (vecIt x0 i).1 3).1).1.2.2]), (2, oP 1 (Value.pointer (some ⟨b0, 0, none⟩))), (3, oR (.int 3) ((vecIt x0 i).2 ++ ([(elemC (onceC (vecIt x0 i).1 3).1).2])))]⟩) { ts := [0, 1, 4, 5, 6], os := [1, 2, 7], rn := [(7, 3)] } h (by kernel_rfl)
   exact ⟨i + 1, at_eq h (st_congr5 (fun (d0 : List Int) (d1 : Int) (d2 : Int) (d3 : List Int) (d4 : Int) => (⟨[(0, aP 1 0), (1, aI x1), (4, .p (.c (cN))), (5, aS 3), (6, aI d4)], [(1, oX 60 [.ro (.u8 5) d0, cI d1, cI d2]), (2, oP 1 (Value.pointer (some ⟨b0, 0, none⟩))), (3, oR (.int 3) d3)]⟩ : St)) (show ((elemC (onceC (vecIt x0 i).1 3).1).1.1 : List Int) = (vecIt x0 (i + 1)).1.1 from by first | with_reducible rfl | (first | (rw [vecIt_y (x := x0) (i := i) (by assumption)]; done) | (rw [vecIt_n (x := x0) (i := i) (by assumption)]; done)) | rfl) (show ((elemC (onceC (vecIt x0 i).1 3).1).1.2.1 : Int) = (vecIt x0 (i + 1)).1.2.1 from by first | with_reducible rfl | (first | (rw [vecIt_y (x := x0) (i := i) (by assumption)]; done) | (rw [vecIt_n (x := x0) (i := i) (by assumption)]; done)) | rfl) (show ((elemC (onceC (vecIt x0 i).1 3).1).1.2.2 : Int) = (vecIt x0 (i + 1)).1.2.2 from by first | with_reducible rfl | (first | (rw [vecIt_y (x := x0) (i := i) (by assumption)]; done) | (rw [vecIt_n (x := x0) (i := i) (by assumption)]; done)) | rfl) (show (((vecIt x0 i).2 ++ ([(elemC (onceC (vecIt x0 i).1 3).1).2])) : List Int) = (vecIt x0 (i + 1)).2 from by first | with_reducible rfl | (first | (rw [vecIt_y (x := x0) (i := i) (by assumption)]; done) | (rw [vecIt_n (x := x0) (i := i) (by assumption)]; done)) | rfl) (show (((i : Nat) : Int) + 1 : Int) = (((i + 1) : Nat) : Int) from by first | with_reducible rfl | (omega) | rfl)), (by omega), (by omega)⟩
 ·replace h1 : ¬ (((i : Nat) : Int) < x1) := of_decide_eq_false h1
  refine wp_exit (then_exit ?_)
  replace h := at_out (σ' := ⟨[(4, .p (.c (cN))), (5, aS 3)], [(1, oX 60 [.ro (.u8 5) (vecIt x0 i).1.1, cI (vecIt x0 i).1.2.1, cI (vecIt x0 i).1.2.2]), (2, oP 1 (Value.pointer (some ⟨b0, 0, none⟩))), (3, oR (.int 3) (vecIt x0 i).2)]⟩) { ts := [4, 5], os := [1, 2, 3] } h (by kernel_rfl)
  replace h := at_eq (σ' := ⟨[(4, .p (.c (cN))), (5, aS 3)], [(1, oX 60 [.ro (.u8 5) (vecIt x0 x1.toNat).1.1, cI (vecIt x0 x1.toNat).1.2.1, cI (vecIt x0 x1.toNat).1.2.2]), (2, oP 1 (Value.pointer (some ⟨b0, 0, none⟩))), (3, oR (.int 3) (vecIt x0 x1.toNat).2)]⟩) h (st_congr4 (fun (d0 : List Int) (d1 : Int) (d2 : Int) (d3 : List Int) => (⟨[(4, .p (.c (cN))), (5, aS 3)], [(1, oX 60 [.ro (.u8 5) d0, cI d1, cI d2]), (2, oP 1 (Value.pointer (some ⟨b0, 0, none⟩))), (3, oR (.int 3) d3)]⟩ : St)) (show ((vecIt x0 i).1.1 : List Int) = (vecIt x0 x1.toNat).1.1 from by first | with_reducible rfl | (rw [show x1.toNat = i by omega]) | rfl) (show ((vecIt x0 i).1.2.1 : Int) = (vecIt x0 x1.toNat).1.2.1 from by first | with_reducible rfl | (rw [show x1.toNat = i by omega]) | rfl) (show ((vecIt x0 i).1.2.2 : Int) = (vecIt x0 x1.toNat).1.2.2 from by first | with_reducible rfl | (rw [show x1.toNat = i by omega]) | rfl) (show ((vecIt x0 i).2 : List Int) = (vecIt x0 x1.toNat).2 from by first | with_reducible rfl | (rw [show x1.toNat = i by omega]) | rfl))
  refine then_exit (in_hit (then_normal (wp_seq ?_)))
  refine at_regq [] { ts := [4], os := [1, 2, 3] } [] gamOK hT h (by kernel_rfl) trivial fun a w h => then_normal (wp_ret ?_)
  have hr3 : (((vecIt x0 x1.toNat).1, (vecIt x0 x1.toNat).2) : T60 × (List Int)) = vecD x0 x1 := by rfl
  exact at_returnB (B := B_spec_l5Vector) (c0 := x0) (x := (x1, ())) ((vecIt x0 x1.toNat).1) ((vecIt x0 x1.toNat).2, ()) [(Value.pointer (some ⟨b0, 0, none⟩)) = (Value.pointer (some ⟨b0, 0, none⟩))] h (by kernel_rfl) ⟨rfl, trivial⟩ (congrArg (a₁ := ((vecIt x0 x1.toNat).1, (vecIt x0 x1.toNat).2)) (a₂ := vecD x0 x1) (fun (z : T60 × (List Int)) => z.1) hr3) (congrArg (a₁ := ((vecIt x0 x1.toNat).1, (vecIt x0 x1.toNat).2)) (a₂ := vecD x0 x1) (fun (z : T60 × (List Int)) => (z.2, ())) hr3)
theorem vecD_ok {x : T60} {n : Int} (h : 0 ≤ x.2.1) : 0 ≤ (vecD x n).1.2.1 ∧ LA.VokB n.toNat (vecD x n).2 := ⟨(vecIt_inv h _).1, (vecIt_inv h _).2.1, (vecIt_inv h _).2.2⟩

def rowIt (x : T60) : Nat → T60 × List Int
 | 0 => (x, [])
 | i + 1 => ((belowC (rowIt x i).1 256).1, (rowIt x i).2 ++ [(belowC (rowIt x i).1 256).2])
def genIt (x : T60) (n : Nat) : Nat → T60 × List (List Int)
 | 0 => (x, [])
 | i + 1 => ((rowIt (genIt x n i).1 n).1, (genIt x n i).2 ++ [(rowIt (genIt x n i).1 n).2])
theorem rowIt_inv {x : T60} (hx : 0 ≤ x.2.1) : ∀ i, 0 ≤ (rowIt x i).1.2.1 ∧ (rowIt x i).2.length = i ∧ ∀ e ∈ (rowIt x i).2, LA.El e
 | 0 => ⟨hx, rfl, fun e he => by cases he⟩
 | i + 1 => by
  obtain ⟨h1, h2, h3⟩ := rowIt_inv hx i
  have hb := below_bd (rowIt x i).1 (n := 256) (by decide)
  refine ⟨below_ok h1, by simp [rowIt, h2], fun y hy => ?_⟩
  rcases List.mem_append.1 hy with hy | hy
  ·exact h3 y hy
  ·have : y = (belowC (rowIt x i).1 256).2 := by simpa using hy
   rw [this]; unfold LA.El; omega
theorem genIt_inv {x : T60} {n : Nat} (hx : 0 ≤ x.2.1) : ∀ i, 0 ≤ (genIt x n i).1.2.1 ∧ (genIt x n i).2.length = i ∧ ∀ r ∈ (genIt x n i).2, LA.VokB n r
 | 0 => ⟨hx, rfl, fun e he => by cases he⟩
 | i + 1 => by
  obtain ⟨h1, h2, h3⟩ := genIt_inv (n := n) hx i
  have hr := rowIt_inv h1 n
  refine ⟨hr.1, by simp [genIt, h2], fun y hy => ?_⟩
  rcases List.mem_append.1 hy with hy | hy
  ·exact h3 y hy
  ·have : y = (rowIt (genIt x n i).1 n).2 := by simpa using hy
   rw [this]; exact ⟨hr.2.1, hr.2.2⟩
theorem validG_of {a : Int} {m : List (List Int)} {n : Nat} (ha : 0 ≤ a ∧ a ≤ 1000000000000) (h1 : 1 ≤ m.length ∧ m.length ≤ 8) (hn : 1 ≤ n ∧ n ≤ 16) (h2 : ∀ r ∈ m, LA.VokB n r) : validG (a, m) = true ∧ colsOf m = (n : Int) := by
 have h0 : (m.getD 0 []).length = n := (h2 _ (getD_mem (z := []) (show 0 < m.length by omega))).1
 have hc : colsOf m = (n : Int) := by rw [colsOf_at h1.1, h0]
 have hm : validM m = true := by
  unfold validM
  have ha : m.all (fun r => validV r && decide (List.length r = List.length (m.getD 0 []))) = true := List.all_eq_true.2 fun r hr => by
   rw [Bool.and_eq_true]
   exact ⟨validV_of (h2 r hr) (by omega), decide_eq_true (by rw [h0]; exact (h2 r hr).1)⟩
  rw [if_pos ha]
  exact decide_eq_true (by omega)
 refine ⟨?_, hc⟩
 unfold validG
 rw [if_pos (show inR a 0 1000000000000 = true from inR_true ha), if_pos (show inR ((List.length m : Nat) : Int) 1 8 = true from inR_true (by omega)), if_pos hm, hc]
 exact inR_true (by omega)
def genD (x0 : T60) : T60 × T46 := ((genIt (belowC (belowC (belowC x0 5).1 3).1 4).1 (1 + (belowC (belowC x0 5).1 3).2).toNat (1 + (belowC (belowC (belowC x0 5).1 3).1 4).2).toNat).1, ((belowC x0 5).2, (genIt (belowC (belowC (belowC x0 5).1 3).1 4).1 (1 + (belowC (belowC x0 5).1 3).2).toNat (1 + (belowC (belowC (belowC x0 5).1 3).1 4).2).toNat).2))
abbrev Q_spec_l10Gen := (fun (x0 : T60) => 0 ≤ x0.2.1)
def B_spec_l10Gen : BS := { t := 60, s := s60, dom := [], cod := [s46], pre := fun y x => Q_spec_l10Gen y, upd := fun y x => (genD y).1, g := fun y x => ((genD y).2, ()) }
def S_spec_l10Gen : Sum := bSum 17 B_spec_l10Gen
def S_spec_l10Gen_tab : List (Nat × Sum) := [(14, S_spec_l1Below)]
theorem S_spec_l10Gen_ok : FnOK Tryd.prog 17 S_spec_l10Gen := by
 refine at_enterB (B := B_spec_l10Gen) 39 (fun v y x => ⟨[(0, aP 1 0)], [(1, oX 60 [.ro (.u8 5) y.1, cI y.2.1, cI y.2.2]), (2, oP 1 v)]⟩) Tryd.func17 rfl (by kernel_rfl) (fun v y x => rfl) ?_
 rintro w0 Z0 b0 x0 ⟨u⟩ a w
 revert x0
 intro (x0 : T60) hpre hlens0 hlens h
 replace h : At w0 Z0 [b0] 39 ⟨[(0, aP 1 0)], [(1, oX 60 [.ro (.u8 5) x0.1, cI x0.2.1, cI x0.2.2]), (2, oP 1 (Value.pointer (some ⟨b0, 0, none⟩)))]⟩ a w := h
 replace hpre : Q_spec_l10Gen x0 := hpre
 have hl1 : List.length x0.1 ≤ 9223372036854775807 := hlens0.1.1
 have hu0 : u8L x0.1 := hlens0.1.2
 have hT : TabOK Tryd.prog w0 [b0] S_spec_l10Gen_tab := (.cons S_spec_l1Below_ok .nil)
 have hb1 := below_bd x0 (n := 5) (by decide)
 have hb2 := below_bd (belowC x0 5).1 (n := 3) (by decide)
 have hb3 := below_bd (belowC (belowC x0 5).1 3).1 (n := 4) (by decide)
 have hc := below_ok (n := 4) (below_ok (n := 3) (below_ok (n := 5) hpre))
 refine wp_seq ?_
 refine at_regq [{ ids := [3] }] { ts := [0, 2], os := [1, 2, 3] } [] gamOK hT h (by kernel_rfl) trivial fun a w h => then_normal (wp_seq ?_)
 refine at_regq [{}, {}, {}, { ids := [4] }] { ts := [0, 2, 3], os := [1, 2, 3, 4] } [B_spec_l1Below.pre x0 (5, ())] gamOK hT h (by kernel_rfl) ⟨(by exact hpre), trivial⟩ fun a w h => then_normal (wp_seq ?_)
 refine at_regq [{}, {}, { nw := true }] { ts := [0, 2, 3, 4], os := [1, 2, 3, 4] } [B_spec_l1Below.pre (belowC x0 5).1 (3, ()), I64 (1 + (belowC (belowC x0 5).1 3).2)] gamOK hT h (by kernel_rfl) ⟨(by exact (below_ok hpre)), ⟨by first | omega | (simp only [lsA]; omega) | (simp <;> omega), by first | omega | (simp only [lsA]; omega) | (simp <;> omega)⟩, trivial⟩ fun a w h => then_normal (wp_seq (wp_seq ?_))
 refine at_regq [{}, {}, { nw := true }] { ts := [0, 2, 3, 4, 5], os := [1, 2, 3, 4] } [B_spec_l1Below.pre (belowC (belowC x0 5).1 3).1 (4, ()), I64 (1 + (belowC (belowC (belowC x0 5).1 3).1 4).2)] gamOK hT h (by kernel_rfl) ⟨(by exact (below_ok (below_ok hpre))), ⟨by first | omega | (simp only [lsA]; omega) | (simp <;> omega), by first | omega | (simp only [lsA]; omega) | (simp <;> omega)⟩, trivial⟩ fun a w h => then_normal (wp_block ?_)
 replace h := at_out (σ' := ⟨[(0, aP 1 0), (2, aP 3 0), (3, aP 4 0), (4, aI (1 + (belowC (belowC x0 5).1 3).2)), (5, aI (1 + (belowC (belowC (belowC x0 5).1 3).1 4).2))], [(1, oX 60 [.ro (.u8 5) (belowC (belowC (belowC x0 5).1 3).1 4).1.1, cI (belowC (belowC (belowC x0 5).1 3).1 4).1.2.1, cI (belowC (belowC (belowC x0 5).1 3).1 4).1.2.2]), (2, oP 1 (Value.pointer (some ⟨b0, 0, none⟩))), (3, oX 46 [cI 0, cN]), (4, oX 46 [cI (belowC x0 5).2, .sl 5]), (5, oR s27 ([] : List (List Int)))]⟩) { mt := [⟨some 4, 1, 5, true, s27⟩], ts := [0, 2, 3, 4, 5], os := [1, 2, 3, 4, 5] } h (by kernel_rfl)
 refine at_loop (fun i : Nat => (⟨[(0, aP 1 0), (2, aP 3 0), (3, aP 4 0), (4, aI (1 + (belowC (belowC x0 5).1 3).2)), (5, aI ((1 + (belowC (belowC (belowC x0 5).1 3).1 4).2) - ((i : Nat) : Int)))], [(1, oX 60 [.ro (.u8 5) (genIt (belowC (belowC (belowC x0 5).1 3).1 4).1 (1 + (belowC (belowC x0 5).1 3).2).toNat i).1.1, cI (genIt (belowC (belowC (belowC x0 5).1 3).1 4).1 (1 + (belowC (belowC x0 5).1 3).2).toNat i).1.2.1, cI (genIt (belowC (belowC (belowC x0 5).1 3).1 4).1 (1 + (belowC (belowC x0 5).1 3).2).toNat i).1.2.2]), (2, oP 1 (Value.pointer (some ⟨b0, 0, none⟩))), (3, oX 46 [cI 0, cN]), (4, oX 46 [cI (belowC x0 5).2, .sl 5]), (5, oR s27 (genIt (belowC (belowC (belowC x0 5).1 3).1 4).1 (1 + (belowC (belowC x0 5).1 3).2).toNat i).2)]⟩ : St)) (fun i => ((i : Nat) : Int) ≤ (1 + (belowC (belowC (belowC x0 5).1 3).1 4).2)) (fun i => ((1 + (belowC (belowC (belowC x0 5).1 3).1 4).2)).toNat - i) (0) h (st_congr5 (fun (d0 : List Int) (d1 : Int) (d2 : Int) (d3 : List (List Int)) (d4 : Int) => (⟨[(0, aP 1 0), (2, aP 3 0), (3, aP 4 0), (4, aI (1 + (belowC (belowC x0 5).1 3).2)), (5, aI d4)], [(1, oX 60 [.ro (.u8 5) d0, cI d1, cI d2]), (2, oP 1 (Value.pointer (some ⟨b0, 0, none⟩))), (3, oX 46 [cI 0, cN]), (4, oX 46 [cI (belowC x0 5).2, .sl 5]), (5, oR s27 d3)]⟩ : St)) (show ((belowC (belowC (belowC x0 5).1 3).1 4).1.1 : List Int) = (genIt (belowC (belowC (belowC x0 5).1 3).1 4).1 (1 + (belowC (belowC x0 5).1 3).2).toNat (0)).1.1 from by first | with_reducible rfl | (first | rfl | omega) | rfl) (show ((belowC (belowC (belowC x0 5).1 3).1 4).1.2.1 : Int) = (genIt (belowC (belowC (belowC x0 5).1 3).1 4).1 (1 + (belowC (belowC x0 5).1 3).2).toNat (0)).1.2.1 from by first | with_reducible rfl | (first | rfl | omega) | rfl) (show ((belowC (belowC (belowC x0 5).1 3).1 4).1.2.2 : Int) = (genIt (belowC (belowC (belowC x0 5).1 3).1 4).1 (1 + (belowC (belowC x0 5).1 3).2).toNat (0)).1.2.2 from by first | with_reducible rfl | (first | rfl | omega) | rfl) (show (([] : List (List Int)) : List (List Int)) = (genIt (belowC (belowC (belowC x0 5).1 3).1 4).1 (1 + (belowC (belowC x0 5).1 3).2).toNat (0)).2 from by first | with_reducible rfl | (first | rfl | omega) | rfl) (show (1 + (belowC (belowC (belowC x0 5).1 3).1 4).2 : Int) = ((1 + (belowC (belowC (belowC x0 5).1 3).1 4).2) - (((0) : Nat) : Int)) from by first | with_reducible rfl | (first | rfl | omega) | rfl)) (by omega) ?_
 intro i a w hok0 h
 have hgi := genIt_inv (n := (1 + (belowC (belowC x0 5).1 3).2).toNat) hc i
 have hgl := hgi.2.1
 refine wp_seq (wp_seq ?_)
 refine at_regq [] { ts := [0, 2, 3, 4, 5, 18], os := [1, 2, 3, 4, 5] } [] gamOK hT h (by kernel_rfl) trivial fun a w h => then_normal ?_
 refine at_test (decide (((1 + (belowC (belowC (belowC x0 5).1 3).1 4).2) - ((i : Nat) : Int)) > 0)) h (by kernel_rfl) (fun h1 => ?_) (fun h1 => ?_)
 ·replace h1 : ((1 + (belowC (belowC (belowC x0 5).1 3).1 4).2) - ((i : Nat) : Int)) > 0 := of_decide_eq_true h1
  refine wp_skip (then_normal (wp_seq (wp_block (wp_seq ?_))))
  refine at_regq [{ ids := [6] }] { ts := [0, 2, 3, 4, 5, 6], os := [1, 2, 3, 4, 5, 6] } [] gamOK hT h (by kernel_rfl) trivial fun a w h => then_normal (wp_seq (wp_seq ?_))
  refine at_regq [] { ts := [0, 2, 3, 4, 5, 6, 7], os := [1, 2, 3, 4, 5, 6] } [] gamOK hT h (by kernel_rfl) trivial fun a w h => then_normal (wp_block ?_)
  replace h := at_out (σ' := ⟨[(0, aP 1 0), (2, aP 3 0), (3, aP 4 0), (4, aI (1 + (belowC (belowC x0 5).1 3).2)), (5, aI ((1 + (belowC (belowC (belowC x0 5).1 3).1 4).2) - ((i : Nat) : Int))), (6, aS 6), (7, aI 0)], [(1, oX 60 [.ro (.u8 5) (genIt (belowC (belowC (belowC x0 5).1 3).1 4).1 (1 + (belowC (belowC x0 5).1 3).2).toNat i).1.1, cI (genIt (belowC (belowC (belowC x0 5).1 3).1 4).1 (1 + (belowC (belowC x0 5).1 3).2).toNat i).1.2.1, cI (genIt (belowC (belowC (belowC x0 5).1 3).1 4).1 (1 + (belowC (belowC x0 5).1 3).2).toNat i).1.2.2]), (2, oP 1 (Value.pointer (some ⟨b0, 0, none⟩))), (3, oX 46 [cI 0, cN]), (4, oX 46 [cI (belowC x0 5).2, .sl 5]), (5, oR s27 (genIt (belowC (belowC (belowC x0 5).1 3).1 4).1 (1 + (belowC (belowC x0 5).1 3).2).toNat i).2), (6, oR (.int 3) ([] : List Int))]⟩) { ts := [0, 2, 3, 4, 5, 6, 7], os := [1, 2, 3, 4, 5, 6] } h (by kernel_rfl)
  refine at_loop (fun k : Nat => (⟨[(0, aP 1 0), (2, aP 3 0), (3, aP 4 0), (4, aI (1 + (belowC (belowC x0 5).1 3).2)), (5, aI ((1 + (belowC (belowC (belowC x0 5).1 3).1 4).2) - ((i : Nat) : Int))), (6, aS 6), (7, aI ((k : Nat) : Int))], [(1, oX 60 [.ro (.u8 5) (rowIt (genIt (belowC (belowC (belowC x0 5).1 3).1 4).1 (1 + (belowC (belowC x0 5).1 3).2).toNat i).1 k).1.1, cI (rowIt (genIt (belowC (belowC (belowC x0 5).1 3).1 4).1 (1 + (belowC (belowC x0 5).1 3).2).toNat i).1 k).1.2.1, cI (rowIt (genIt (belowC (belowC (belowC x0 5).1 3).1 4).1 (1 + (belowC (belowC x0 5).1 3).2).toNat i).1 k).1.2.2]), (2, oP 1 (Value.pointer (some ⟨b0, 0, none⟩))), (3, oX 46 [cI 0, cN]), (4, oX 46 [cI (belowC x0 5).2, .sl 5]), (5, oR s27 (genIt (belowC (belowC (belowC x0 5).1 3).1 4).1 (1 + (belowC (belowC x0 5).1 3).2).toNat i).2), (6, oR (.int 3) (rowIt (genIt (belowC (belowC (belowC x0 5).1 3).1 4).1 (1 + (belowC (belowC x0 5).1 3).2).toNat i).1 k).2)]⟩ : St)) (fun k => k ≤ (1 + (belowC (belowC x0 5).1 3).2).toNat) (fun k => (1 + (belowC (belowC x0 5).1 3).2).toNat - k) (0) h (st_congr5 (fun (d0 : List Int) (d1 : Int) (d2 : Int) (d3 : List Int) (d4 : Int) => (⟨[(0, aP 1 0), (2, aP 3 0), (3, aP 4 0), (4, aI (1 + (belowC (belowC x0 5).1 3).2)), (5, aI ((1 + (belowC (belowC (belowC x0 5).1 3).1 4).2) - ((i : Nat) : Int))), (6, aS 6), (7, aI d4)], [(1, oX 60 [.ro (.u8 5) d0, cI d1, cI d2]), (2, oP 1 (Value.pointer (some ⟨b0, 0, none⟩))), (3, oX 46 [cI 0, cN]), (4, oX 46 [cI (belowC x0 5).2, .sl 5]), (5, oR s27 (genIt (belowC (belowC (belowC x0 5).1 3).1 4).1 (1 + (belowC (belowC x0 5).1 3).2).toNat i).2), (6, oR (.int 3) d3)]⟩ : St)) (show ((genIt (belowC (belowC (belowC x0 5).1 3).1 4).1 (1 + (belowC (belowC x0 5).1 3).2).toNat i).1.1 : List Int) = (rowIt (genIt (belowC (belowC (belowC x0 5).1 3).1 4).1 (1 + (belowC (belowC x0 5).1 3).2).toNat i).1 (0)).1.1 from by first | with_reducible rfl | (rfl) | rfl) (show ((genIt (belowC (belowC (belowC x0 5).1 3).1 4).1 (1 + (belowC (belowC x0 5).1 3).2).toNat i).1.2.1 : Int) = (rowIt (genIt (belowC (belowC (belowC x0 5).1 3).1 4).1 (1 + (belowC (belowC x0 5).1 3).2).toNat i).1 (0)).1.2.1 from by first | with_reducible rfl | (rfl) | rfl) (show ((genIt (belowC (belowC (belowC x0 5).1 3).1 4).1 (1 + (belowC (belowC x0 5).1 3).2).toNat i).1.2.2 : Int) = (rowIt (genIt (belowC (belowC (belowC x0 5).1 3).1 4).1 (1 + (belowC (belowC x0 5).1 3).2).toNat i).1 (0)).1.2.2 from by first | with_reducible rfl | (rfl) | rfl) (show (([] : List Int) : List Int) = (rowIt (genIt (belowC (belowC (belowC x0 5).1 3).1 4).1 (1 + (belowC (belowC x0 5).1 3).2).toNat i).1 (0)).2 from by first | with_reducible rfl | (rfl) | rfl) (show (0 : Int) = (((0) : Nat) : Int) from by first | with_reducible rfl | (rfl) | rfl)) (by omega) ?_
  intro k a w hok1 h
  have hri := rowIt_inv hgi.1 k
  have hrl := hri.2.1
  refine wp_seq (wp_seq ?_)
  refine at_regq [] { ts := [0, 2, 3, 4, 5, 6, 7, 24], os := [1, 2, 3, 4, 5, 6] } [] gamOK hT h (by kernel_rfl) trivial fun a w h => then_normal ?_
  refine at_test (decide (((k : Nat) : Int) < 1 + (belowC (belowC x0 5).1 3).2)) h (by kernel_rfl) (fun h2 => ?_) (fun h2 => ?_)
  ·replace h2 : ((k : Nat) : Int) < 1 + (belowC (belowC x0 5).1 3).2 := of_decide_eq_true h2
   refine wp_skip (then_normal (wp_seq (wp_block ?_)))
   refine at_regq [{}, {}, {}, { ids := [7] }, { ids := [8] }] { ts := [0, 2, 3, 4, 5, 6, 7], os := [1, 2, 3, 4, 5, 8] } [B_spec_l1Below.pre (rowIt (genIt (belowC (belowC (belowC x0 5).1 3).1 4).1 (1 + (belowC (belowC x0 5).1 3).2).toNat i).1 k).1 (256, ()), (List.length (rowIt (genIt (belowC (belowC (belowC x0 5).1 3).1 4).1 (1 + (belowC (belowC x0 5).1 3).2).toNat i).1 k).2 + List.length ([(belowC (rowIt (genIt (belowC (belowC (belowC x0 5).1 3).1 4).1 (1 + (belowC (belowC x0 5).1 3).2).toNat i).1 k).1 256).2])) * 8 ≤ 140737488355328] gamOK hT h (by kernel_rfl) ⟨(by exact hri.1), (by first | omega | (simp only [lsA]; omega) | (simp <;> omega)), trivial⟩ fun a w h => in_normal (then_normal ?_)
   refine at_regq [{}, { nw := true }] { ts := [0, 2, 3, 4, 5, 6, 7], os := [1, 2, 3, 4, 5, 8] } [I64 (((k : Nat) : Int) + 1)] gamOK hT h (by kernel_rfl) ⟨⟨by first | omega | (simp only [lsA]; omega) | (simp <;> omega), by first | omega | (simp only [lsA]; omega) | (simp <;> omega)⟩, trivial⟩ fun a w h => ?_
   replace h := at_out (σ' := ⟨[(0, aP 1 0), (2, aP 3 0), (3, aP 4 0), (4, aI (1 + (belowC (belowC x0 5).1 3).2)), (5, aI ((1 + (belowC (belowC (belowC x0 5).1 3).1 4).2) - ((i : Nat) : Int))), (6, aS 6), (7, aI (((k : Nat) : Int) + 1))], [(1, oX 60 [.ro (.u8 5) (belowC (rowIt (genIt (belowC (belowC (belowC x0 5).1 3).1 4).1 (1 + (belowC (belowC x0 5).1 3).2).toNat i).1 k).1 256).1.1, cI (belowC (rowIt (genIt (belowC (belowC (belowC x0 5).1 3).1 4).1 (1 + (belowC (belowC x0 5).1 3).2).toNat i).1 k).1 256).1.2.1, cI (belowC (rowIt (genIt (belowC (belowC (belowC x0 5).1 3).1 4).1 (1 + (belowC (belowC x0 5).1 3).2).toNat i).1 k).1 256).1.2.2]), (2, oP 1 (Value.pointer (some ⟨b0, 0, none⟩))), (3, oX 46 [cI 0, cN]), (4, oX 46 [cI (belowC x0 5).2, .sl 5]), (5, oR s27 (genIt (belowC (belowC (belowC x0 5).1 3).1 4).1 (1 + (belowC (belowC x0 5).1 3).2).toNat i).2), (6, oR (.int 3) ((rowIt (genIt (belowC (belowC (belowC x0 5).1 3).1 4).1 (1 + (belowC (belowC x0 5).1 3).2).toNat i).1 k).2 ++ ([(belowC (rowIt (genIt (belowC (belowC (belowC x0 5).1 3).1 4).1 (1 + (belowC (belowC x0 5).1 3).2).toNat i).1 k).1 256).2])))]⟩) { ts := [0, 2, 3, 4, 5, 6, 7], os := [1, 2, 3, 4, 5, 8], rn := [(8, 6)] } h (by kernel_rfl)
   exact ⟨k + 1, at_eq h (st_congr5 (fun (d0 : List Int) (d1 : Int) (d2 : Int) (d3 : List Int) (d4 : Int) => (⟨[(0, aP 1 0), (2, aP 3 0), (3, aP 4 0), (4, aI (1 + (belowC (belowC x0 5).1 3).2)), (5, aI ((1 + (belowC (belowC (belowC x0 5).1 3).1 4).2) - ((i : Nat) : Int))), (6, aS 6), (7, aI d4)], [(1, oX 60 [.ro (.u8 5) d0, cI d1, cI d2]), (2, oP 1 (Value.pointer (some ⟨b0, 0, none⟩))), (3, oX 46 [cI 0, cN]), (4, oX 46 [cI (belowC x0 5).2, .sl 5]), (5, oR s27 (genIt (belowC (belowC (belowC x0 5).1 3).1 4).1 (1 + (belowC (belowC x0 5).1 3).2).toNat i).2), (6, oR (.int 3) d3)]⟩ : St)) (show ((belowC (rowIt (genIt (belowC (belowC (belowC x0 5).1 3).1 4).1 (1 + (belowC (belowC x0 5).1 3).2).toNat i).1 k).1 256).1.1 : List Int) = (rowIt (genIt (belowC (belowC (belowC x0 5).1 3).1 4).1 (1 + (belowC (belowC x0 5).1 3).2).toNat i).1 (k + 1)).1.1 from by first | with_reducible rfl | (rfl) | rfl) (show ((belowC (rowIt (genIt (belowC (belowC (belowC x0 5).1 3).1 4).1 (1 + (belowC (belowC x0 5).1 3).2).toNat i).1 k).1 256).1.2.1 : Int) = (rowIt (genIt (belowC (belowC (belowC x0 5).1 3).1 4).1 (1 + (belowC (belowC x0 5).1 3).2).toNat i).1 (k + 1)).1.2.1 from by first | with_reducible rfl | (rfl) | rfl) (show ((belowC (rowIt (genIt (belowC (belowC (belowC x0 5).1 3).1 4).1 (1 + (belowC (belowC x0 5).1 3).2).toNat i).1 k).1 256).1.2.2 : Int) = (rowIt (genIt (belowC (belowC (belowC x0 5).1 3).1 4).1 (1 + (belowC (belowC x0 5).1 3).2).toNat i).1 (k + 1)).1.2.2 from by first | with_reducible rfl | (rfl) | rfl) (show (((rowIt (genIt (belowC (belowC (belowC x0 5).1 3).1 4).1 (1 + (belowC (belowC x0 5).1 3).2).toNat i).1 k).2 ++ ([(belowC (rowIt (genIt (belowC (belowC (belowC x0 5).1 3).1 4).1 (1 + (belowC (belowC x0 5).1 3).2).toNat i).1 k).1 256).2])) : List Int) = (rowIt (genIt (belowC (belowC (belowC x0 5).1 3).1 4).1 (1 + (belowC (belowC x0 5).1 3).2).toNat i).1 (k + 1)).2 from by first | with_reducible rfl | (rfl) | rfl) (show (((k : Nat) : Int) + 1 : Int) = (((k + 1) : Nat) : Int) from by first | with_reducible rfl | (omega) | rfl)), (by omega), (by omega)⟩
  ·replace h2 : ¬ (((k : Nat) : Int) < 1 + (belowC (belowC x0 5).1 3).2) := of_decide_eq_false h2
   refine wp_exit (then_exit ?_)
   replace h := at_out (σ' := ⟨[(0, aP 1 0), (2, aP 3 0), (3, aP 4 0), (4, aI (1 + (belowC (belowC x0 5).1 3).2)), (5, aI ((1 + (belowC (belowC (belowC x0 5).1 3).1 4).2) - ((i : Nat) : Int))), (6, aS 6)], [(1, oX 60 [.ro (.u8 5) (rowIt (genIt (belowC (belowC (belowC x0 5).1 3).1 4).1 (1 + (belowC (belowC x0 5).1 3).2).toNat i).1 k).1.1, cI (rowIt (genIt (belowC (belowC (belowC x0 5).1 3).1 4).1 (1 + (belowC (belowC x0 5).1 3).2).toNat i).1 k).1.2.1, cI (rowIt (genIt (belowC (belowC (belowC x0 5).1 3).1 4).1 (1 + (belowC (belowC x0 5).1 3).2).toNat i).1 k).1.2.2]), (2, oP 1 (Value.pointer (some ⟨b0, 0, none⟩))), (3, oX 46 [cI 0, cN]), (4, oX 46 [cI (belowC x0 5).2, .sl 5]), (5, oR s27 (genIt (belowC (belowC (belowC x0 5).1 3).1 4).1 (1 + (belowC (belowC x0 5).1 3).2).toNat i).2), (6, oR (.int 3) (rowIt (genIt (belowC (belowC (belowC x0 5).1 3).1 4).1 (1 + (belowC (belowC x0 5).1 3).2).toNat i).1 k).2)]⟩) { ts := [0, 2, 3, 4, 5, 6], os := [1, 2, 3, 4, 5, 6] } h (by kernel_rfl)
   replace h := at_eq (σ' := ⟨[(0, aP 1 0), (2, aP 3 0), (3, aP 4 0), (4, aI (1 + (belowC (belowC x0 5).1 3).2)), (5, aI ((1 + (belowC (belowC (belowC x0 5).1 3).1 4).2) - ((i : Nat) : Int))), (6, aS 6)], [(1, oX 60 [.ro (.u8 5) (rowIt (genIt (belowC (belowC (belowC x0 5).1 3).1 4).1 (1 + (belowC (belowC x0 5).1 3).2).toNat i).1 (1 + (belowC (belowC x0 5).1 3).2).toNat).1.1, cI (rowIt (genIt (belowC (belowC (belowC x0 5).1 3).1 4).1 (1 + (belowC (belowC x0 5).1 3).2).toNat i).1 (1 + (belowC (belowC x0 5).1 3).2).toNat).1.2.1, cI (rowIt (genIt (belowC (belowC (belowC x0 5).1 3).1 4).1 (1 + (belowC (belowC x0 5).1 3).2).toNat i).1 (1 + (belowC (belowC x0 5).1 3).2).toNat).1.2.2]), (2, oP 1 (Value.pointer (some ⟨b0, 0, none⟩))), (3, oX 46 [cI 0, cN]), (4, oX 46 [cI (belowC x0 5).2, .sl 5]), (5, oR s27 (genIt (belowC (belowC (belowC x0 5).1 3).1 4).1 (1 + (belowC (belowC x0 5).1 3).2).toNat i).2), (6, oR (.int 3) (rowIt (genIt (belowC (belowC (belowC x0 5).1 3).1 4).1 (1 + (belowC (belowC x0 5).1 3).2).toNat i).1 (1 + (belowC (belowC x0 5).1 3).2).toNat).2)]⟩) h (st_congr4 (fun (d0 : List Int) (d1 : Int) (d2 : Int) (d3 : List Int) => (⟨[(0, aP 1 0), (2, aP 3 0), (3, aP 4 0), (4, aI (1 + (belowC (belowC x0 5).1 3).2)), (5, aI ((1 + (belowC (belowC (belowC x0 5).1 3).1 4).2) - ((i : Nat) : Int))), (6, aS 6)], [(1, oX 60 [.ro (.u8 5) d0, cI d1, cI d2]), (2, oP 1 (Value.pointer (some ⟨b0, 0, none⟩))), (3, oX 46 [cI 0, cN]), (4, oX 46 [cI (belowC x0 5).2, .sl 5]), (5, oR s27 (genIt (belowC (belowC (belowC x0 5).1 3).1 4).1 (1 + (belowC (belowC x0 5).1 3).2).toNat i).2), (6, oR (.int 3) d3)]⟩ : St)) (show ((rowIt (genIt (belowC (belowC (belowC x0 5).1 3).1 4).1 (1 + (belowC (belowC x0 5).1 3).2).toNat i).1 k).1.1 : List Int) = (rowIt (genIt (belowC (belowC (belowC x0 5).1 3).1 4).1 (1 + (belowC (belowC x0 5).1 3).2).toNat i).1 (1 + (belowC (belowC x0 5).1 3).2).toNat).1.1 from by first | with_reducible rfl | (rw [show (1 + (belowC (belowC x0 5).1 3).2).toNat = k by omega]) | rfl) (show ((rowIt (genIt (belowC (belowC (belowC x0 5).1 3).1 4).1 (1 + (belowC (belowC x0 5).1 3).2).toNat i).1 k).1.2.1 : Int) = (rowIt (genIt (belowC (belowC (belowC x0 5).1 3).1 4).1 (1 + (belowC (belowC x0 5).1 3).2).toNat i).1 (1 + (belowC (belowC x0 5).1 3).2).toNat).1.2.1 from by first | with_reducible rfl | (rw [show (1 + (belowC (belowC x0 5).1 3).2).toNat = k by omega]) | rfl) (show ((rowIt (genIt (belowC (belowC (belowC x0 5).1 3).1 4).1 (1 + (belowC (belowC x0 5).1 3).2).toNat i).1 k).1.2.2 : Int) = (rowIt (genIt (belowC (belowC (belowC x0 5).1 3).1 4).1 (1 + (belowC (belowC x0 5).1 3).2).toNat i).1 (1 + (belowC (belowC x0 5).1 3).2).toNat).1.2.2 from by first | with_reducible rfl | (rw [show (1 + (belowC (belowC x0 5).1 3).2).toNat = k by omega]) | rfl) (show ((rowIt (genIt (belowC (belowC (belowC x0 5).1 3).1 4).1 (1 + (belowC (belowC x0 5).1 3).2).toNat i).1 k).2 : List Int) = (rowIt (genIt (belowC (belowC (belowC x0 5).1 3).1 4).1 (1 + (belowC (belowC x0 5).1 3).2).toNat i).1 (1 + (belowC (belowC x0 5).1 3).2).toNat).2 from by first | with_reducible rfl | (rw [show (1 + (belowC (belowC x0 5).1 3).2).toNat = k by omega]) | rfl))
   refine then_exit (in_hit (then_normal ?_))
   refine at_regq [{}, {}, {}, { ids := [9] }, { ids := [10] }] { ts := [0, 2, 3, 4, 5], os := [1, 2, 3, 4, 10] } [(List.length (genIt (belowC (belowC (belowC x0 5).1 3).1 4).1 (1 + (belowC (belowC x0 5).1 3).2).toNat i).2 + List.length ([(rowIt (genIt (belowC (belowC (belowC x0 5).1 3).1 4).1 (1 + (belowC (belowC x0 5).1 3).2).toNat i).1 (1 + (belowC (belowC x0 5).1 3).2).toNat).2])) * 24 ≤ 140737488355328] gamOK hT h (by kernel_rfl) ⟨(by first | omega | (simp only [lsA]; omega) | (simp <;> omega)), trivial⟩ fun a w h => in_normal (then_normal ?_)
   refine at_regq [{}, { nw := true }] { ts := [0, 2, 3, 4, 5], os := [1, 2, 3, 4, 10] } [I64 (((1 + (belowC (belowC (belowC x0 5).1 3).1 4).2) - ((i : Nat) : Int)) - 1)] gamOK hT h (by kernel_rfl) ⟨⟨by first | omega | (simp only [lsA]; omega) | (simp <;> omega), by first | omega | (simp only [lsA]; omega) | (simp <;> omega)⟩, trivial⟩ fun a w h => ?_
   replace h := at_out (σ' := ⟨[(0, aP 1 0), (2, aP 3 0), (3, aP 4 0), (4, aI (1 + (belowC (belowC x0 5).1 3).2)), (5, aI (((1 + (belowC (belowC (belowC x0 5).1 3).1 4).2) - ((i : Nat) : Int)) - 1))], [(1, oX 60 [.ro (.u8 5) (rowIt (genIt (belowC (belowC (belowC x0 5).1 3).1 4).1 (1 + (belowC (belowC x0 5).1 3).2).toNat i).1 (1 + (belowC (belowC x0 5).1 3).2).toNat).1.1, cI (rowIt (genIt (belowC (belowC (belowC x0 5).1 3).1 4).1 (1 + (belowC (belowC x0 5).1 3).2).toNat i).1 (1 + (belowC (belowC x0 5).1 3).2).toNat).1.2.1, cI (rowIt (genIt (belowC (belowC (belowC x0 5).1 3).1 4).1 (1 + (belowC (belowC x0 5).1 3).2).toNat i).1 (1 + (belowC (belowC x0 5).1 3).2).toNat).1.2.2]), (2, oP 1 (Value.pointer (some ⟨b0, 0, none⟩))), (3, oX 46 [cI 0, cN]), (4, oX 46 [cI (belowC x0 5).2, .sl 5]), (5, oR s27 ((genIt (belowC (belowC (belowC x0 5).1 3).1 4).1 (1 + (belowC (belowC x0 5).1 3).2).toNat i).2 ++ ([(rowIt (genIt (belowC (belowC (belowC x0 5).1 3).1 4).1 (1 + (belowC (belowC x0 5).1 3).2).toNat i).1 (1 + (belowC (belowC x0 5).1 3).2).toNat).2])))]⟩) { ts := [0, 2, 3, 4, 5], os := [1, 2, 3, 4, 10], rn := [(10, 5)] } h (by kernel_rfl)
   exact ⟨i + 1, at_eq h (st_congr5 (fun (d0 : List Int) (d1 : Int) (d2 : Int) (d3 : List (List Int)) (d4 : Int) => (⟨[(0, aP 1 0), (2, aP 3 0), (3, aP 4 0), (4, aI (1 + (belowC (belowC x0 5).1 3).2)), (5, aI d4)], [(1, oX 60 [.ro (.u8 5) d0, cI d1, cI d2]), (2, oP 1 (Value.pointer (some ⟨b0, 0, none⟩))), (3, oX 46 [cI 0, cN]), (4, oX 46 [cI (belowC x0 5).2, .sl 5]), (5, oR s27 d3)]⟩ : St)) (show ((rowIt (genIt (belowC (belowC (belowC x0 5).1 3).1 4).1 (1 + (belowC (belowC x0 5).1 3).2).toNat i).1 (1 + (belowC (belowC x0 5).1 3).2).toNat).1.1 : List Int) = (genIt (belowC (belowC (belowC x0 5).1 3).1 4).1 (1 + (belowC (belowC x0 5).1 3).2).toNat (i + 1)).1.1 from by first | with_reducible rfl | (rfl) | rfl) (show ((rowIt (genIt (belowC (belowC (belowC x0 5).1 3).1 4).1 (1 + (belowC (belowC x0 5).1 3).2).toNat i).1 (1 + (belowC (belowC x0 5).1 3).2).toNat).1.2.1 : Int) = (genIt (belowC (belowC (belowC x0 5).1 3).1 4).1 (1 + (belowC (belowC x0 5).1 3).2).toNat (i + 1)).1.2.1 from by first | with_reducible rfl | (rfl) | rfl) (show ((rowIt (genIt (belowC (belowC (belowC x0 5).1 3).1 4).1 (1 + (belowC (belowC x0 5).1 3).2).toNat i).1 (1 + (belowC (belowC x0 5).1 3).2).toNat).1.2.2 : Int) = (genIt (belowC (belowC (belowC x0 5).1 3).1 4).1 (1 + (belowC (belowC x0 5).1 3).2).toNat (i + 1)).1.2.2 from by first | with_reducible rfl | (rfl) | rfl) (show (((genIt (belowC (belowC (belowC x0 5).1 3).1 4).1 (1 + (belowC (belowC x0 5).1 3).2).toNat i).2 ++ ([(rowIt (genIt (belowC (belowC (belowC x0 5).1 3).1 4).1 (1 + (belowC (belowC x0 5).1 3).2).toNat i).1 (1 + (belowC (belowC x0 5).1 3).2).toNat).2])) : List (List Int)) = (genIt (belowC (belowC (belowC x0 5).1 3).1 4).1 (1 + (belowC (belowC x0 5).1 3).2).toNat (i + 1)).2 from by first | with_reducible rfl | (rfl) | rfl) (show (((1 + (belowC (belowC (belowC x0 5).1 3).1 4).2) - ((i : Nat) : Int)) - 1 : Int) = ((1 + (belowC (belowC (belowC x0 5).1 3).1 4).2) - (((i + 1) : Nat) : Int)) from by first | with_reducible rfl | (omega) | rfl)), (by omega), (by omega)⟩
 ·replace h1 : ¬ (((1 + (belowC (belowC (belowC x0 5).1 3).1 4).2) - ((i : Nat) : Int)) > 0) := of_decide_eq_false h1
  refine wp_exit (then_exit ?_)
  replace h := at_out (σ' := ⟨[(2, aP 3 0), (3, aP 4 0)], [(1, oX 60 [.ro (.u8 5) (genIt (belowC (belowC (belowC x0 5).1 3).1 4).1 (1 + (belowC (belowC x0 5).1 3).2).toNat i).1.1, cI (genIt (belowC (belowC (belowC x0 5).1 3).1 4).1 (1 + (belowC (belowC x0 5).1 3).2).toNat i).1.2.1, cI (genIt (belowC (belowC (belowC x0 5).1 3).1 4).1 (1 + (belowC (belowC x0 5).1 3).2).toNat i).1.2.2]), (2, oP 1 (Value.pointer (some ⟨b0, 0, none⟩))), (3, oX 46 [cI 0, cN]), (4, oX 46 [cI (belowC x0 5).2, .sl 5]), (5, oR s27 (genIt (belowC (belowC (belowC x0 5).1 3).1 4).1 (1 + (belowC (belowC x0 5).1 3).2).toNat i).2)]⟩) { ts := [2, 3], os := [1, 2, 3, 4, 5] } h (by kernel_rfl)
  replace h := at_eq (σ' := ⟨[(2, aP 3 0), (3, aP 4 0)], [(1, oX 60 [.ro (.u8 5) (genIt (belowC (belowC (belowC x0 5).1 3).1 4).1 (1 + (belowC (belowC x0 5).1 3).2).toNat (1 + (belowC (belowC (belowC x0 5).1 3).1 4).2).toNat).1.1, cI (genIt (belowC (belowC (belowC x0 5).1 3).1 4).1 (1 + (belowC (belowC x0 5).1 3).2).toNat (1 + (belowC (belowC (belowC x0 5).1 3).1 4).2).toNat).1.2.1, cI (genIt (belowC (belowC (belowC x0 5).1 3).1 4).1 (1 + (belowC (belowC x0 5).1 3).2).toNat (1 + (belowC (belowC (belowC x0 5).1 3).1 4).2).toNat).1.2.2]), (2, oP 1 (Value.pointer (some ⟨b0, 0, none⟩))), (3, oX 46 [cI 0, cN]), (4, oX 46 [cI (belowC x0 5).2, .sl 5]), (5, oR s27 (genIt (belowC (belowC (belowC x0 5).1 3).1 4).1 (1 + (belowC (belowC x0 5).1 3).2).toNat (1 + (belowC (belowC (belowC x0 5).1 3).1 4).2).toNat).2)]⟩) h (st_congr4 (fun (d0 : List Int) (d1 : Int) (d2 : Int) (d3 : List (List Int)) => (⟨[(2, aP 3 0), (3, aP 4 0)], [(1, oX 60 [.ro (.u8 5) d0, cI d1, cI d2]), (2, oP 1 (Value.pointer (some ⟨b0, 0, none⟩))), (3, oX 46 [cI 0, cN]), (4, oX 46 [cI (belowC x0 5).2, .sl 5]), (5, oR s27 d3)]⟩ : St)) (show ((genIt (belowC (belowC (belowC x0 5).1 3).1 4).1 (1 + (belowC (belowC x0 5).1 3).2).toNat i).1.1 : List Int) = (genIt (belowC (belowC (belowC x0 5).1 3).1 4).1 (1 + (belowC (belowC x0 5).1 3).2).toNat (1 + (belowC (belowC (belowC x0 5).1 3).1 4).2).toNat).1.1 from by first | with_reducible rfl | (rw [show (1 + (belowC (belowC (belowC x0 5).1 3).1 4).2).toNat = i by omega]) | rfl) (show ((genIt (belowC (belowC (belowC x0 5).1 3).1 4).1 (1 + (belowC (belowC x0 5).1 3).2).toNat i).1.2.1 : Int) = (genIt (belowC (belowC (belowC x0 5).1 3).1 4).1 (1 + (belowC (belowC x0 5).1 3).2).toNat (1 + (belowC (belowC (belowC x0 5).1 3).1 4).2).toNat).1.2.1 from by first | with_reducible rfl | (rw [show (1 + (belowC (belowC (belowC x0 5).1 3).1 4).2).toNat = i by omega]) | rfl) (show ((genIt (belowC (belowC (belowC x0 5).1 3).1 4).1 (1 + (belowC (belowC x0 5).1 3).2).toNat i).1.2.2 : Int) = (genIt (belowC (belowC (belowC x0 5).1 3).1 4).1 (1 + (belowC (belowC x0 5).1 3).2).toNat (1 + (belowC (belowC (belowC x0 5).1 3).1 4).2).toNat).1.2.2 from by first | with_reducible rfl | (rw [show (1 + (belowC (belowC (belowC x0 5).1 3).1 4).2).toNat = i by omega]) | rfl) (show ((genIt (belowC (belowC (belowC x0 5).1 3).1 4).1 (1 + (belowC (belowC x0 5).1 3).2).toNat i).2 : List (List Int)) = (genIt (belowC (belowC (belowC x0 5).1 3).1 4).1 (1 + (belowC (belowC x0 5).1 3).2).toNat (1 + (belowC (belowC (belowC x0 5).1 3).1 4).2).toNat).2 from by first | with_reducible rfl | (rw [show (1 + (belowC (belowC (belowC x0 5).1 3).1 4).2).toNat = i by omega]) | rfl))
  refine then_exit (in_hit (then_normal (wp_seq ?_)))
  refine at_regq [] { ts := [2], os := [1, 2, 3, 5] } [] gamOK hT h (by kernel_rfl) trivial fun a w h => then_normal (wp_ret ?_)
  have hr3 : (((genIt (belowC (belowC (belowC x0 5).1 3).1 4).1 (1 + (belowC (belowC x0 5).1 3).2).toNat (1 + (belowC (belowC (belowC x0 5).1 3).1 4).2).toNat).1, ((belowC x0 5).2, (genIt (belowC (belowC (belowC x0 5).1 3).1 4).1 (1 + (belowC (belowC x0 5).1 3).2).toNat (1 + (belowC (belowC (belowC x0 5).1 3).1 4).2).toNat).2)) : T60 × T46) = genD x0 := by rfl
  exact at_returnB (B := B_spec_l10Gen) (c0 := x0) (x := (())) ((genIt (belowC (belowC (belowC x0 5).1 3).1 4).1 (1 + (belowC (belowC x0 5).1 3).2).toNat (1 + (belowC (belowC (belowC x0 5).1 3).1 4).2).toNat).1) (((belowC x0 5).2, (genIt (belowC (belowC (belowC x0 5).1 3).1 4).1 (1 + (belowC (belowC x0 5).1 3).2).toNat (1 + (belowC (belowC (belowC x0 5).1 3).1 4).2).toNat).2), ()) [(Value.pointer (some ⟨b0, 0, none⟩)) = (Value.pointer (some ⟨b0, 0, none⟩))] h (by kernel_rfl) ⟨rfl, trivial⟩ (congrArg (a₁ := ((genIt (belowC (belowC (belowC x0 5).1 3).1 4).1 (1 + (belowC (belowC x0 5).1 3).2).toNat (1 + (belowC (belowC (belowC x0 5).1 3).1 4).2).toNat).1, ((belowC x0 5).2, (genIt (belowC (belowC (belowC x0 5).1 3).1 4).1 (1 + (belowC (belowC x0 5).1 3).2).toNat (1 + (belowC (belowC (belowC x0 5).1 3).1 4).2).toNat).2))) (a₂ := genD x0) (fun (z : T60 × T46) => z.1) hr3) (congrArg (a₁ := ((genIt (belowC (belowC (belowC x0 5).1 3).1 4).1 (1 + (belowC (belowC x0 5).1 3).2).toNat (1 + (belowC (belowC (belowC x0 5).1 3).1 4).2).toNat).1, ((belowC x0 5).2, (genIt (belowC (belowC (belowC x0 5).1 3).1 4).1 (1 + (belowC (belowC x0 5).1 3).2).toNat (1 + (belowC (belowC (belowC x0 5).1 3).1 4).2).toNat).2))) (a₂ := genD x0) (fun (z : T60 × T46) => (z.2, ())) hr3)
theorem genD_ok {x : T60} (h : 0 ≤ x.2.1) : 0 ≤ (genD x).1.2.1 ∧ validG (genD x).2 = true ∧ ((genD x).2.1 ≤ 4 ∧ List.length (genD x).2.2 ≤ 4 ∧ colsOf (genD x).2.2 ≤ 3) := by
 have b1 := below_bd x (n := 5) (by decide)
 have b2 := below_bd (belowC x 5).1 (n := 3) (by decide)
 have b3 := below_bd (belowC (belowC x 5).1 3).1 (n := 4) (by decide)
 have hx := below_ok (n := 4) (below_ok (n := 3) (below_ok (n := 5) h))
 have hi := genIt_inv (n := (1 + (belowC (belowC x 5).1 3).2).toNat) hx (1 + (belowC (belowC (belowC x 5).1 3).1 4).2).toNat
 have hv := validG_of (a := (belowC x 5).2) (n := (1 + (belowC (belowC x 5).1 3).2).toNat) (by omega) (by rw [hi.2.1]; omega) (by omega) hi.2.2
 refine ⟨hi.1, hv.1, by show (belowC x 5).2 ≤ 4; omega, ?_, ?_⟩
 ·show List.length (genIt _ _ _).2 ≤ 4
  rw [hi.2.1]; omega
 ·show colsOf (genIt _ _ _).2 ≤ 3
  rw [hv.2]; omega
theorem validG_fit {g : T46} (h : validG g = true) : Sh.fit s46 g := by
 have h1 := validG_t h
 have hm := validM_t h1.2.2.1
 refine ⟨trivial, by omega, fun r hr => ⟨by have := (hm.2 r hr).2; have := colsOf_at (m := g.2) (by omega); omega, fun _ _ => trivial⟩⟩

theorem codePk_ok {g : T46} {cs : List Int} (h : validG g = true) (hc : LA.VokB g.2.length cs) : codePk g cs = ((g.1, cs, combS g.2 cs), true) := by
 have hg := validG_t h
 rw [← codePk_y h (validV_of hc (by omega)) hc.1, genC h hc]
theorem combS_ok {g : T46} {cs : List Int} (h : validG g = true) (hc : LA.VokB g.2.length cs) : LA.VokB (g.2.getD 0 []).length (combS g.2 cs) := by
 have hm := validM_ok (validG_t h).2.2.1
 exact combTo_ok rfl (fun j => hc.rng j) g.2.length fun j hj => hm _ (LA.getD_in hj)
def pktD (x0 : T60) (x1 : T46) : T60 × T29 := ((vecD x0 ((List.length x1.2 : Nat) : Int)).1, (codePk x1 (vecD x0 ((List.length x1.2 : Nat) : Int)).2).1)
abbrev Q_spec_l11Packet := (fun (x0 : T60) (x1 : T46) => 0 ≤ x0.2.1 ∧ validG x1 = true)
def B_spec_l11Packet : BS := { t := 60, s := s60, dom := [s46], cod := [s29], pre := fun y x => Q_spec_l11Packet y x.1, upd := fun y x => (pktD y x.1).1, g := fun y x => ((pktD y x.1).2, ()) }
def S_spec_l11Packet : Sum := bSum 16 B_spec_l11Packet
def S_spec_l11Packet_tab : List (Nat × Sum) := [(30, S_spec_l5Vector), (29, S_spec_CodePacket)]
theorem S_spec_l11Packet_ok : FnOK Tryd.prog 16 S_spec_l11Packet := by
 refine at_enterB (B := B_spec_l11Packet) 18 (fun v y x => ⟨[(0, aP 1 0), (1, aG [cI x.1.1, .ro s27 x.1.2])], [(1, oX 60 [.ro (.u8 5) y.1, cI y.2.1, cI y.2.2]), (2, oP 1 v)]⟩) Tryd.func16 rfl (by kernel_rfl) (fun v y x => rfl) ?_
 rintro w0 Z0 b0 x0 ⟨x1, u⟩ a w
 revert x0 x1
 intro (x0 : T60) (x1 : T46) hpre hlens0 hlens h
 replace h : At w0 Z0 [b0] 18 ⟨[(0, aP 1 0), (1, aG [cI x1.1, .ro s27 x1.2])], [(1, oX 60 [.ro (.u8 5) x0.1, cI x0.2.1, cI x0.2.2]), (2, oP 1 (Value.pointer (some ⟨b0, 0, none⟩)))]⟩ a w := h
 replace hpre : Q_spec_l11Packet x0 x1 := hpre
 have hl1 : List.length x0.1 ≤ 9223372036854775807 := hlens0.1.1
 have hu0 : u8L x0.1 := hlens0.1.2
 have hl2 : List.length x1.2 ≤ 9223372036854775807 := hlens.1.2.1
 have hT : TabOK Tryd.prog w0 [b0] S_spec_l11Packet_tab := (.cons S_spec_l5Vector_ok (.cons S_spec_CodePacket_ok .nil))
 have hvg := validG_t hpre.2
 have hvd := vecD_ok (n := ((List.length x1.2 : Nat) : Int)) hpre.1
 have hvl := hvd.2.1
 have hgf := validG_fit hpre.2
 refine wp_seq ?_
 refine at_regq [{ ids := [3] }, { ids := [4] }] { ts := [0, 3, 4], os := [1, 2, 3, 4] } [] gamOK hT h (by kernel_rfl) trivial fun a w h => then_normal (wp_seq ?_)
 refine at_anyq [{}, {}, {}, {}, {}, { ids := [5] }, { ids := [6, 7] }, {}, {}, {}, { ids := [8] }, {}, {}] { ts := [4, 5], os := [1, 2, 4, 6, 7, 8] } [B_spec_l5Vector.pre x0 (((List.length x1.2 : Nat) : Int), ()), Q_spec_CodePacket x1 (vecD x0 ((List.length x1.2 : Nat) : Int)).2] gamOK hT mixed h (by kernel_rfl) ⟨(by exact ⟨hpre.1, by omega⟩), (by exact ⟨hgf, Sh.fit_len rfl (by omega)⟩), trivial⟩ fun a w h => then_normal (wp_seq ?_)
 refine at_regq [] { ts := [4], os := [1, 2, 4, 6, 7] } [] gamOK hT h (by kernel_rfl) trivial fun a w h => then_normal (wp_ret ?_)
 have hr1 : (((vecD x0 ((List.length x1.2 : Nat) : Int)).1, (codePk x1 (vecD x0 ((List.length x1.2 : Nat) : Int)).2).1) : T60 × T29) = pktD x0 x1 := by rfl
 exact at_returnB (B := B_spec_l11Packet) (c0 := x0) (x := (x1, ())) ((vecD x0 ((List.length x1.2 : Nat) : Int)).1) ((codePk x1 (vecD x0 ((List.length x1.2 : Nat) : Int)).2).1, ()) [(Value.pointer (some ⟨b0, 0, none⟩)) = (Value.pointer (some ⟨b0, 0, none⟩))] h (by kernel_rfl) ⟨rfl, trivial⟩ (congrArg (a₁ := ((vecD x0 ((List.length x1.2 : Nat) : Int)).1, (codePk x1 (vecD x0 ((List.length x1.2 : Nat) : Int)).2).1)) (a₂ := pktD x0 x1) (fun (z : T60 × T29) => z.1) hr1) (congrArg (a₁ := ((vecD x0 ((List.length x1.2 : Nat) : Int)).1, (codePk x1 (vecD x0 ((List.length x1.2 : Nat) : Int)).2).1)) (a₂ := pktD x0 x1) (fun (z : T60 × T29) => (z.2, ())) hr1)
theorem pktD_ok {x : T60} {g : T46} (h : 0 ≤ x.2.1) (hg : validG g = true) : 0 ≤ (pktD x g).1.2.1 ∧ (pktD x g).2.1 = g.1 ∧ LA.VokB g.2.length (pktD x g).2.2.1 ∧ (pktD x g).2.2.2 = combS g.2 (pktD x g).2.2.1 := by
 have hvd := vecD_ok (n := ((List.length g.2 : Nat) : Int)) h
 have hv2 := hvd.2
 rw [Int.toNat_natCast] at hv2
 unfold pktD
 rw [codePk_ok hg hv2]
 exact ⟨hvd.1, rfl, hv2, rfl⟩
theorem pktD_fit {x : T60} {g : T46} (h : 0 ≤ x.2.1) (hg : validG g = true) : Sh.fit s29 (pktD x g).2 := by
 obtain ⟨h1, h2, h3, h4⟩ := pktD_ok h hg
 have hv := validG_t hg
 have hc := combS_ok hg h3
 have hco := colsOf_at (m := g.2) (by omega)
 refine ⟨trivial, ⟨by have := h3.1; omega, fun _ _ => trivial⟩, ⟨?_, fun _ _ => trivial⟩⟩
 rw [h4]; have := hc.1; omega
theorem pktD_len {x : T60} {g : T46} (h : 0 ≤ x.2.1) (hg : validG g = true) : List.length (pktD x g).2.2.1 ≤ 8 ∧ (1 ≤ List.length (pktD x g).2.2.2 ∧ List.length (pktD x g).2.2.2 ≤ 16) ∧ ∀ j, 0 ≤ (pktD x g).2.2.2.getD j 0 ∧ (pktD x g).2.2.2.getD j 0 ≤ 1018 := by
 obtain ⟨_, _, h3, h4⟩ := pktD_ok h hg
 have hv := validG_t hg
 have hc := combS_ok hg h3
 have hco := colsOf_at (m := g.2) (by omega)
 rw [h4]
 exact ⟨by have := h3.1; omega, by have := hc.1; omega, fun j => hc.rng j⟩

def S_laws_sameInts : Sum := { fid := 11, dom := [s27, s27], cod := [(.bool 4)], dp := true, fz := false, pre := fun x => True, g := fun x => (((Sh.eqB s27) x.1 x.2.1), ()) }
def S_laws_sameInts_tab : List (Nat × Sum) := []
theorem S_laws_sameInts_ok : FnOK Tryd.prog 11 S_laws_sameInts := by
 refine at_enter 26 (fun x => ⟨[(0, aF (.int 3) x.1), (1, aF (.int 3) x.2.1)], []⟩) Tryd.func11 rfl (by kernel_rfl) (fun x => rfl) ?_
 rintro w0 Z0 ⟨x0, x1, u⟩ a w
 revert x0 x1
 intro (x0 : (List Int)) (x1 : (List Int)) hpre hlens h
 have hl1 : List.length x0 ≤ 9223372036854775807 := hlens.1.1
 have hl2 : List.length x1 ≤ 9223372036854775807 := hlens.2.1.1
 have hT : TabOK Tryd.prog w0 [] S_laws_sameInts_tab := .nil
 refine wp_seq ?_
 refine at_regq [] { ts := [0, 1, 4], os := [] } [] gamOK hT h (by kernel_rfl) trivial fun a w h => then_normal (wp_seq (wp_seq ?_))
 refine at_regq [] { ts := [0, 1, 4, 10], os := [] } [] gamOK hT h (by kernel_rfl) trivial fun a w h => then_normal ?_
 refine at_test (!decide (((List.length x0 : Nat) : Int) = ((List.length x1 : Nat) : Int))) h (by kernel_rfl) (fun h1 => ?_) (fun h1 => ?_)
 ·replace h1 : ¬ (((List.length x0 : Nat) : Int) = ((List.length x1 : Nat) : Int)) := of_decide_eq_false (notT h1)
  refine wp_seq ?_
  refine at_regq [] { ts := [0, 1, 4], os := [] } [] gamOK hT h (by kernel_rfl) trivial fun a w h => then_normal (wp_ret (then_ret ?_))
  exact at_return (false, ()) [] h (by kernel_rfl) trivial (congrArg (fun z => (z, ())) (show (false) = (Sh.eqB s27) x0 x1 from by exact (Sh.eqB_ne (fun e => h1 (by rw [e]))).symm))
 ·replace h1 : ((List.length x0 : Nat) : Int) = ((List.length x1 : Nat) : Int) := of_decide_eq_true (notF h1)
  refine wp_skip (then_normal (wp_seq (wp_seq ?_)))
  refine at_regq [] { ts := [0, 1, 4, 5], os := [] } [] gamOK hT h (by kernel_rfl) trivial fun a w h => then_normal (wp_block ?_)
  replace h := at_out (σ' := ⟨[(0, aF (.int 3) x0), (1, aF (.int 3) x1), (4, aB false), (5, aI 0)], []⟩) { ts := [0, 1, 4, 5], os := [] } h (by kernel_rfl)
  refine at_loop (fun i : Nat => (⟨[(0, aF (.int 3) x0), (1, aF (.int 3) x1), (4, aB false), (5, aI ((i : Nat) : Int))], []⟩ : St)) (fun i => (i ≤ List.length x0 ∧ x0.take i = x1.take i)) (fun i => List.length x0 - i) (0) h (st_congr1 (fun (d0 : Int) => (⟨[(0, aF (.int 3) x0), (1, aF (.int 3) x1), (4, aB false), (5, aI d0)], []⟩ : St)) (show (0 : Int) = (((0) : Nat) : Int) from by first | with_reducible rfl | (rfl) | rfl)) (by exact ⟨Nat.zero_le _, rfl⟩) ?_
  intro i a w hok0 h
  refine wp_seq (wp_seq ?_)
  refine at_regq [] { ts := [0, 1, 4, 5, 14], os := [] } [] gamOK hT h (by kernel_rfl) trivial fun a w h => then_normal ?_
  refine at_test (decide (((i : Nat) : Int) < ((List.length x0 : Nat) : Int))) h (by kernel_rfl) (fun h2 => ?_) (fun h2 => ?_)
  ·replace h2 : ((i : Nat) : Int) < ((List.length x0 : Nat) : Int) := of_decide_eq_true h2
   refine wp_skip (then_normal (wp_seq (wp_block (wp_seq ?_))))
   refine at_anyq [{}, {}, {}, {}, {}, {}, {}, {}, {}] { ts := [0, 1, 4, 5, 25], os := [] } [(0 : Int) ≤ ((i : Nat) : Int) ∧ ((i : Nat) : Int) < ((List.length x0 : Nat) : Int), (0 : Int) ≤ ((i : Nat) : Int) ∧ ((i : Nat) : Int) < ((List.length x1 : Nat) : Int)] gamOK hT mixed h (by kernel_rfl) ⟨(by refine ⟨?_, ?_⟩ <;> (first | omega | (simp only [lsA]; omega) | (simp <;> omega))), (by refine ⟨?_, ?_⟩ <;> (first | omega | (simp only [lsA]; omega) | (simp <;> omega))), trivial⟩ fun a w h => then_normal ?_
   refine at_test (!decide ((x0.getD i 0) = (x1.getD i 0))) h (by kernel_rfl) (fun h3 => ?_) (fun h3 => ?_)
   ·replace h3 : ¬ ((x0.getD i 0) = (x1.getD i 0)) := of_decide_eq_false (notT h3)
    refine wp_seq ?_
    refine at_regq [] { ts := [0, 1, 4, 5], os := [] } [] gamOK hT h (by kernel_rfl) trivial fun a w h => then_normal (wp_ret (in_ret (then_ret (then_ret (in_ret (then_ret ?_))))))
    exact at_return (false, ()) [] h (by kernel_rfl) trivial (congrArg (fun z => (z, ())) (show (false) = (Sh.eqB s27) x0 x1 from by exact (Sh.eqB_ne (s := s27) (fun e => h3 (by rw [e]))).symm))
   ·replace h3 : (x0.getD i 0) = (x1.getD i 0) := of_decide_eq_true (notF h3)
    refine wp_skip (in_normal (then_normal ?_))
    refine at_regq [{}, { nw := true }] { ts := [0, 1, 4, 5], os := [] } [I64 (((i : Nat) : Int) + 1)] gamOK hT h (by kernel_rfl) ⟨⟨by first | omega | (simp only [lsA]; omega) | (simp <;> omega), by first | omega | (simp only [lsA]; omega) | (simp <;> omega)⟩, trivial⟩ fun a w h => ?_
    replace h := at_out (σ' := ⟨[(0, aF (.int 3) x0), (1, aF (.int 3) x1), (4, aB false), (5, aI (((i : Nat) : Int) + 1))], []⟩) { ts := [0, 1, 4, 5], os := [] } h (by kernel_rfl)
    exact ⟨i + 1, at_eq h (st_congr1 (fun (d0 : Int) => (⟨[(0, aF (.int 3) x0), (1, aF (.int 3) x1), (4, aB false), (5, aI d0)], []⟩ : St)) (show (((i : Nat) : Int) + 1 : Int) = (((i + 1) : Nat) : Int) from by first | with_reducible rfl | (omega) | rfl)), (by exact ⟨by omega, eqTo_step (z := 0) (by omega) (by omega) hok0.2 h3⟩), (by omega)⟩
  ·replace h2 : ¬ (((i : Nat) : Int) < ((List.length x0 : Nat) : Int)) := of_decide_eq_false h2
   refine wp_exit (then_exit (then_exit (in_hit (then_normal (wp_seq ?_)))))
   refine at_regq [] { ts := [4], os := [] } [] gamOK hT h (by kernel_rfl) trivial fun a w h => then_normal (wp_ret ?_)
   exact at_return (true, ()) [] h (by kernel_rfl) trivial (congrArg (fun z => (z, ())) (show (true) = (Sh.eqB s27) x0 x1 from by (have e := hok0.2; rw [take_all (by omega), take_all (by omega)] at e; exact ((Sh.eqB_iff s27).2 e).symm)))

def S_laws_samePacket : Sum := { fid := 8, dom := [s29, s29], cod := [(.bool 4)], dp := true, fz := false, pre := fun x => True, g := fun x => (((Sh.eqB s29) x.1 x.2.1), ()) }
def S_laws_samePacket_tab : List (Nat × Sum) := [(11, S_laws_sameInts)]
theorem S_laws_samePacket_ok : FnOK Tryd.prog 8 S_laws_samePacket := by
 refine at_enter 24 (fun x => ⟨[(0, aG [cI x.1.1, .ro (.int 3) x.1.2.1, .ro (.int 3) x.1.2.2]), (1, aG [cI x.2.1.1, .ro (.int 3) x.2.1.2.1, .ro (.int 3) x.2.1.2.2])], []⟩) Tryd.func8 rfl (by kernel_rfl) (fun x => rfl) ?_
 rintro w0 Z0 ⟨x0, x1, u⟩ a w
 revert x0 x1
 intro (x0 : T29) (x1 : T29) hpre hlens h
 have hl1 : List.length x0.2.1 ≤ 9223372036854775807 := hlens.1.2.1.1
 have hl2 : List.length x0.2.2 ≤ 9223372036854775807 := hlens.1.2.2.1
 have hl3 : List.length x1.2.1 ≤ 9223372036854775807 := hlens.2.1.2.1.1
 have hl4 : List.length x1.2.2 ≤ 9223372036854775807 := hlens.2.1.2.2.1
 have hT : TabOK Tryd.prog w0 [] S_laws_samePacket_tab := (.cons S_laws_sameInts_ok .nil)
 refine wp_seq ?_
 refine at_regq [{ ids := [1] }, { ids := [2] }] { ts := [2, 3, 4], os := [1, 2] } [] gamOK hT h (by kernel_rfl) trivial fun a w h => then_normal (wp_seq ?_)
 by_cases h1 : x0.1 = x1.1
 ·rcases Bool.eq_false_or_eq_true (((Sh.eqB s27) x0.2.1 x1.2.1)) with h2 | h2
  ·refine at_regq [{}, {}, {}, {}, { hint := some (aB true) }, {}, {}, {}, {}, {}, { hint := some (aB true) }] { ts := [4], os := [] } [(AV.p (.c (.v (.bool (decide (x0.1 = x1.1))))) = AV.p (.c (.v (.bool true)))), True, (AV.p (.c (.v (.bool (((Sh.eqB s27) x0.2.1 x1.2.1))))) = AV.p (.c (.v (.bool true)))), True] gamOK hT h (by kernel_rfl) ⟨hint_bool (decide_eq_true h1), trivial, hint_bool (h2), trivial, trivial⟩ fun a w h => then_normal (wp_ret ?_)
   exact at_return (((Sh.eqB s27) x0.2.2 x1.2.2), ()) [] h (by kernel_rfl) trivial (congrArg (fun z => (z, ())) (show (((Sh.eqB s27) x0.2.2 x1.2.2)) = (Sh.eqB s29) x0 x1 from by (show _ = Sh.eqB s29 x0 x1; simp_all [Sh.eqB])))
  ·refine at_regq [{}, {}, {}, {}, { hint := some (aB true) }, {}, {}, {}, {}, {}, { hint := some (aB false) }] { ts := [4], os := [] } [(AV.p (.c (.v (.bool (decide (x0.1 = x1.1))))) = AV.p (.c (.v (.bool true)))), True, (AV.p (.c (.v (.bool (((Sh.eqB s27) x0.2.1 x1.2.1))))) = AV.p (.c (.v (.bool false))))] gamOK hT h (by kernel_rfl) ⟨hint_bool (decide_eq_true h1), trivial, hint_bool (h2), trivial⟩ fun a w h => then_normal (wp_ret ?_)
   exact at_return (false, ()) [] h (by kernel_rfl) trivial (congrArg (fun z => (z, ())) (show (false) = (Sh.eqB s29) x0 x1 from by (show _ = Sh.eqB s29 x0 x1; simp_all [Sh.eqB])))
 ·refine at_regq [{}, {}, {}, {}, { hint := some (aB false) }] { ts := [4], os := [] } [(AV.p (.c (.v (.bool (decide (x0.1 = x1.1))))) = AV.p (.c (.v (.bool false))))] gamOK hT h (by kernel_rfl) ⟨hint_bool (decide_eq_false h1), trivial⟩ fun a w h => then_normal (wp_ret ?_)
  exact at_return (false, ()) [] h (by kernel_rfl) trivial (congrArg (fun z => (z, ())) (show (false) = (Sh.eqB s29) x0 x1 from by (show _ = Sh.eqB s29 x0 x1; simp_all [Sh.eqB])))

abbrev rcF (r : T26) (p : T29) : Bool := fndK (fun x => x.1) (0, (0, (0, ([], 0)))) r.2 p.1
abbrev rcA (r : T26) (p : T29) : Nat := bsK (fun x => x.1) (0, (0, (0, ([], 0)))) r.2 p.1
abbrev rcN (p : T29) : T51 := newRec p.1 ((List.length p.2.1 : Nat) : Int) ((List.length p.2.2 : Nat) : Int)
abbrev rcI (r : T26) (p : T29) : List T51 := insAt r.2 (rcA r p) [accU (rcN p) p]
abbrev rcB (r : T26) (p : T29) : Bool := accOK (rcN p) p && !(decide (List.length r.2 = 4) && decide (rcA r p = 0))
def rcvD (r : T26) (p : T29) : Bool := bif rcF r p then accOK (r.2.getD (rcA r p) (0, (0, (0, ([], 0))))) p else rcB r p
def rcvU (r : T26) (p : T29) : T26 := bif rcF r p then (r.1, r.2.set (rcA r p) (accU (r.2.getD (rcA r p) (0, (0, (0, ([], 0))))) p)) else bif rcB r p then (r.1, bif decide (List.length r.2 = 4) then (rcI r p).drop 1 else rcI r p) else r
def rcvL (r : T26) (p : T29) : T26 × Bool := bif validL r then (rcvU r p, rcvD r p) else (r, false)
theorem rcvL_n {r : T26} {p : T29} (h : validL r = false) : (r, false) = rcvL r p := by unfold rcvL; rw [h]; rfl
theorem rcvL_y {r : T26} {p : T29} (h : validL r = true) : (rcvU r p, rcvD r p) = rcvL r p := by unfold rcvL; rw [h]; rfl
theorem rcvD_f {r : T26} {p : T29} (h : rcF r p = true) : rcvD r p = accOK (r.2.getD (rcA r p) (0, (0, (0, ([], 0))))) p := by unfold rcvD; rw [h]; rfl
theorem rcvU_f {r : T26} {p : T29} (h : rcF r p = true) : rcvU r p = (r.1, r.2.set (rcA r p) (accU (r.2.getD (rcA r p) (0, (0, (0, ([], 0))))) p)) := by unfold rcvU; rw [h]; rfl
theorem rcB_n {r : T26} {p : T29} (h : accOK (rcN p) p = false ∨ List.length r.2 = 4 ∧ rcA r p = 0) : rcB r p = false := by
 rcases h with h | ⟨h1, h2⟩
 ·unfold rcB; rw [h]; rfl
 ·unfold rcB; rw [decide_eq_true h1, decide_eq_true h2]; simp
theorem rcB_y {r : T26} {p : T29} (h : accOK (rcN p) p = true) (h2 : ¬ List.length r.2 = 4 ∨ ¬ rcA r p = 0) : rcB r p = true := by
 unfold rcB; rw [h]
 rcases h2 with h2 | h2 <;> rw [decide_eq_false h2] <;> simp
theorem rcvD_n {r : T26} {p : T29} {b : Bool} (h : rcF r p = false) (hb : rcB r p = b) : rcvD r p = b := by unfold rcvD; rw [h, hb]; rfl
theorem rcvU_n {r : T26} {p : T29} (h : rcF r p = false) (hb : rcB r p = false) : rcvU r p = r := by unfold rcvU; rw [h, hb]; rfl
theorem rcvU_i {r : T26} {p : T29} (h : rcF r p = false) (hb : rcB r p = true) (h4 : ¬ List.length r.2 = 4) : rcvU r p = (r.1, rcI r p) := by unfold rcvU; rw [h, hb, decide_eq_false h4]; rfl
theorem rcvU_d {r : T26} {p : T29} (h : rcF r p = false) (hb : rcB r p = true) (h4 : List.length r.2 = 4) : rcvU r p = (r.1, (rcI r p).drop 1) := by unfold rcvU; rw [h, hb, decide_eq_true h4]; rfl
def rcvP (r : T26) : Prop := List.length r.2 ≤ 4 ∧ ∀ i, i < List.length r.2 → recP (r.2.getD i (0, (0, (0, ([], 0)))))
theorem rcvP_of {r : T26} (h : validL r = true) : rcvP r := ⟨(validL_t h).2.1, fun i hi => recP_of ((validL_t h).2.2.2 i hi)⟩
theorem newRec_fit (g s w : Int) : Sh.fit s51 (newRec g s w) := by
 unfold newRec
 split <;> exact ⟨trivial, trivial, trivial, ⟨Nat.zero_le _, fun x hx => by cases hx⟩, trivial⟩
theorem recP_new (g s w : Int) : recP (newRec g s w) := by
 unfold newRec
 split <;> exact ⟨Nat.zero_le _, fun v hv => absurd hv (by simp [cofs])⟩
theorem acc_new (g s w : Int) (p : T29) : acceptR (newRec g s w) p = (accU (newRec g s w) p, accOK (newRec g s w) p) := by
 unfold acceptR
 by_cases h : accOK (newRec g s w) p = true
 ·have hv : validR (newRec g s w) = true := by
   by_cases hf : isFmt g s w = true
   ·unfold newRec validR; rw [if_pos hf]; simp [hf]; exact ⟨by decide, rfl⟩
   ·exfalso
    unfold accOK at h
    rw [Bool.and_eq_true, Bool.and_eq_true] at h
    have h2 := (okPkt_v h.2.1).1.2.1
    unfold newRec at h2; rw [if_neg hf] at h2
    have h2 : (1 : Int) ≤ 0 ∧ (0 : Int) ≤ 8 := h2
    omega
  rw [if_pos ⟨hv, h⟩, h]
 ·rw [if_neg (fun e => h e.2), accU_no (Bool.eq_false_iff.2 h), Bool.eq_false_iff.2 h]
theorem acc_val {r : T51} {p : T29} (h : validR r = true) : acceptR r p = (accU r p, accOK r p) := by
 unfold acceptR
 by_cases h2 : accOK r p = true
 ·rw [if_pos ⟨h, h2⟩, h2]
 ·rw [if_neg (fun e => h2 e.2), accU_no (Bool.eq_false_iff.2 h2), Bool.eq_false_iff.2 h2]
section
variable {α : Type}
theorem bsK_eq {f : α → Int} {z : α} {xs : List α} {v : Int} {i : Nat} (hs : srtK f z xs) (h1 : ∀ j, j < i → f (xs.getD j z) < v) (h2 : i < xs.length → v ≤ f (xs.getD i z)) (hi : i ≤ xs.length) : bsK f z xs v = i := by
 obtain ⟨h3, h4⟩ := bsK_spec hs v
 have hb := bsK_le f z xs v
 rcases Nat.lt_trichotomy (bsK f z xs v) i with h | h | h
 ·have := h1 _ h; have := h4 _ (Nat.le_refl _) (by omega); omega
 ·exact h
 ·have := h3 i h; have := h2 (by omega); omega
theorem ctL_set1 (c : α → Nat) (y : α) : ∀ (xs : List α) (i : Nat), ctL c (xs.set i y) ≤ ctL c xs + c y
 | [], _ => Nat.zero_le _
 | x :: l, 0 => by show c y + ctL c l ≤ c x + ctL c l + c y; omega
 | x :: l, i + 1 => by have := ctL_set1 c y l i; show c x + ctL c (l.set i y) ≤ c x + ctL c l + c y; omega
theorem ctL_app1 (c : α → Nat) : ∀ (xs ys : List α), ctL c (xs ++ ys) = ctL c xs + ctL c ys
 | [], ys => (Nat.zero_add _).symm
 | x :: l, ys => by have := ctL_app1 c l ys; show c x + ctL c (l ++ ys) = c x + ctL c l + ctL c ys; omega
theorem ctL_ins1 (c : α → Nat) (xs : List α) (i : Nat) (y : α) : ctL c (insAt xs i [y]) = ctL c xs + c y := by
 have h := ctL_app1 c (xs.take i) (xs.drop i)
 rw [List.take_append_drop] at h
 unfold insAt; rw [ctL_app1, ctL_app1, h]
 show ctL c _ + (c y + 0) + ctL c _ = _
 omega
theorem ctL_drop1 (c : α → Nat) (xs : List α) : ctL c (xs.drop 1) ≤ ctL c xs := by
 cases xs with
 | nil => exact Nat.le_refl _
 | cons x l => show ctL c l ≤ c x + ctL c l; omega
theorem ins_len1 (xs : List α) (i : Nat) (y : α) : (insAt xs i [y]).length = xs.length + 1 := by
 unfold insAt; simp; omega
end
abbrev rcX (p : T29) : T51 × Bool := acceptR (rcN p) p
abbrev rcY (r : T26) (p : T29) (i : Nat) : List T51 := (((([] : List T51) ++ (List.drop 0 (List.take i r.2))) ++ ([(rcX p).1])) ++ (List.drop i (List.take (List.length r.2) r.2)))
theorem rcY_eq {r : T26} {p : T29} {i : Nat} (h : rcA r p = i) : rcY r p i = rcI r p := by
 show ((([] : List T51) ++ List.drop 0 (List.take i r.2)) ++ [(acceptR (rcN p) p).1]) ++ List.drop i (List.take (List.length r.2) r.2) = insAt r.2 (rcA r p) [accU (rcN p) p]
 rw [acc_new, h, take_all (Nat.le_refl _), List.nil_append, List.drop_zero]; rfl
theorem rcS_nf {r : T26} {p : T29} {i : Nat} (hv : validL r = true) (h1 : ∀ j, j < i → (r.2.getD j (0, (0, (0, ([], 0))))).1 < p.1) (h2 : i < List.length r.2 → ¬ (r.2.getD i (0, (0, (0, ([], 0))))).1 < p.1) (hi : i ≤ List.length r.2) (hn : ¬ i < List.length r.2 ∨ ¬ (r.2.getD i (0, (0, (0, ([], 0))))).1 = p.1) : rcF r p = false ∧ rcA r p = i := by
 have e : rcA r p = i := bsK_eq (validL_t hv).2.2.1 h1 (fun h => by have := h2 h; omega) hi
 refine ⟨decide_eq_false ?_, e⟩
 rw [show bsK (fun x => x.1) (0, (0, (0, ([], 0)))) r.2 p.1 = i from e]
 rintro ⟨h3, h4⟩
 rcases hn with hn | hn
 ·exact hn h3
 ·exact hn h4
theorem rcS_f {r : T26} {p : T29} {i : Nat} (hv : validL r = true) (hi : i < List.length r.2) (he : (r.2.getD i (0, (0, (0, ([], 0))))).1 = p.1) : ((r.1, r.2.set i (acceptR (r.2.getD i (0, (0, (0, ([], 0))))) p).1), (acceptR (r.2.getD i (0, (0, (0, ([], 0))))) p).2) = rcvL r p := by
 have hw := validL_t hv
 have h1 : rcF r p = true := fndK_at hw.2.2.1 hi he
 have h2 : rcA r p = i := bsK_at hw.2.2.1 hi he
 rw [← rcvL_y hv, rcvD_f h1, rcvU_f h1, h2, acc_val (hw.2.2.2 i hi)]
theorem rcS_2 {r : T26} {p : T29} {i : Nat} (hv : validL r = true) (hc : rcF r p = false ∧ rcA r p = i) (h : (rcX p).2 = false ∨ i = 0 ∧ List.length r.2 = 4) : (r, false) = rcvL r p := by
 have hb : rcB r p = false := rcB_n (by
  rcases h with h | ⟨h, h4⟩
  ·exact .inl (by rw [show rcX p = _ from acc_new _ _ _ _] at h; exact h)
  ·exact .inr ⟨h4, hc.2.trans h⟩)
 rw [← rcvL_y hv, rcvD_n hc.1 hb, rcvU_n hc.1 hb]
theorem rcS_i {r : T26} {p : T29} {i : Nat} (hv : validL r = true) (hc : rcF r p = false ∧ rcA r p = i) (h : (rcX p).2 = true) (h4 : ¬ List.length r.2 = 4) : ((r.1, rcY r p i), true) = rcvL r p := by
 have hb : rcB r p = true := rcB_y (by rw [show rcX p = _ from acc_new _ _ _ _] at h; exact h) (.inl h4)
 rw [← rcvL_y hv, rcvD_n hc.1 hb, rcvU_i hc.1 hb h4, rcY_eq hc.2]
theorem rcS_d {r : T26} {p : T29} {i : Nat} (hv : validL r = true) (hc : rcF r p = false ∧ rcA r p = i) (h : (rcX p).2 = true) (h4 : List.length r.2 = 4) (h0 : ¬ i = 0) : ((r.1, List.drop 1 (List.take (List.length (rcY r p i)) (rcY r p i))), true) = rcvL r p := by
 have hb : rcB r p = true := rcB_y (by rw [show rcX p = _ from acc_new _ _ _ _] at h; exact h) (.inr (by rw [hc.2]; exact h0))
 rw [← rcvL_y hv, rcvD_n hc.1 hb, rcvU_d hc.1 hb h4, take_all (Nat.le_refl _), rcY_eq hc.2]
theorem rcY_len {r : T26} {p : T29} {i : Nat} (hc : rcF r p = false ∧ rcA r p = i) : List.length (((([] : List T51) ++ (List.drop 0 (List.take i r.2))) ++ ([(acceptR (newRec p.1 ((List.length p.2.1 : Nat) : Int) ((List.length p.2.2 : Nat) : Int)) p).1])) ++ (List.drop i (List.take (List.length r.2) r.2))) = List.length r.2 + 1 := by
 show List.length (rcY r p i) = _
 rw [rcY_eq hc.2]; exact ins_len1 _ _ _
abbrev Q_spec_l31Copy := (fun (x0 : T26) => Sh.fit s26 x0)
def S_spec_l31Copy : Sum := { fid := 40, dom := [s26], cod := [s26], dp := false, fz := false, pre := fun x => Q_spec_l31Copy x.1, g := fun x => (((idD s26) x.1), ()) }
def S_spec_l31Copy_tab : List (Nat × Sum) := [(52, S_spec_l15Copy)]
theorem S_spec_l31Copy_ok : FnOK Tryd.prog 40 S_spec_l31Copy := by
 refine at_enter 27 (fun x => ⟨[(0, aG [cI x.1.1, .ro s51 x.1.2])], []⟩) Tryd.func40 rfl (by kernel_rfl) (fun x => rfl) ?_
 rintro w0 Z0 ⟨x0, u⟩ a w
 revert x0
 intro (x0 : T26) hpre hlens h
 replace hpre : Q_spec_l31Copy x0 := hpre
 have hT : TabOK Tryd.prog w0 [] S_spec_l31Copy_tab := (.cons S_spec_l15Copy_ok .nil)
 have hf0 : Sh.fit s26 x0 := hpre
 have hn0_1 : List.length x0.2 ≤ 1073741824 := hf0.2.1
 refine wp_seq ?_
 refine at_regq [{ ids := [1] }, { ids := [2] }] { ts := [1, 2], os := [1, 2] } [] gamOK hT h (by kernel_rfl) trivial fun a w h => then_normal (wp_seq ?_)
 refine at_regq [{}, {}, {}, { ids := [3] }] { ts := [1, 2, 3], os := [1, 2, 3] } [] gamOK hT h (by kernel_rfl) trivial fun a w h => then_normal (wp_seq (wp_seq ?_))
 refine at_regq [] { ts := [1, 2, 3, 4], os := [1, 2, 3] } [] gamOK hT h (by kernel_rfl) trivial fun a w h => then_normal (wp_block ?_)
 replace h := at_out (σ' := ⟨[(1, aP 1 0), (2, aP 2 0), (3, aP 3 0), (4, aI 0)], [(1, oX 26 [cI x0.1, .ro s51 x0.2]), (2, oX 26 [cI 0, cN]), (3, oX 26 [cI x0.1, .sl 4]), (4, oF s51 ([] : List T51))]⟩) { mt := [⟨some 3, 1, 4, false, s51⟩], ts := [1, 2, 3, 4], os := [1, 2, 3, 4] } h (by kernel_rfl)
 refine at_loop (fun i : Nat => (⟨[(1, aP 1 0), (2, aP 2 0), (3, aP 3 0), (4, aI ((i : Nat) : Int))], [(1, oX 26 [cI x0.1, .ro s51 x0.2]), (2, oX 26 [cI 0, cN]), (3, oX 26 [cI x0.1, .sl 4]), (4, oF s51 (List.take i x0.2))]⟩ : St)) (fun i => i ≤ List.length x0.2) (fun i => List.length x0.2 - i) (0) h (st_congr2 (fun (d0 : List T51) (d1 : Int) => (⟨[(1, aP 1 0), (2, aP 2 0), (3, aP 3 0), (4, aI d1)], [(1, oX 26 [cI x0.1, .ro s51 x0.2]), (2, oX 26 [cI 0, cN]), (3, oX 26 [cI x0.1, .sl 4]), (4, oF s51 d0)]⟩ : St)) (show (([] : List T51) : List T51) = (List.take (0) x0.2) from by first | with_reducible rfl | (rfl) | rfl) (show (0 : Int) = (((0) : Nat) : Int) from by first | with_reducible rfl | (rfl) | rfl)) (by omega) ?_
 intro i a w hok0 h
 have hlt0 := len_take_le (xs := x0.2) i
 refine wp_seq (wp_seq ?_)
 refine at_regq [] { ts := [1, 2, 3, 4, 12], os := [1, 2, 3, 4] } [] gamOK hT h (by kernel_rfl) trivial fun a w h => then_normal ?_
 refine at_test (decide (((i : Nat) : Int) < ((List.length x0.2 : Nat) : Int))) h (by kernel_rfl) (fun h1 => ?_) (fun h1 => ?_)
 ·replace h1 : ((i : Nat) : Int) < ((List.length x0.2 : Nat) : Int) := of_decide_eq_true h1
  refine wp_skip (then_normal (wp_seq (wp_block ?_)))
  refine at_anyq [{}, {}, {}, {}, {}, {}, {}, { frz := true }, { ids := [5], dp := false }, { ids := [6], dp := false }, {}, {}] { ts := [1, 2, 3, 4], os := [1, 2, 3, 6] } [(0 : Int) ≤ ((i : Nat) : Int) ∧ ((i : Nat) : Int) < ((List.length x0.2 : Nat) : Int), Q_spec_l15Copy (x0.2.getD i (0, (0, (0, ([], 0))))), (List.length (List.take i x0.2) + List.length ([(x0.2.getD i (0, (0, (0, ([], 0)))))])) * 56 ≤ 140737488355328] gamOK hT mixed h (by kernel_rfl) ⟨(by refine ⟨?_, ?_⟩ <;> (first | omega | (simp only [lsA]; omega) | (simp <;> omega))), (by exact (Sh.fit_getD hf0.2 i)), (by (have hL0 := (show List.length (List.take i x0.2) ≤ 1073741824 from ((Sh.fit_take hf0.2 i)).1); first | omega | (simp only [lsA]; omega) | (simp <;> omega))), trivial⟩ fun a w h => in_normal (then_normal ?_)
  refine at_regq [{}, { nw := true }] { ts := [1, 2, 3, 4], os := [1, 2, 3, 6] } [I64 (((i : Nat) : Int) + 1)] gamOK hT h (by kernel_rfl) ⟨⟨by first | omega | (simp only [lsA]; omega) | (simp <;> omega), by first | omega | (simp only [lsA]; omega) | (simp <;> omega)⟩, trivial⟩ fun a w h => ?_
  replace h := at_out (σ' := ⟨[(1, aP 1 0), (2, aP 2 0), (3, aP 3 0), (4, aI (((i : Nat) : Int) + 1))], [(1, oX 26 [cI x0.1, .ro s51 x0.2]), (2, oX 26 [cI 0, cN]), (3, oX 26 [cI x0.1, .sl 4]), (4, oF s51 ((List.take i x0.2) ++ ([(x0.2.getD i (0, (0, (0, ([], 0)))))])))]⟩) { ts := [1, 2, 3, 4], os := [1, 2, 3, 6], rn := [(6, 4)] } h (by kernel_rfl)
  exact ⟨i + 1, at_eq h (st_congr2 (fun (d0 : List T51) (d1 : Int) => (⟨[(1, aP 1 0), (2, aP 2 0), (3, aP 3 0), (4, aI d1)], [(1, oX 26 [cI x0.1, .ro s51 x0.2]), (2, oX 26 [cI 0, cN]), (3, oX 26 [cI x0.1, .sl 4]), (4, oF s51 d0)]⟩ : St)) (show (((List.take i x0.2) ++ ([(x0.2.getD i (0, (0, (0, ([], 0)))))])) : List T51) = (List.take (i + 1) x0.2) from by first | with_reducible rfl | (rw [take_snoc (z := (0, (0, (0, ([], 0))))) (by omega)]) | rfl) (show (((i : Nat) : Int) + 1 : Int) = (((i + 1) : Nat) : Int) from by first | with_reducible rfl | (omega) | rfl)), (by omega), (by omega)⟩
 ·replace h1 : ¬ (((i : Nat) : Int) < ((List.length x0.2 : Nat) : Int)) := of_decide_eq_false h1
  refine wp_exit (then_exit ?_)
  replace h := at_out (σ' := ⟨[(2, aP 2 0), (3, aP 3 0)], [(2, oX 26 [cI 0, cN]), (3, oX 26 [cI x0.1, .sl 4]), (4, oF s51 (List.take i x0.2))]⟩) { ts := [2, 3], os := [2, 3, 4] } h (by kernel_rfl)
  replace h := at_eq (σ' := ⟨[(2, aP 2 0), (3, aP 3 0)], [(2, oX 26 [cI 0, cN]), (3, oX 26 [cI x0.1, .sl 4]), (4, oF s51 x0.2)]⟩) h (st_congr1 (fun (d0 : List T51) => (⟨[(2, aP 2 0), (3, aP 3 0)], [(2, oX 26 [cI 0, cN]), (3, oX 26 [cI x0.1, .sl 4]), (4, oF s51 d0)]⟩ : St)) (show ((List.take i x0.2) : List T51) = x0.2 from by first | with_reducible rfl | (rw [take_all (by omega)]) | rfl))
  refine then_exit (in_hit (then_normal (wp_seq ?_)))
  refine at_regq [] { ts := [2], os := [2, 4] } [] gamOK hT h (by kernel_rfl) trivial fun a w h => then_normal (wp_ret ?_)
  exact at_return (x0, ()) [] h (by kernel_rfl) trivial (congrArg (fun z => (z, ())) (show (x0) = (idD s26) x0 from by rfl))

end Go.Proofs.YtpffjagdefkfkaaDoor
