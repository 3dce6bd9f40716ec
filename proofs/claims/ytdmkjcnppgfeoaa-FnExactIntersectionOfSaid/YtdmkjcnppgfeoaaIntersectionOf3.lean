/- The law FnExactIntersectionOf returns true for every input and leaves its arguments as they were. No condition. -/
import Derived.Test.YtdmkjcnppgfeoaaIntersectionOf2
import Derived.Test.YtdmkjcnppgfeoaaLA
import Derived.Test.YtdmkjcnppgfeoaaProg
import Derived.Test.YtdmkjcnppgfeoaaRows
import Derived.Test.YtdmkjcnppgfeoaaFX
namespace Go.Proofs.Ytdmkjcnppgfeoaa
open Go.RowKit
set_option linter.unusedVariables false
set_option linter.unusedSimpArgs false
def validP (x0 : T61) (x1 : Int) (x2 : Int) : Bool := (if (isFmt x0.1 x1 x2) = true then (if ((List.length x0.2.1 : Nat) : Int) = x1 then (if ((List.length x0.2.2 : Nat) : Int) = x2 then (if (validV x0.2.1) = true then (validV x0.2.2) else false) else false) else false) else false)
abbrev Q_impl_IsValidPacket := (fun (x0 : T61) (x1 : Int) (x2 : Int) => Sh.fit s61 x0)
def S_impl_IsValidPacket : Sum := { fid := 230, dom := [s61, (.int 3), (.int 3)], cod := [(.bool 4)], dp := true, fz := false, pre := fun x => Q_impl_IsValidPacket x.1 x.2.1 x.2.2.1, g := fun x => ((validP x.1 x.2.1 x.2.2.1), ()) }
def S_impl_IsValidPacket_tab : List (Nat × Sum) := [(228, S_impl_isFormat), (253, S_impl_IsValidVector)]
theorem S_impl_IsValidPacket_ok : FnOK Try.prog 230 S_impl_IsValidPacket := by
 refine at_enter 36 (fun x => ⟨[(0, aG [cI x.1.1, .ro (.int 3) x.1.2.1, .ro (.int 3) x.1.2.2]), (1, aI x.2.1), (2, aI x.2.2.1)], []⟩) Try.func230 rfl (by kernel_rfl) (fun x => rfl) ?_
 rintro w0 Z0 ⟨x0, x1, x2, u⟩ a w
 revert x0 x1 x2
 intro (x0 : T61) (x1 : Int) (x2 : Int) hpre hlens h
 replace hpre : Q_impl_IsValidPacket x0 x1 x2 := hpre
 have hT : TabOK Try.prog S_impl_IsValidPacket_tab := (.cons S_impl_isFormat_ok (.cons S_impl_IsValidVector_ok .nil))
 have hf0 : Sh.fit s61 x0 := hpre
 have hn0_1 : List.length x0.2.1 ≤ 1073741824 := hf0.2.1.1
 have hn0_2 : List.length x0.2.2 ≤ 1073741824 := hf0.2.2.1
 refine wp_seq ?_
 refine at_regq [{ ids := [1] }] { ts := [1, 2, 3, 6], os := [1] } [] gamOK hT h (by kernel_rfl) trivial fun a w h => then_normal (wp_seq ?_)
 rcases Bool.eq_false_or_eq_true ((isFmt x0.1 x1 x2)) with h1 | h1
 ·have hvh1 := isFmt_t h1
  by_cases h2 : ((List.length x0.2.1 : Nat) : Int) = x1
  ·by_cases h3 : ((List.length x0.2.2 : Nat) : Int) = x2
   ·rcases Bool.eq_false_or_eq_true ((validV x0.2.1)) with h4 | h4
    ·have hvh4 := validV_t h4
     refine at_regq [{}, {}, {}, {}, { hint := some (aB true) }, {}, {}, {}, {}, {}, { hint := some (aB true) }, {}, {}, {}, {}, {}, {}, { hint := some (aB true) }, {}, {}, {}, {}, { hint := some (aB true) }] { ts := [6], os := [] } [True, (AV.p (.c (.v (.bool ((isFmt x0.1 x1 x2))))) = AV.p (.c (.v (.bool true)))), (AV.p (.c (.v (.bool (decide (((List.length x0.2.1 : Nat) : Int) = x1))))) = AV.p (.c (.v (.bool true)))), (AV.p (.c (.v (.bool (decide (((List.length x0.2.2 : Nat) : Int) = x2))))) = AV.p (.c (.v (.bool true)))), Q_impl_IsValidVector x0.2.1, (AV.p (.c (.v (.bool ((validV x0.2.1))))) = AV.p (.c (.v (.bool true)))), Q_impl_IsValidVector x0.2.2] gamOK hT h (by kernel_rfl) ⟨trivial, hint_bool (h1), hint_bool (decide_eq_true h2), hint_bool (decide_eq_true h3), (by exact hf0.2.1), hint_bool (h4), (by exact hf0.2.2), trivial⟩ fun a w h => then_normal (wp_ret ?_)
     exact at_return ((validV x0.2.2), ()) [] h (by kernel_rfl) trivial (congrArg (fun z => (z, ())) (show ((validV x0.2.2)) = validP x0 x1 x2 from by first | rfl | (unfold validP; rw [if_pos h1, if_pos h2, if_pos h3, if_pos h4])))
    ·refine at_regq [{}, {}, {}, {}, { hint := some (aB true) }, {}, {}, {}, {}, {}, { hint := some (aB true) }, {}, {}, {}, {}, {}, {}, { hint := some (aB true) }, {}, {}, {}, {}, { hint := some (aB false) }] { ts := [6], os := [] } [True, (AV.p (.c (.v (.bool ((isFmt x0.1 x1 x2))))) = AV.p (.c (.v (.bool true)))), (AV.p (.c (.v (.bool (decide (((List.length x0.2.1 : Nat) : Int) = x1))))) = AV.p (.c (.v (.bool true)))), (AV.p (.c (.v (.bool (decide (((List.length x0.2.2 : Nat) : Int) = x2))))) = AV.p (.c (.v (.bool true)))), Q_impl_IsValidVector x0.2.1, (AV.p (.c (.v (.bool ((validV x0.2.1))))) = AV.p (.c (.v (.bool false))))] gamOK hT h (by kernel_rfl) ⟨trivial, hint_bool (h1), hint_bool (decide_eq_true h2), hint_bool (decide_eq_true h3), (by exact hf0.2.1), hint_bool (h4), trivial⟩ fun a w h => then_normal (wp_ret ?_)
     exact at_return (false, ()) [] h (by kernel_rfl) trivial (congrArg (fun z => (z, ())) (show (false) = validP x0 x1 x2 from by first | rfl | (unfold validP; rw [if_pos h1, if_pos h2, if_pos h3, if_neg (neT h4)])))
   ·refine at_regq [{}, {}, {}, {}, { hint := some (aB true) }, {}, {}, {}, {}, {}, { hint := some (aB true) }, {}, {}, {}, {}, {}, {}, { hint := some (aB false) }] { ts := [6], os := [] } [True, (AV.p (.c (.v (.bool ((isFmt x0.1 x1 x2))))) = AV.p (.c (.v (.bool true)))), (AV.p (.c (.v (.bool (decide (((List.length x0.2.1 : Nat) : Int) = x1))))) = AV.p (.c (.v (.bool true)))), (AV.p (.c (.v (.bool (decide (((List.length x0.2.2 : Nat) : Int) = x2))))) = AV.p (.c (.v (.bool false))))] gamOK hT h (by kernel_rfl) ⟨trivial, hint_bool (h1), hint_bool (decide_eq_true h2), hint_bool (decide_eq_false h3), trivial⟩ fun a w h => then_normal (wp_ret ?_)
    exact at_return (false, ()) [] h (by kernel_rfl) trivial (congrArg (fun z => (z, ())) (show (false) = validP x0 x1 x2 from by first | rfl | (unfold validP; rw [if_pos h1, if_pos h2, if_neg h3])))
  ·refine at_regq [{}, {}, {}, {}, { hint := some (aB true) }, {}, {}, {}, {}, {}, { hint := some (aB false) }] { ts := [6], os := [] } [True, (AV.p (.c (.v (.bool ((isFmt x0.1 x1 x2))))) = AV.p (.c (.v (.bool true)))), (AV.p (.c (.v (.bool (decide (((List.length x0.2.1 : Nat) : Int) = x1))))) = AV.p (.c (.v (.bool false))))] gamOK hT h (by kernel_rfl) ⟨trivial, hint_bool (h1), hint_bool (decide_eq_false h2), trivial⟩ fun a w h => then_normal (wp_ret ?_)
   exact at_return (false, ()) [] h (by kernel_rfl) trivial (congrArg (fun z => (z, ())) (show (false) = validP x0 x1 x2 from by first | rfl | (unfold validP; rw [if_pos h1, if_neg h2])))
 ·refine at_regq [{}, {}, {}, {}, { hint := some (aB false) }] { ts := [6], os := [] } [True, (AV.p (.c (.v (.bool ((isFmt x0.1 x1 x2))))) = AV.p (.c (.v (.bool false))))] gamOK hT h (by kernel_rfl) ⟨trivial, hint_bool (h1), trivial⟩ fun a w h => then_normal (wp_ret ?_)
  exact at_return (false, ()) [] h (by kernel_rfl) trivial (congrArg (fun z => (z, ())) (show (false) = validP x0 x1 x2 from by first | rfl | (unfold validP; rw [if_neg (neT h1)])))
theorem validP_t {p : T61} {s w : Int} (h : validP p s w = true) : isFmt p.1 s w = true ∧ ((List.length p.2.1 : Nat) : Int) = s ∧ ((List.length p.2.2 : Nat) : Int) = w ∧ validV p.2.1 = true ∧ validV p.2.2 = true := by
 unfold validP at h
 split at h
 ·split at h
  ·split at h
   ·split at h
    ·exact ⟨by assumption, by assumption, by assumption, by assumption, h⟩
    ·cases h
   ·cases h
  ·cases h
 ·cases h
theorem validP_n {p : T61} {s w : Int} (h : validP p s w = true) : ((0 ≤ p.1 ∧ p.1 ≤ 1000000000000) ∧ (1 ≤ s ∧ s ≤ 8) ∧ (1 ≤ w ∧ w ≤ 16)) ∧ ((List.length p.2.1 : Nat) : Int) = s ∧ ((List.length p.2.2 : Nat) : Int) = w := ⟨isFmt_t (validP_t h).1, (validP_t h).2.1, (validP_t h).2.2.1⟩
theorem validP_of {p : T61} {s w : Int} (h : isFmt p.1 s w = true ∧ ((List.length p.2.1 : Nat) : Int) = s ∧ ((List.length p.2.2 : Nat) : Int) = w ∧ validV p.2.1 = true ∧ validV p.2.2 = true) : validP p s w = true := by
 unfold validP; rw [if_pos h.1, if_pos h.2.1, if_pos h.2.2.1, if_pos h.2.2.2.1]; exact h.2.2.2.2

def cofs (ps : List T61) : List (List Int) := ps.map fun p => p.2.1
def okPkt (r : T128) (p : T61) : Bool := validP p r.2.1 r.2.2.1 && decide (p.1 = r.1)
def recB (r : T128) (i : Nat) : Bool := okPkt r (r.2.2.2.1.getD i (0, ([], []))) && LA.insOk (cofs r.2.2.2.1) i
def validR (r : T128) : Bool := (isFmt r.1 r.2.1 r.2.2.1 && (decide (List.length r.2.2.2.1 ≤ 8) && inR r.2.2.2.2 0 1000000000000)) && allN (recB r) (List.length r.2.2.2.1)
theorem newBas_at {s : Int} (h : 0 ≤ s ∧ s ≤ 40) : newBas s = (s, []) := by unfold newBas; rw [if_pos (inR_true h)]
def rndN (x0 : Int) (x1 : Int) (x2 : Int) : Int := (if (inR x2 1 1000000000000) = true then (Int.tmod (Int.tmod ((keyed x0 ([x1, 71])) * (keyed x0 ([x1, 71]))) 2147483647) x2) else 0)
def S_impl_RandomNumber : Sum := { fid := 298, dom := [(.int 3), (.int 3), (.int 3)], cod := [(.int 3)], dp := true, fz := false, pre := fun x => True, g := fun x => ((rndN x.1 x.2.1 x.2.2.1), ()) }
def S_impl_RandomNumber_tab : List (Nat × Sum) := [(107, S_impl_InRange), (299, S_impl_KeyedHash)]
theorem S_impl_RandomNumber_ok : FnOK Try.prog 298 S_impl_RandomNumber := by
 refine at_enter 21 (fun x => ⟨[(0, aI x.1), (1, aI x.2.1), (2, aI x.2.2.1)], []⟩) Try.func298 rfl (by kernel_rfl) (fun x => rfl) ?_
 rintro w0 Z0 ⟨x0, x1, x2, u⟩ a w
 revert x0 x1 x2
 intro (x0 : Int) (x1 : Int) (x2 : Int) hpre hlens h
 have hT : TabOK Try.prog S_impl_RandomNumber_tab := (.cons S_impl_InRange_ok (.cons S_impl_KeyedHash_ok .nil))
 have hkb := keyed_bd x0 ([x1, 71])
 refine wp_seq ?_
 refine at_regq [] { ts := [0, 1, 2, 6], os := [] } [] gamOK hT h (by kernel_rfl) trivial fun a w h => then_normal (wp_seq (wp_seq ?_))
 refine at_regq [] { ts := [0, 1, 2, 6, 10], os := [] } [True] gamOK hT h (by kernel_rfl) ⟨trivial, trivial⟩ fun a w h => then_normal ?_
 refine at_test (!(inR x2 1 1000000000000)) h (by kernel_rfl) (fun h1 => ?_) (fun h1 => ?_)
 ·replace h1 : (inR x2 1 1000000000000) = false := notT h1
  have hvh1 := inR_f h1
  refine wp_seq ?_
  refine at_regq [] { ts := [0, 1, 2, 6], os := [] } [] gamOK hT h (by kernel_rfl) trivial fun a w h => then_normal (wp_ret (then_ret ?_))
  exact at_return (0, ()) [] h (by kernel_rfl) trivial (congrArg (fun z => (z, ())) (show (0) = rndN x0 x1 x2 from by first | rfl | (unfold rndN; rw [if_neg (neT h1)])))
 ·replace h1 : (inR x2 1 1000000000000) = true := notF h1
  have hvh1 := inR_t h1
  refine wp_skip (then_normal (wp_seq ?_))
  refine at_regq [{}, {}, { ids := [1] }] { ts := [2, 6, 7], os := [] } [pKey x0 ([x1, 71])] gamOK hT h (by kernel_rfl) ⟨(by (show _ ≤ _; simp)), trivial⟩ fun a w h => then_normal (wp_seq ?_)
  refine at_regq [{}, {}, { nw := true }] { ts := [6], os := [] } [I64 ((keyed x0 ([x1, 71])) * (keyed x0 ([x1, 71]))), (2147483647 : Int) ≠ 0, (x2 : Int) ≠ 0] gamOK hT h (by kernel_rfl) ⟨⟨by (have hA0 := mul_f (keyed x0 ([x1, 71])) (keyed x0 ([x1, 71])); first | omega | (simp only [lsA]; omega) | (simp <;> omega)), by (have hA0 := mul_f (keyed x0 ([x1, 71])) (keyed x0 ([x1, 71])); first | omega | (simp only [lsA]; omega) | (simp <;> omega))⟩, (by first | omega | (simp only [lsA]; omega) | (simp <;> omega)), (by first | omega | (simp only [lsA]; omega) | (simp <;> omega)), trivial⟩ fun a w h => then_normal (wp_ret ?_)
  exact at_return ((Int.tmod (Int.tmod ((keyed x0 ([x1, 71])) * (keyed x0 ([x1, 71]))) 2147483647) x2), ()) [] h (by kernel_rfl) trivial (congrArg (fun z => (z, ())) (show ((Int.tmod (Int.tmod ((keyed x0 ([x1, 71])) * (keyed x0 ([x1, 71]))) 2147483647) x2)) = rndN x0 x1 x2 from by first | rfl | (unfold rndN; rw [if_pos h1])))
theorem rndN_el (s i : Int) : LA.El (rndN s i 1019) := by
 have hkb := keyed_bd s ([i, 71])
 have hm := mul_f (keyed s ([i, 71])) (keyed s ([i, 71]))
 have h1 := tmod_f (keyed s ([i, 71]) * keyed s ([i, 71])) 2147483647 (by decide)
 have h2 := tmod_f ((keyed s ([i, 71]) * keyed s ([i, 71])).tmod 2147483647) 1019 (by decide)
 unfold rndN LA.El
 rw [if_pos (show inR 1019 1 1000000000000 = true from rfl)]
 omega
def unitL (n : Nat) (k : Int) : List Int := (List.range n).map fun (j : Nat) => if (j : Int) = k then 1 else 0
theorem unitL_snoc (n : Nat) (k : Int) : unitL (n + 1) k = unitL n k ++ [if (n : Int) = k then 1 else 0] := by unfold unitL; rw [List.range_succ, List.map_append]; rfl
theorem unitL_len (n : Nat) (k : Int) : (unitL n k).length = n := by simp [unitL]
theorem unitL_set {n : Nat} {k : Int} (h0 : 0 ≤ k) (h : k < n) : List.set (List.replicate n (0 : Int)) k.toNat 1 = unitL n k := by
 apply List.ext_getElem
 ·simp [unitL]
 ·intro i h1 h2
  rw [List.getElem_set]
  simp only [unitL, List.getElem_map, List.getElem_range, List.getElem_replicate]
  by_cases e : k.toNat = i
  ·rw [if_pos e, if_pos (by omega)]
  ·rw [if_neg e, if_neg (by omega)]
def unitV (w i : Int) : List Int := if inR w 0 40 = true ∧ inR i 0 (w - 1) = true then unitL w.toNat i else []
theorem unitV_y {w i : Int} (h : inR w 0 40 = true) (h2 : inR i 0 (w - 1) = true) : unitL w.toNat i = unitV w i := (if_pos ⟨h, h2⟩).symm
theorem unitV_n {w i : Int} (h : inR w 0 40 = false ∨ inR i 0 (w - 1) = false) : [] = unitV w i := by
 unfold unitV; rw [if_neg]
 rintro ⟨h1, h2⟩
 rcases h with h | h
 ·rw [h1] at h; cases h
 ·rw [h2] at h; cases h
theorem unitV_len (w i : Int) : (unitV w i).length ≤ 40 := by
 unfold unitV; split
 ·rename_i h; rw [unitL_len]; have := inR_t h.1; omega
 ·exact Nat.zero_le _
theorem unitL_ok (n : Nat) (k : Int) : LA.VokB n (unitL n k) := ⟨unitL_len n k, fun x hx => by
 obtain ⟨j, _, rfl⟩ := List.mem_map.1 hx
 unfold LA.El; split <;> omega⟩
def rndL (s : Int) (n : Nat) : List Int := (List.range n).map fun (j : Nat) => rndN s (j : Int) 1019
theorem rndL_snoc (s : Int) (n : Nat) : rndL s (n + 1) = rndL s n ++ [rndN s (n : Int) 1019] := by unfold rndL; rw [List.range_succ, List.map_append]; rfl
theorem rndL_len (s : Int) (n : Nat) : (rndL s n).length = n := by simp [rndL]
theorem rndL_at {s : Int} {n i : Nat} (h : i < n) : (rndL s n).getD i 0 = rndN s (i : Int) 1019 := by rw [getD_of_lt (by rw [rndL_len]; exact h)]; simp [rndL]
theorem rndL_zero (s : Int) (n : Nat) : List.replicate n (0 : Int) = copyTo 0 (rndL s n) 0 := by
 have e := copyTo_zero (z := (0 : Int)) (xs := rndL s n)
 rw [rndL_len] at e; exact e
theorem rndL_set {s : Int} {n i : Nat} (h : i < n) : (copyTo 0 (rndL s n) i).set i (rndN s (i : Int) 1019) = copyTo 0 (rndL s n) (i + 1) := by
 rw [← rndL_at h]; exact copyTo_set (by rw [rndL_len]; exact h)
def rndS (s w : Int) : List Int := if inR w 1 40 = true then rndL s w.toNat else []
theorem rndS_len (s w : Int) : (rndS s w).length ≤ 40 := by
 unfold rndS; split
 ·rename_i h; rw [rndL_len]; have := inR_t h; omega
 ·exact Nat.zero_le _
theorem rndS_eq {s w : Int} {i : Nat} (h : i = 0 ∨ ((i : Int) ≤ w ∧ inR w 1 40 = true)) (he : ¬ (i : Int) < w ∨ inR w 1 40 = false) : rndL s i = rndS s w := by
 unfold rndS
 cases hi : inR w 1 40 with
 | true =>
  rw [if_pos rfl]
  have hw := inR_t hi
  rcases he with he | he
  ·congr 1; omega
  ·rw [hi] at he; cases he
 | false =>
  rw [if_neg (by decide)]
  rcases h with h | h
  ·subst h; rfl
  ·rw [hi] at h; cases h.2
def rndV (s w : Int) : List Int := if 0 < (rndS s w).length ∧ LA.leadS (rndS s w) < 0 then (rndS s w).set 0 1 else rndS s w
theorem rndV_1 {s w : Int} (h : inR w 1 40 = true) (h2 : LA.leadS (rndL s w.toNat) < 0) : (rndL s w.toNat).set 0 1 = rndV s w := by
 unfold rndV rndS; rw [if_pos h, if_pos ⟨by rw [rndL_len]; have := inR_t h; omega, h2⟩]
theorem rndV_2 {s w : Int} (h : inR w 1 40 = true) (h2 : ¬ LA.leadS (rndL s w.toNat) < 0) : rndL s w.toNat = rndV s w := by
 unfold rndV rndS; rw [if_pos h, if_neg (fun e => h2 e.2)]
theorem rndV_0 {s w : Int} (h : inR w 1 40 = false) : [] = rndV s w := by
 unfold rndV rndS; rw [h]; simp
theorem rndV_len (s w : Int) : (rndV s w).length ≤ 40 := by
 have := rndS_len s w
 unfold rndV; split
 ·rw [List.length_set]; exact this
 ·exact this
theorem rndV_at {s w : Int} (h : 1 ≤ w ∧ w ≤ 40) : (rndV s w).length = w.toNat := by
 have e : rndS s w = rndL s w.toNat := if_pos (inR_true h)
 unfold rndV; rw [e]; split
 ·rw [List.length_set, rndL_len]
 ·rw [rndL_len]
theorem rndV_ok {s w : Int} (h : 1 ≤ w ∧ w ≤ 40) : LA.VokB w.toNat (rndV s w) := by
 refine ⟨rndV_at h, fun x hx => ?_⟩
 have e : rndS s w = rndL s w.toNat := if_pos (inR_true h)
 have hl : ∀ y ∈ rndL s w.toNat, LA.El y := fun y hy => by
  obtain ⟨j, _, rfl⟩ := List.mem_map.1 hy
  exact rndN_el _ _
 unfold rndV at hx; rw [e] at hx
 split at hx
 ·rcases List.mem_or_eq_of_mem_set hx with hx | hx
  ·exact hl x hx
  ·rw [hx]; unfold LA.El; omega
 ·exact hl x hx
def combTo (vs : List (List Int)) (cs : List Int) : Nat → List Int
 | 0 => List.replicate (vs.getD 0 []).length 0
 | i + 1 => LA.addS (combTo vs cs i) (vs.getD i []) (cs.getD i 0)
def combS (vs : List (List Int)) (cs : List Int) : List Int := combTo vs cs vs.length
abbrev cvB (vs : List (List Int)) (v : List Int) : Bool := validV v && decide (v.length = (vs.getD 0 []).length)
theorem cvB_ok {vs : List (List Int)} {v : List Int} (h : cvB vs v = true) : LA.VokB (vs.getD 0 []).length v := by
 unfold cvB at h; rw [Bool.and_eq_true] at h
 exact ⟨of_decide_eq_true h.2, (validV_t h.1).2.1⟩
theorem cvB_40 {vs : List (List Int)} {v : List Int} (h : cvB vs v = true) : (vs.getD 0 []).length ≤ 40 := by
 unfold cvB at h; rw [Bool.and_eq_true] at h
 have h1 := of_decide_eq_true h.2
 have := (validV_t h.1).1; omega
theorem combTo_ok {n : Nat} {vs : List (List Int)} {cs : List Int} (hn : (vs.getD 0 []).length = n) (hc : ∀ j, 0 ≤ cs.getD j 0 ∧ cs.getD j 0 ≤ 1018) : ∀ i, (∀ j, j < i → LA.VokB n (vs.getD j [])) → LA.VokB n (combTo vs cs i)
 | 0, _ => by
  refine ⟨by simp only [combTo]; rw [List.length_replicate, hn], fun x hx => ?_⟩
  simp only [combTo] at hx
  rw [(List.mem_replicate.1 hx).2]; unfold LA.El; omega
 | i + 1, h => (LA.addS_ok (combTo_ok hn hc i (fun j hj => h j (by omega))) (h i (by omega)) (hc i)).1
def combV (vs : List (List Int)) (cs : List Int) : List Int := if (¬ vs.length = 0 ∧ vs.length = cs.length) ∧ validV cs = true ∧ vs.all (cvB vs) = true then combS vs cs else []
theorem combV_y {vs : List (List Int)} {cs : List Int} (h1 : ¬ vs.length = 0) (h2 : vs.length = cs.length) (h3 : validV cs = true) (h4 : vs.all (cvB vs) = true) : combS vs cs = combV vs cs := (if_pos ⟨⟨h1, h2⟩, h3, h4⟩).symm
theorem combV_n {vs : List (List Int)} {cs : List Int} (h : vs.length = 0 ∨ ¬ vs.length = cs.length ∨ validV cs = false ∨ vs.all (cvB vs) = false) : [] = combV vs cs := by
 unfold combV; rw [if_neg]
 rintro ⟨⟨h1, h2⟩, h3, h4⟩
 rcases h with h | h | h | h
 ·exact h1 h
 ·exact h h2
 ·rw [h3] at h; cases h
 ·rw [h4] at h; cases h
theorem combV_len (vs : List (List Int)) (cs : List Int) : (combV vs cs).length ≤ 40 := by
 unfold combV; split
 ·rename_i h
  have hp := List.all_eq_true.1 h.2.2
  have h0 := hp _ (getD_mem (z := []) (show 0 < vs.length by have := h.1.1; omega))
  have := (combTo_ok (n := (vs.getD 0 []).length) (cs := cs) rfl (validV_t h.2.1).2.2 vs.length (fun j hj => cvB_ok (hp _ (getD_mem hj)))).1
  have := cvB_40 h0
  unfold combS; omega
 ·exact Nat.zero_le _
theorem combV_pos {vs : List (List Int)} {cs : List Int} (h : ¬ (combV vs cs).length = 0) : 0 < vs.length := by
 rcases Nat.eq_zero_or_pos vs.length with h0 | h0
 ·rw [← combV_n (.inl h0)] at h; exact absurd rfl h
 ·exact h0
def combP (vs : List (List Int)) (cs : List Int) : Prop := (0 < vs.length ∧ vs.length ≤ cs.length ∧ (vs.getD 0 []).length ≤ 40) ∧ (∀ j, j < vs.length → LA.VokB (vs.getD 0 []).length (vs.getD j [])) ∧ ∀ j, 0 ≤ cs.getD j 0 ∧ cs.getD j 0 ≤ 1018
def pays (ps : List T61) : List (List Int) := ps.map fun p => p.2.2
theorem pays_len (ps : List T61) : (pays ps).length = ps.length := by simp [pays]
theorem pays_snoc (ps : List T61) (p : T61) : pays (ps ++ [p]) = pays ps ++ [p.2.2] := by simp [pays]
theorem fit_pays {ps : List T61} (h : Sh.fit s126 ps) : Sh.fit s97 (pays ps) := ⟨by rw [pays_len]; exact h.1, fun v hv => by
 obtain ⟨p, hp, rfl⟩ := List.mem_map.1 hv
 exact (h.2 p hp).2.2⟩
def genB0 (ps : List T61) (p : T61) : Bool := decide (p.1 = (ps.getD 0 (0, ([], []))).1)
def comP (ps : List T61) (cs : List Int) : T61 × Bool := if ps.all (fun p => decide (p.1 = (ps.getD 0 (0, ([], []))).1)) = true ∧ ¬ (combV (cofs ps) cs).length = 0 ∧ ¬ (combV (pays ps) cs).length = 0 then (((ps.getD 0 (0, ([], []))).1, combV (cofs ps) cs, combV (pays ps) cs), true) else ((0, [], []), false)
theorem comP_y {ps : List T61} {cs : List Int} (h1 : ps.all (fun p => decide (p.1 = (ps.getD 0 (0, ([], []))).1)) = true) (h2 : ¬ (combV (cofs ps) cs).length = 0) (h3 : ¬ (combV (pays ps) cs).length = 0) : (((ps.getD 0 (0, ([], []))).1, combV (cofs ps) cs, combV (pays ps) cs), true) = comP ps cs := (if_pos ⟨h1, h2, h3⟩).symm
theorem comP_n {ps : List T61} {cs : List Int} (h : ps.all (fun p => decide (p.1 = (ps.getD 0 (0, ([], []))).1)) = false ∨ (combV (cofs ps) cs).length = 0 ∨ (combV (pays ps) cs).length = 0) : ((0, [], []), false) = comP ps cs := by
 unfold comP; rw [if_neg]
 rintro ⟨h1, h2, h3⟩
 rcases h with h | h | h
 ·rw [h1] at h; cases h
 ·exact h2 h
 ·exact h3 h
theorem comP_sz (ps : List T61) (cs : List Int) : Sh.sz s61 (comP ps cs).1 ≤ 80 := by
 unfold comP; split
 ·show 0 + (Sh.sz s22 _ + Sh.sz s22 _) ≤ 80
  rw [sz_flat (by rfl), sz_flat (by rfl)]
  have := combV_len (cofs ps) cs; have := combV_len (pays ps) cs
  dsimp only; omega
 ·exact Nat.zero_le _
def recNo (r : T128) : Bool := decide (List.length r.2.2.2.1 = 0) || decide (r.2.2.2.2 = 1000000000000)
def recD (r : T128) (s : Int) : T61 × Bool := if recNo r = true then ((0, [], []), false) else comP r.2.2.2.1 (rndV (keyed s ([r.1, r.2.2.2.2])) ((List.length r.2.2.2.1 : Nat) : Int))
def recU (r : T128) (s : Int) : T128 := if recNo r = true then r else (r.1, r.2.1, r.2.2.1, r.2.2.2.1, r.2.2.2.2 + 1)
def recodeR (r : T128) (s : Int) : T128 × T61 × Bool := if validR r = true then (recU r s, recD r s) else (r, (0, [], []), false)
theorem recNo_t {r : T128} (h : List.length r.2.2.2.1 = 0 ∨ r.2.2.2.2 = 1000000000000) : recNo r = true := by unfold recNo; rw [Bool.or_eq_true, decide_eq_true_iff, decide_eq_true_iff]; exact h
theorem recNo_f {r : T128} (h1 : ¬ List.length r.2.2.2.1 = 0) (h2 : ¬ r.2.2.2.2 = 1000000000000) : recNo r = false := by unfold recNo; rw [decide_eq_false h1, decide_eq_false h2]; rfl
theorem recU_y {r : T128} {s : Int} (h : recNo r = true) : r = recU r s := (if_pos h).symm
theorem recU_n {r : T128} {s : Int} (h : recNo r = false) : (r.1, r.2.1, r.2.2.1, r.2.2.2.1, r.2.2.2.2 + 1) = recU r s := (if_neg (by rw [h]; decide)).symm
theorem recD_y {r : T128} {s : Int} (h : recNo r = true) : ((0, [], []), false) = recD r s := (if_pos h).symm
theorem recD_n {r : T128} {s : Int} (h : recNo r = false) : comP r.2.2.2.1 (rndV (keyed s ([r.1, r.2.2.2.2])) ((List.length r.2.2.2.1 : Nat) : Int)) = recD r s := (if_neg (by rw [h]; decide)).symm
theorem recodeR_y {r : T128} {s : Int} (h : validR r = true) : (recU r s, recD r s) = recodeR r s := (if_pos h).symm
theorem recodeR_n {r : T128} {s : Int} (h : validR r = false) : (r, (0, [], []), false) = recodeR r s := (if_neg (by rw [h]; decide)).symm
theorem recU_sz (r : T128) (s : Int) : Sh.sz s128 (recU r s) = Sh.sz s128 r := by unfold recU; split <;> rfl
theorem recodeR_sz (r : T128) (s : Int) : Sh.sz s128 (recodeR r s).1 = Sh.sz s128 r ∧ Sh.sz s61 (recodeR r s).2.1 ≤ 80 := by
 unfold recodeR; split
 ·refine ⟨recU_sz r s, ?_⟩
  show Sh.sz s61 (recD r s).1 ≤ 80
  unfold recD; split
  ·exact Nat.zero_le _
  ·exact comP_sz _ _
 ·exact ⟨rfl, Nat.zero_le _⟩

def S_spec_UnitVector : Sum := { fid := 279, dom := [(.int 3), (.int 3)], cod := [s22], dp := true, fz := false, pre := fun x => True, g := fun x => ((unitV x.1 x.2.1), ()) }
def S_spec_UnitVector_tab : List (Nat × Sum) := [(103, S_spec_l1In)]
theorem S_spec_UnitVector_ok : FnOK Try.prog 279 S_spec_UnitVector := by
 refine at_enter 34 (fun x => ⟨[(0, aI x.1), (1, aI x.2.1)], []⟩) Try.func279 rfl (by kernel_rfl) (fun x => rfl) ?_
 rintro w0 Z0 ⟨x0, x1, u⟩ a w
 revert x0 x1
 intro (x0 : Int) (x1 : Int) hpre hlens h
 have hT : TabOK Try.prog S_spec_UnitVector_tab := (.cons S_spec_l1In_ok .nil)
 refine wp_seq ?_
 refine at_regq [] { ts := [0, 1, 4], os := [] } [] gamOK hT h (by kernel_rfl) trivial fun a w h => then_normal (wp_seq ?_)
 refine at_regq [{ ids := [1] }] { ts := [0, 1, 4, 5], os := [1] } [] gamOK hT h (by kernel_rfl) trivial fun a w h => then_normal (wp_seq (wp_seq ?_))
 rcases Bool.eq_false_or_eq_true (!(inR x0 0 40)) with h1 | h1
 ·have hzh1 : (inR x0 0 40) = false := notT h1
  have hvh1 := inR_f (notT h1)
  refine at_regq [{}, {}, { hint := some (aB true) }] { ts := [0, 1, 4, 5, 17], os := [1] } [True, (AV.p (.c (.v (.bool (!(inR x0 0 40))))) = AV.p (.c (.v (.bool true))))] gamOK hT h (by kernel_rfl) ⟨trivial, hint_bool (h1), trivial⟩ fun a w h => then_normal ?_
  refine at_test true h (by kernel_rfl) (fun hh => ?_) (fun hh => nomatch hh)
  refine wp_seq ?_
  refine at_regq [] { ts := [0, 1, 4, 5], os := [1] } [] gamOK hT h (by kernel_rfl) trivial fun a w h => then_normal (wp_ret (then_ret ?_))
  exact at_return (([] : List Int), ()) [] h (by kernel_rfl) trivial (congrArg (fun z => (z, ())) (show (([] : List Int)) = unitV x0 x1 from by first | exact unitV_n (by first | (left; assumption) | (right; assumption)) | exact unitV_y (by assumption) (by assumption)))
 ·have hzh1 : (inR x0 0 40) = true := notF h1
  have hvh1 := inR_t (notF h1)
  refine at_regq [{}, {}, { hint := some (aB false) }, {}, {}, {}, { nw := true }] { ts := [0, 1, 4, 5, 17], os := [1] } [True, (AV.p (.c (.v (.bool (!(inR x0 0 40))))) = AV.p (.c (.v (.bool false)))), I64 (x0 - 1), True] gamOK hT h (by kernel_rfl) ⟨trivial, hint_bool (h1), ⟨by first | omega | (simp only [lsA]; omega) | (simp <;> omega), by first | omega | (simp only [lsA]; omega) | (simp <;> omega)⟩, trivial, trivial⟩ fun a w h => then_normal ?_
  refine at_test (!(inR x1 0 (x0 - 1))) h (by kernel_rfl) (fun h2 => ?_) (fun h2 => ?_)
  ·replace h2 : (inR x1 0 (x0 - 1)) = false := notT h2
   have hvh2 := inR_f h2
   refine wp_seq ?_
   refine at_regq [] { ts := [0, 1, 4, 5], os := [1] } [] gamOK hT h (by kernel_rfl) trivial fun a w h => then_normal (wp_ret (then_ret ?_))
   exact at_return (([] : List Int), ()) [] h (by kernel_rfl) trivial (congrArg (fun z => (z, ())) (show (([] : List Int)) = unitV x0 x1 from by first | exact unitV_n (by first | (left; assumption) | (right; assumption)) | exact unitV_y (by assumption) (by assumption)))
  ·replace h2 : (inR x1 0 (x0 - 1)) = true := notF h2
   have hvh2 := inR_t h2
   refine wp_skip (then_normal (wp_seq (wp_seq ?_)))
   refine at_regq [] { ts := [0, 1, 4, 5, 6], os := [1] } [] gamOK hT h (by kernel_rfl) trivial fun a w h => then_normal (wp_block ?_)
   replace h := at_out (σ' := ⟨[(0, aI x0), (1, aI x1), (4, .p (.c (cN))), (5, aS 1), (6, aI 0)], [(1, oR (.int 3) ([] : List Int))]⟩) { ts := [0, 1, 4, 5, 6], os := [1] } h (by kernel_rfl)
   refine at_loop (fun i : Nat => (⟨[(0, aI x0), (1, aI x1), (4, .p (.c (cN))), (5, aS 1), (6, aI ((i : Nat) : Int))], [(1, oR (.int 3) (unitL i x1))]⟩ : St)) (fun i => i ≤ x0.toNat) (fun i => x0.toNat - i) (0) h (st_congr2 (fun (d0 : List Int) (d1 : Int) => (⟨[(0, aI x0), (1, aI x1), (4, .p (.c (cN))), (5, aS 1), (6, aI d1)], [(1, oR (.int 3) d0)]⟩ : St)) (show (([] : List Int) : List Int) = (unitL (0) x1) from by first | with_reducible rfl | (rfl) | rfl) (show (0 : Int) = (((0) : Nat) : Int) from by first | with_reducible rfl | (rfl) | rfl)) (by omega) ?_
   intro i a w hok0 h
   have hul := unitL_len i x1
   refine wp_seq (wp_seq ?_)
   refine at_regq [] { ts := [0, 1, 4, 5, 6, 21], os := [1] } [] gamOK hT h (by kernel_rfl) trivial fun a w h => then_normal ?_
   refine at_test (decide (((i : Nat) : Int) < x0)) h (by kernel_rfl) (fun h3 => ?_) (fun h3 => ?_)
   ·replace h3 : ((i : Nat) : Int) < x0 := of_decide_eq_true h3
    refine wp_skip (then_normal (wp_seq (wp_block (wp_seq ?_))))
    refine at_regq [] { ts := [0, 1, 4, 5, 6, 26], os := [1] } [] gamOK hT h (by kernel_rfl) trivial fun a w h => then_normal ?_
    refine at_test (decide (((i : Nat) : Int) = x1)) h (by kernel_rfl) (fun h4 => ?_) (fun h4 => ?_)
    ·replace h4 : ((i : Nat) : Int) = x1 := of_decide_eq_true h4
     refine at_regq [{}, { ids := [2] }, { ids := [3] }] { ts := [0, 1, 4, 5, 6], os := [3] } [(List.length (unitL i x1) + List.length ([1])) * 8 ≤ 140737488355328] gamOK hT h (by kernel_rfl) ⟨(by first | omega | (simp only [lsA]; omega) | (simp <;> omega)), trivial⟩ fun a w h => in_normal (then_normal ?_)
     refine at_regq [{}, { nw := true }] { ts := [0, 1, 4, 5, 6], os := [3] } [I64 (((i : Nat) : Int) + 1)] gamOK hT h (by kernel_rfl) ⟨⟨by first | omega | (simp only [lsA]; omega) | (simp <;> omega), by first | omega | (simp only [lsA]; omega) | (simp <;> omega)⟩, trivial⟩ fun a w h => ?_
     replace h := at_out (σ' := ⟨[(0, aI x0), (1, aI x1), (4, .p (.c (cN))), (5, aS 1), (6, aI (((i : Nat) : Int) + 1))], [(1, oR (.int 3) ((unitL i x1) ++ ([1])))]⟩) { ts := [0, 1, 4, 5, 6], os := [3], rn := [(3, 1)] } h (by kernel_rfl)
     exact ⟨i + 1, at_eq h (st_congr2 (fun (d0 : List Int) (d1 : Int) => (⟨[(0, aI x0), (1, aI x1), (4, .p (.c (cN))), (5, aS 1), (6, aI d1)], [(1, oR (.int 3) d0)]⟩ : St)) (show (((unitL i x1) ++ ([1])) : List Int) = (unitL (i + 1) x1) from by first | with_reducible rfl | (first | (rw [unitL_snoc, if_pos (by omega)]; done) | (rw [unitL_snoc, if_neg (by omega)]; done)) | rfl) (show (((i : Nat) : Int) + 1 : Int) = (((i + 1) : Nat) : Int) from by first | with_reducible rfl | (omega) | rfl)), (by omega), (by omega)⟩
    ·replace h4 : ¬ (((i : Nat) : Int) = x1) := of_decide_eq_false h4
     refine at_regq [{}, { ids := [4] }, { ids := [5] }] { ts := [0, 1, 4, 5, 6], os := [5] } [(List.length (unitL i x1) + List.length ([0])) * 8 ≤ 140737488355328] gamOK hT h (by kernel_rfl) ⟨(by first | omega | (simp only [lsA]; omega) | (simp <;> omega)), trivial⟩ fun a w h => in_normal (then_normal ?_)
     refine at_regq [{}, { nw := true }] { ts := [0, 1, 4, 5, 6], os := [5] } [I64 (((i : Nat) : Int) + 1)] gamOK hT h (by kernel_rfl) ⟨⟨by first | omega | (simp only [lsA]; omega) | (simp <;> omega), by first | omega | (simp only [lsA]; omega) | (simp <;> omega)⟩, trivial⟩ fun a w h => ?_
     replace h := at_out (σ' := ⟨[(0, aI x0), (1, aI x1), (4, .p (.c (cN))), (5, aS 1), (6, aI (((i : Nat) : Int) + 1))], [(1, oR (.int 3) ((unitL i x1) ++ ([0])))]⟩) { ts := [0, 1, 4, 5, 6], os := [5], rn := [(5, 1)] } h (by kernel_rfl)
     exact ⟨i + 1, at_eq h (st_congr2 (fun (d0 : List Int) (d1 : Int) => (⟨[(0, aI x0), (1, aI x1), (4, .p (.c (cN))), (5, aS 1), (6, aI d1)], [(1, oR (.int 3) d0)]⟩ : St)) (show (((unitL i x1) ++ ([0])) : List Int) = (unitL (i + 1) x1) from by first | with_reducible rfl | (first | (rw [unitL_snoc, if_pos (by omega)]; done) | (rw [unitL_snoc, if_neg (by omega)]; done)) | rfl) (show (((i : Nat) : Int) + 1 : Int) = (((i + 1) : Nat) : Int) from by first | with_reducible rfl | (omega) | rfl)), (by omega), (by omega)⟩
   ·replace h3 : ¬ (((i : Nat) : Int) < x0) := of_decide_eq_false h3
    refine wp_exit (then_exit ?_)
    replace h := at_out (σ' := ⟨[(4, .p (.c (cN))), (5, aS 1)], [(1, oR (.int 3) (unitL i x1))]⟩) { ts := [4, 5], os := [1] } h (by kernel_rfl)
    replace h := at_eq (σ' := ⟨[(4, .p (.c (cN))), (5, aS 1)], [(1, oR (.int 3) (unitL x0.toNat x1))]⟩) h (st_congr1 (fun (d0 : List Int) => (⟨[(4, .p (.c (cN))), (5, aS 1)], [(1, oR (.int 3) d0)]⟩ : St)) (show ((unitL i x1) : List Int) = (unitL x0.toNat x1) from by first | with_reducible rfl | (rw [show x0.toNat = i by omega]) | rfl))
    refine then_exit (in_hit (then_normal (wp_seq ?_)))
    refine at_regq [] { ts := [4], os := [1] } [] gamOK hT h (by kernel_rfl) trivial fun a w h => then_normal (wp_ret ?_)
    exact at_return ((unitL x0.toNat x1), ()) [] h (by kernel_rfl) trivial (congrArg (fun z => (z, ())) (show ((unitL x0.toNat x1)) = unitV x0 x1 from by first | exact unitV_n (by first | (left; assumption) | (right; assumption)) | exact unitV_y (by assumption) (by assumption)))

def D_impl_freeColumns_1 := (fun (e : List Int) (v : Int) => decide (LA.leadS e = v))
abbrev Q_impl_freeColumns_1 := (fun (x0 : (List Int)) (x1 : Int) => Sh.fit s22 x0)
def S_impl_freeColumns_1 : Sum := { fid := 318, dom := [s22, (.pt (.int 3))], cod := [(.bool 4)], dp := true, fz := false, pre := fun x => Q_impl_freeColumns_1 x.1 x.2.1, g := fun x => ((D_impl_freeColumns_1 x.1 x.2.1), ()) }
def S_impl_freeColumns_1_tab : List (Nat × Sum) := [(229, S_impl_LeadingIndex)]
theorem S_impl_freeColumns_1_ok : FnOK Try.prog 318 S_impl_freeColumns_1 := by
 refine at_enter 8 (fun x => ⟨[(0, aF (.int 3) x.1), (1, aR (.int 3) x.2.1 0)], []⟩) Try.func318 rfl (by kernel_rfl) (fun x => rfl) ?_
 rintro w0 Z0 ⟨x0, x1, u⟩ a w
 revert x0 x1
 intro (x0 : (List Int)) (x1 : Int) hpre hlens h
 replace hpre : Q_impl_freeColumns_1 x0 x1 := hpre
 have hT : TabOK Try.prog S_impl_freeColumns_1_tab := (.cons S_impl_LeadingIndex_ok .nil)
 have hf0 : Sh.fit s22 x0 := hpre
 have hn0_1 : List.length x0 ≤ 1073741824 := hf0.1
 refine wp_seq ?_
 refine at_regq [] { ts := [0, 1, 3], os := [] } [] gamOK hT h (by kernel_rfl) trivial fun a w h => then_normal (wp_seq ?_)
 refine at_anyq [{}, {}, {}, {}, {}] { ts := [3], os := [] } [Q_impl_LeadingIndex x0] gamOK hT mixed h (by kernel_rfl) ⟨(by exact hf0), trivial⟩ fun a w h => then_normal (wp_ret ?_)
 exact at_return (decide ((LA.leadS x0) = x1), ()) [] h (by kernel_rfl) trivial (congrArg (fun z => (z, ())) (show (decide ((LA.leadS x0) = x1)) = D_impl_freeColumns_1 x0 x1 from by unfold D_impl_freeColumns_1; rfl))

def D_slices_IndexFunc_S_S_int_S_int__freeColumns_1 := (fun (xs : List (List Int)) (cap : Int) => idxF (fun e => decide (LA.leadS e = cap)) xs)
abbrev Q_slices_IndexFunc_S_S_int_S_int__freeColumns_1 := (fun (x0 : (List (List Int))) (x1 : Int) => Sh.fit s97 x0)
def S_slices_IndexFunc_S_S_int_S_int__freeColumns_1 : Sum := { fid := 331, dom := [s97, (.fn 318 (.pt (.int 3)))], cod := [(.int 3)], dp := true, fz := false, pre := fun x => Q_slices_IndexFunc_S_S_int_S_int__freeColumns_1 x.1 x.2.1, g := fun x => ((D_slices_IndexFunc_S_S_int_S_int__freeColumns_1 x.1 x.2.1), ()) }
def S_slices_IndexFunc_S_S_int_S_int__freeColumns_1_tab : List (Nat × Sum) := [(318, S_impl_freeColumns_1)]
theorem S_slices_IndexFunc_S_S_int_S_int__freeColumns_1_ok : FnOK Try.prog 331 S_slices_IndexFunc_S_S_int_S_int__freeColumns_1 := by
 refine at_enter 19 (fun x => ⟨[(0, aF s22 x.1), (1, .p (.c (.cl 318 (.ccons (.pr (.int 3) x.2.1 0) .cnil))))], []⟩) Try.func331 rfl (by kernel_rfl) (fun x => rfl) ?_
 rintro w0 Z0 ⟨x0, x1, u⟩ a w
 revert x0 x1
 intro (x0 : (List (List Int))) (x1 : Int) hpre hlens h
 replace hpre : Q_slices_IndexFunc_S_S_int_S_int__freeColumns_1 x0 x1 := hpre
 have hT : TabOK Try.prog S_slices_IndexFunc_S_S_int_S_int__freeColumns_1_tab := (.cons S_impl_freeColumns_1_ok .nil)
 have hf0 : Sh.fit s97 x0 := hpre
 have hn0_1 : List.length x0 ≤ 1073741824 := hf0.1
 refine wp_seq ?_
 refine at_regq [] { ts := [0, 1, 4], os := [] } [] gamOK hT h (by kernel_rfl) trivial fun a w h => then_normal (wp_seq (wp_seq ?_))
 refine at_regq [] { ts := [0, 1, 4, 7, 8], os := [] } [] gamOK hT h (by kernel_rfl) trivial fun a w h => then_normal (wp_block ?_)
 replace h := at_out (σ' := ⟨[(0, aF s22 x0), (1, .p (.c (.cl 318 (.ccons (.pr (.int 3) x1 0) .cnil)))), (4, aI 0), (7, aI ((List.length x0 : Nat) : Int)), (8, aI 0)], []⟩) { ts := [0, 1, 4, 7, 8], os := [] } h (by kernel_rfl)
 refine at_loop (fun i : Nat => (⟨[(0, aF s22 x0), (1, .p (.c (.cl 318 (.ccons (.pr (.int 3) x1 0) .cnil)))), (4, aI 0), (7, aI ((List.length x0 : Nat) : Int)), (8, aI ((i : Nat) : Int))], []⟩ : St)) (fun i => (i ≤ List.length x0 ∧ noneTo (fun e => decide (LA.leadS e = x1)) x0 [] i)) (fun i => List.length x0 - i) (0) h (st_congr1 (fun (d0 : Int) => (⟨[(0, aF s22 x0), (1, .p (.c (.cl 318 (.ccons (.pr (.int 3) x1 0) .cnil)))), (4, aI 0), (7, aI ((List.length x0 : Nat) : Int)), (8, aI d0)], []⟩ : St)) (show (0 : Int) = (((0) : Nat) : Int) from by first | with_reducible rfl | (rfl) | rfl)) (by exact ⟨Nat.zero_le _, noneTo_zero⟩) ?_
 intro i a w hok0 h
 refine wp_seq ?_
 refine at_regq [] { ts := [0, 1, 4, 7, 8, 9], os := [] } [] gamOK hT h (by kernel_rfl) trivial fun a w h => then_normal (wp_seq ?_)
 refine at_test (decide (((i : Nat) : Int) < ((List.length x0 : Nat) : Int))) h (by kernel_rfl) (fun h1 => ?_) (fun h1 => ?_)
 ·replace h1 : ((i : Nat) : Int) < ((List.length x0 : Nat) : Int) := of_decide_eq_true h1
  refine wp_skip (then_normal (wp_seq (wp_block (wp_seq ?_))))
  refine at_regq [] { ts := [0, 1, 4, 5, 7, 8], os := [] } [] gamOK hT h (by kernel_rfl) trivial fun a w h => then_normal (wp_seq ?_)
  refine at_regq [] { ts := [0, 1, 4, 5, 7, 8, 16], os := [] } [(0 : Int) ≤ ((i : Nat) : Int) ∧ ((i : Nat) : Int) < ((List.length x0 : Nat) : Int), Q_impl_freeColumns_1 (x0.getD i []) x1] gamOK hT h (by kernel_rfl) ⟨(by refine ⟨?_, ?_⟩ <;> (first | omega | (simp only [lsA]; omega) | (simp <;> omega))), (by exact (Sh.fit_getD hf0 i)), trivial⟩ fun a w h => then_normal ?_
  refine at_test ((D_impl_freeColumns_1 (x0.getD i []) x1)) h (by kernel_rfl) (fun h2 => ?_) (fun h2 => ?_)
  ·refine wp_seq ?_
   refine at_regq [] { ts := [0, 1, 4, 7, 8], os := [] } [] gamOK hT h (by kernel_rfl) trivial fun a w h => then_normal (wp_ret (in_ret (then_ret (then_ret (in_ret (then_ret ?_))))))
   exact at_return (((i : Nat) : Int), ()) [] h (by kernel_rfl) trivial (congrArg (fun z => (z, ())) (show (((i : Nat) : Int)) = D_slices_IndexFunc_S_S_int_S_int__freeColumns_1 x0 x1 from by unfold D_slices_IndexFunc_S_S_int_S_int__freeColumns_1; exact (idxF_at (z := []) (by omega) hok0.2 h2).symm))
  ·refine wp_skip (in_normal (then_normal ?_))
   refine at_regq [{ nw := true }] { ts := [0, 1, 4, 7, 8], os := [] } [I64 (((i : Nat) : Int) + 1)] gamOK hT h (by kernel_rfl) ⟨⟨by first | omega | (simp only [lsA]; omega) | (simp <;> omega), by first | omega | (simp only [lsA]; omega) | (simp <;> omega)⟩, trivial⟩ fun a w h => ?_
   replace h := at_out (σ' := ⟨[(0, aF s22 x0), (1, .p (.c (.cl 318 (.ccons (.pr (.int 3) x1 0) .cnil)))), (4, aI 0), (7, aI ((List.length x0 : Nat) : Int)), (8, aI (((i : Nat) : Int) + 1))], []⟩) { ts := [0, 1, 4, 7, 8], os := [] } h (by kernel_rfl)
   exact ⟨i + 1, at_eq h (st_congr1 (fun (d0 : Int) => (⟨[(0, aF s22 x0), (1, .p (.c (.cl 318 (.ccons (.pr (.int 3) x1 0) .cnil)))), (4, aI 0), (7, aI ((List.length x0 : Nat) : Int)), (8, aI d0)], []⟩ : St)) (show (((i : Nat) : Int) + 1 : Int) = (((i + 1) : Nat) : Int) from by first | with_reducible rfl | (omega) | rfl)), (by exact ⟨by omega, noneTo_succ hok0.2 h2⟩), (by omega)⟩
 ·replace h1 : ¬ (((i : Nat) : Int) < ((List.length x0 : Nat) : Int)) := of_decide_eq_false h1
  refine wp_exit (then_exit (then_exit (in_hit (then_normal (wp_seq ?_)))))
  refine at_regq [] { ts := [4], os := [] } [] gamOK hT h (by kernel_rfl) trivial fun a w h => then_normal (wp_ret ?_)
  exact at_return ((-1), ()) [] h (by kernel_rfl) trivial (congrArg (fun z => (z, ())) (show ((-1)) = D_slices_IndexFunc_S_S_int_S_int__freeColumns_1 x0 x1 from by unfold D_slices_IndexFunc_S_S_int_S_int__freeColumns_1; exact (idxF_none (z := []) (by omega) hok0.2).symm))

def D_slices_ContainsFunc_S_S_int_S_int__freeColumns_1 := (fun (xs : List (List Int)) (cap : Int) => xs.any fun e => decide (LA.leadS e = cap))
abbrev Q_slices_ContainsFunc_S_S_int_S_int__freeColumns_1 := (fun (x0 : (List (List Int))) (x1 : Int) => Sh.fit s97 x0)
def S_slices_ContainsFunc_S_S_int_S_int__freeColumns_1 : Sum := { fid := 317, dom := [s97, (.fn 318 (.pt (.int 3)))], cod := [(.bool 4)], dp := true, fz := false, pre := fun x => Q_slices_ContainsFunc_S_S_int_S_int__freeColumns_1 x.1 x.2.1, g := fun x => ((D_slices_ContainsFunc_S_S_int_S_int__freeColumns_1 x.1 x.2.1), ()) }
def S_slices_ContainsFunc_S_S_int_S_int__freeColumns_1_tab : List (Nat × Sum) := [(100011, S_slices_IndexFunc_S_S_int_S_int__freeColumns_1)]
theorem S_slices_ContainsFunc_S_S_int_S_int__freeColumns_1_ok : FnOK Try.prog 317 S_slices_ContainsFunc_S_S_int_S_int__freeColumns_1 := by
 refine at_enter 9 (fun x => ⟨[(0, aF s22 x.1), (1, .p (.c (.cl 318 (.ccons (.pr (.int 3) x.2.1 0) .cnil))))], []⟩) Try.func317 rfl (by kernel_rfl) (fun x => rfl) ?_
 rintro w0 Z0 ⟨x0, x1, u⟩ a w
 revert x0 x1
 intro (x0 : (List (List Int))) (x1 : Int) hpre hlens h
 replace hpre : Q_slices_ContainsFunc_S_S_int_S_int__freeColumns_1 x0 x1 := hpre
 have hT : TabOK Try.prog S_slices_ContainsFunc_S_S_int_S_int__freeColumns_1_tab := (.cons S_slices_IndexFunc_S_S_int_S_int__freeColumns_1_ok .nil)
 have hf0 : Sh.fit s97 x0 := hpre
 have hn0_1 : List.length x0 ≤ 1073741824 := hf0.1
 refine wp_seq ?_
 refine at_regq [] { ts := [0, 1, 4], os := [] } [] gamOK hT h (by kernel_rfl) trivial fun a w h => then_normal (wp_seq ?_)
 refine at_regq [{}, {}, { key := some 100011 }] { ts := [4], os := [] } [Q_slices_IndexFunc_S_S_int_S_int__freeColumns_1 x0 x1] gamOK hT h (by kernel_rfl) ⟨(by exact hf0), trivial⟩ fun a w h => then_normal (wp_ret ?_)
 exact at_return (decide ((D_slices_IndexFunc_S_S_int_S_int__freeColumns_1 x0 x1) ≥ 0), ()) [] h (by kernel_rfl) trivial (congrArg (fun z => (z, ())) (show (decide ((D_slices_IndexFunc_S_S_int_S_int__freeColumns_1 x0 x1) ≥ 0)) = D_slices_ContainsFunc_S_S_int_S_int__freeColumns_1 x0 x1 from by unfold D_slices_ContainsFunc_S_S_int_S_int__freeColumns_1; exact idxF_any))
def ldB (v : Int) (r : List Int) : Bool := decide (LA.leadS r = v)
def frC (R : List (List Int)) : Nat → List Int
 | 0 => []
 | k + 1 => if R.any (fun e => decide (LA.leadS e = (k : Int))) = true then frC R k else frC R k ++ [(k : Int)]
theorem frC_len (R : List (List Int)) : ∀ k, (frC R k).length ≤ k
 | 0 => Nat.le_refl _
 | k + 1 => by
  have := frC_len R k
  simp only [frC]; split
  ·omega
  ·rw [List.length_append, List.length_singleton]; omega
theorem frC_t {R : List (List Int)} {k : Nat} (h : R.any (fun e => decide (LA.leadS e = (k : Int))) = true) : frC R (k + 1) = frC R k := by simp only [frC]; rw [if_pos h]
theorem frC_f {R : List (List Int)} {k : Nat} (h : R.any (fun e => decide (LA.leadS e = (k : Int))) = false) : frC R (k + 1) = frC R k ++ [(k : Int)] := by simp only [frC]; rw [if_neg (by rw [h]; decide)]
theorem frC_mem {R : List (List Int)} {x : Int} : ∀ {k : Nat}, x ∈ frC R k → (0 ≤ x ∧ x < k) ∧ R.any (fun e => decide (LA.leadS e = x)) = false
 | 0, h => by simp [frC] at h
 | k + 1, h => by
  cases ha : R.any (fun e => decide (LA.leadS e = (k : Int))) with
  | true => rw [frC_t ha] at h; have := frC_mem h; exact ⟨by omega, this.2⟩
  | false =>
   rw [frC_f ha] at h
   rcases List.mem_append.1 h with h | h
   ·have := frC_mem h; exact ⟨by omega, this.2⟩
   ·rw [List.mem_singleton.1 h]; exact ⟨by omega, ha⟩
def pvI (R : List (List Int)) (j : Int) : Int := idxF (fun e => decide (LA.leadS e = j)) R
def nvE (R : List (List Int)) (k : Nat) (j : Nat) : Int := if 0 ≤ pvI R (j : Int) then subF 0 ((R.getD (pvI R (j : Int)).toNat []).getD k 0) else if (j : Int) = (k : Int) then 1 else 0
def nvL (R : List (List Int)) (n k : Nat) : List Int := (List.range n).map (nvE R k)
def nulS (R : List (List Int)) (n : Nat) : List (List Int) := (frC R n).map fun k => nvL R n k.toNat
theorem mapR_len {α : Type} (f : Nat → α) (n : Nat) : ((List.range n).map f).length = n := by simp
theorem mapR_at {α : Type} (f : Nat → α) {n j : Nat} {z : α} (h : j < n) : ((List.range n).map f).getD j z = f j := by rw [getD_of_lt (by rw [mapR_len]; exact h)]; simp
theorem mapR_set {α : Type} (f g : Nat → α) {n p : Nat} {x : α} (h : ∀ j, j < n → g j = if j = p then x else f j) : ((List.range n).map f).set p x = (List.range n).map g := by
 apply List.ext_getElem
 ·simp
 ·intro j h1 h2
  rw [mapR_len] at h2
  rw [List.getElem_set]
  simp only [List.getElem_map, List.getElem_range]
  rw [h j h2]
  by_cases e : p = j
  ·rw [if_pos e, if_pos e.symm]
  ·rw [if_neg e, if_neg (fun e' => e e'.symm)]
theorem mapR_congr {α : Type} {f g : Nat → α} {n : Nat} (h : ∀ j, j < n → f j = g j) : (List.range n).map f = (List.range n).map g := List.map_congr_left fun j hj => h j (List.mem_range.1 hj)
theorem idx_app {α : Type} {p : α → Bool} : ∀ {xs : List α} {y : α}, idxF p (xs ++ [y]) = if 0 ≤ idxF p xs then idxF p xs else if p y = true then (xs.length : Int) else -1
 | [], y => by
  have h1 : idxF p ([] ++ [y]) = if p y = true then 0 else if (-1 : Int) < 0 then -1 else -1 + 1 := rfl
  have h2 : idxF p ([] : List α) = -1 := rfl
  generalize idxF p ([] ++ [y]) = a at *
  generalize idxF p ([] : List α) = b at *
  subst h2
  rw [if_neg (show ¬ (0 : Int) ≤ -1 by decide)]
  by_cases hy : p y = true
  ·rw [if_pos hy] at h1 ⊢; rw [h1]; rfl
  ·rw [if_neg hy] at h1 ⊢; rw [h1]; rfl
 | x :: l, y => by
  have ih := idx_app (p := p) (xs := l) (y := y)
  have h1 : idxF p (x :: l ++ [y]) = if p x = true then 0 else if idxF p (l ++ [y]) < 0 then -1 else idxF p (l ++ [y]) + 1 := rfl
  have h2 : idxF p (x :: l) = if p x = true then 0 else if idxF p l < 0 then -1 else idxF p l + 1 := rfl
  generalize idxF p (x :: l ++ [y]) = a at *
  generalize idxF p (x :: l) = b at *
  generalize idxF p (l ++ [y]) = c at *
  generalize idxF p l = d at *
  by_cases hx : p x = true
  ·rw [if_pos hx] at h1 h2; rw [h1, h2]; rfl
  ·rw [if_neg hx] at h1 h2
   by_cases hd : 0 ≤ d
   ·rw [if_pos hd] at ih; rw [if_neg (show ¬ c < 0 by omega)] at h1; rw [if_neg (show ¬ d < 0 by omega)] at h2; rw [if_pos (show 0 ≤ b by omega)]; omega
   ·rw [if_neg hd] at ih; rw [if_pos (show d < 0 by omega)] at h2; rw [if_neg (show ¬ 0 ≤ b by omega)]
    by_cases hy : p y = true
    ·rw [if_pos hy] at ih ⊢; rw [if_neg (show ¬ c < 0 by omega)] at h1; simp only [List.length_cons]; omega
    ·rw [if_neg hy] at ih ⊢; rw [if_pos (show c < 0 by omega)] at h1; omega
theorem idx_m1 {α : Type} {p : α → Bool} : ∀ {xs : List α}, ¬ 0 ≤ idxF p xs → idxF p xs = -1
 | [], _ => rfl
 | x :: l, h => by
  have h2 : idxF p (x :: l) = if p x = true then 0 else if idxF p l < 0 then -1 else idxF p l + 1 := rfl
  generalize idxF p (x :: l) = b at *
  generalize idxF p l = d at *
  by_cases hx : p x = true
  ·rw [if_pos hx] at h2; omega
  ·rw [if_neg hx] at h2
   by_cases hd : d < 0
   ·rw [if_pos hd] at h2; exact h2
   ·rw [if_neg hd] at h2; omega
theorem idx_ex {α : Type} {p : α → Bool} {z : α} : ∀ {xs : List α}, 0 ≤ idxF p xs → ∃ t : Nat, t < xs.length ∧ idxF p xs = (t : Int) ∧ p (xs.getD t z) = true
 | [], h => absurd h (show ¬ (0 : Int) ≤ -1 by decide)
 | x :: l, h => by
  have h2 : idxF p (x :: l) = if p x = true then 0 else if idxF p l < 0 then -1 else idxF p l + 1 := rfl
  by_cases hx : p x = true
  ·rw [if_pos hx] at h2; exact ⟨0, by simp, h2, by simpa using hx⟩
  ·rw [if_neg hx] at h2
   by_cases hd : idxF p l < 0
   ·rw [if_pos hd] at h2; omega
   ·obtain ⟨t, a, b, d⟩ := idx_ex (p := p) (z := z) (xs := l) (by omega)
    rw [if_neg hd] at h2
    exact ⟨t + 1, by simp; omega, by omega, by simpa using d⟩
theorem pvI_bd {R : List (List Int)} {j : Int} (h : 0 ≤ pvI R j) : (pvI R j).toNat < R.length ∧ LA.leadS (R.getD (pvI R j).toNat []) = j := by
 obtain ⟨t, a, b, d⟩ := idx_ex (p := fun e => decide (LA.leadS e = j)) (z := []) (xs := R) h
 have e : (pvI R j).toNat = t := by unfold pvI; rw [b]; rfl
 rw [e]; exact ⟨a, of_decide_eq_true d⟩
theorem take_getD {R : List (List Int)} {i q : Nat} (h : q < i) : (R.take i).getD q [] = R.getD q [] := by simp only [List.getD_eq_getElem?_getD, List.getElem?_take]; rw [if_pos h]
theorem lead_ne {n : Nat} {R : List (List Int)} (h : LA.RedL n R) {i j : Nat} (hi : i < R.length) (hj : j < R.length) (e : LA.leadS (R.getD i []) = LA.leadS (R.getD j [])) : i = j := by
 refine h.red.inj (by simpa using hi) (by simpa using hj) ?_
 unfold LA.pv; rw [e]
theorem pvI_none {n : Nat} {R : List (List Int)} (h : LA.RedL n R) {i : Nat} (hi : i < R.length) : ¬ 0 ≤ pvI (R.take i) (LA.leadS (R.getD i [])) := fun hp => by
 obtain ⟨h1, h2⟩ := pvI_bd hp
 rw [List.length_take] at h1
 have h1 := Nat.lt_of_lt_of_le h1 (Nat.min_le_left i R.length)
 rw [take_getD h1] at h2
 have := lead_ne h (by omega) hi h2
 omega
theorem pvI_snoc {n : Nat} {R : List (List Int)} (h : LA.RedL n R) {i : Nat} (hi : i < R.length) (j : Nat) : pvI (R.take (i + 1)) (j : Int) = if j = (LA.leadS (R.getD i [])).toNat then (i : Int) else pvI (R.take i) (j : Int) := by
 have hl := (h.at_ hi).2
 have hn := pvI_none h hi
 have hm : ¬ 0 ≤ pvI (R.take i) (j : Int) → pvI (R.take i) (j : Int) = -1 := fun hh => idx_m1 hh
 have e : pvI (R.take (i + 1)) (j : Int) = if 0 ≤ pvI (R.take i) (j : Int) then pvI (R.take i) (j : Int) else if decide (LA.leadS (R.getD i []) = (j : Int)) = true then ((R.take i).length : Int) else -1 := by
  unfold pvI; rw [take_snoc (z := []) hi, idx_app]
 rw [e, List.length_take, Nat.min_eq_left (by omega)]
 by_cases hj : j = (LA.leadS (R.getD i [])).toNat
 ·have hjj : (j : Int) = LA.leadS (R.getD i []) := by omega
  rw [if_pos hj, hjj, if_neg hn, if_pos (decide_eq_true rfl)]
 ·rw [if_neg hj]
  by_cases hp : 0 ≤ pvI (R.take i) (j : Int)
  ·rw [if_pos hp]
  ·rw [if_neg hp, if_neg (by rw [decide_eq_true_iff]; omega), hm hp]
theorem nv_zero (n k : Nat) : (List.replicate n (0 : Int)).set k 1 = nvL ([] : List (List Int)) n k := by
 unfold nvL
 have e : List.replicate n (0 : Int) = (List.range n).map fun _ => (0 : Int) := by
  apply List.ext_getElem
  ·simp
  ·intro j _ _; simp
 rw [e]
 refine mapR_set _ _ fun j hj => ?_
 unfold nvE
 rw [show pvI [] (j : Int) = -1 from rfl, if_neg (by decide)]
 by_cases h : j = k
 ·rw [if_pos h, if_pos (by omega)]
 ·rw [if_neg h, if_neg (by omega)]
theorem nv_step {n : Nat} {R : List (List Int)} (h : LA.RedL n R) {i k : Nat} (hi : i < R.length) : (nvL (R.take i) n k).set (LA.leadS (R.getD i [])).toNat (subF 0 ((R.getD i []).getD k 0)) = nvL (R.take (i + 1)) n k := by
 unfold nvL
 refine mapR_set _ _ fun j hj => ?_
 unfold nvE
 rw [pvI_snoc h hi j]
 by_cases e : j = (LA.leadS (R.getD i [])).toNat
 ·rw [if_pos e, if_pos e, if_pos (by omega)]
  rw [show ((i : Int)).toNat = i from rfl]
  congr 1
  rw [take_getD (show i < i + 1 by omega)]
 ·rw [if_neg e, if_neg e]
  by_cases hp : 0 ≤ pvI (R.take i) (j : Int)
  ·rw [if_pos hp, if_pos hp]
   have hb := (pvI_bd hp).1
   rw [List.length_take] at hb
   congr 1
   rw [take_getD (show _ < i + 1 by omega), take_getD (show _ < i by omega)]
  ·rw [if_neg hp, if_neg hp]
theorem nvL_len (R : List (List Int)) (n k : Nat) : (nvL R n k).length = n := mapR_len _ _
theorem subF_el {x : Int} : 0 ≤ subF 0 x ∧ subF 0 x ≤ 1018 := by
 unfold subF
 split
 ·rename_i h
  have := (l4Both_t h).2
  have := tmod_f (0 - x + 1019) 1019 (by decide)
  omega
 ·omega
theorem nvL_ok (R : List (List Int)) (n k : Nat) : LA.VokB n (nvL R n k) := ⟨nvL_len R n k, fun x hx => by
 obtain ⟨j, _, rfl⟩ := List.mem_map.1 hx
 unfold nvE LA.El
 split
 ·exact subF_el
 ·split <;> omega⟩
theorem nulS_len (R : List (List Int)) (n : Nat) : (nulS R n).length ≤ n := by unfold nulS; rw [List.length_map]; exact frC_len R n
theorem nulS_ok {R : List (List Int)} {n : Nat} : ∀ v ∈ nulS R n, LA.VokB n v := fun v hv => by
 obtain ⟨k, _, rfl⟩ := List.mem_map.1 hv
 exact nvL_ok _ _ _
def spS (w : Int) (R : List (List Int)) (v : List Int) : List (List Int) := if validV v = true ∧ ((v.length : Nat) : Int) = w then insR R v else R
def spanB (vs : List (List Int)) (w : Int) : T101 := if inR w 0 40 = true then (w, foldTo (spS w) [] vs vs.length) else (0, [])
theorem spS_red {w : Int} {R : List (List Int)} {v : List Int} (h : LA.RedL w.toNat R) : LA.RedL w.toNat (spS w R v) := by
 unfold spS; split
 ·rename_i hv
  exact (LA.insS_ok h ⟨by omega, (validV_t hv.1).2.1⟩).1
 ·exact h
theorem span_red {w : Int} {vs : List (List Int)} : ∀ i, i ≤ vs.length → LA.RedL w.toNat (foldTo (spS w) [] vs i)
 | 0, _ => LA.RedL.nil _
 | i + 1, hi => by rw [foldTo_succ [] (by omega)]; exact spS_red (span_red i (by omega))
theorem spanB_P (vs : List (List Int)) (w : Int) : basP (spanB vs w) := by
 unfold spanB; split
 ·rename_i h; exact ⟨inR_t h, span_red _ (Nat.le_refl _)⟩
 ·exact ⟨by decide, LA.RedL.nil _⟩
def orthB (b : T101) : T101 := if validB b = true then spanB (nulS b.2 b.1.toNat) b.1 else (0, [])
theorem orthB_P (b : T101) : basP (orthB b) := by
 unfold orthB; split
 ·exact spanB_P _ _
 ·exact ⟨by decide, LA.RedL.nil _⟩
def intB (a b : T101) : T101 := if sameW a b = true then orthB (sumB (orthB a) (orthB b)) else (0, [])
theorem intB_P (a b : T101) : basP (intB a b) := by
 unfold intB; split
 ·exact orthB_P _
 ·exact ⟨by decide, LA.RedL.nil _⟩
theorem spS_y {w : Int} {R : List (List Int)} {v : List Int} (h : validV v = true) (h2 : ((v.length : Nat) : Int) = w) : (insU (w, R) v).2 = spS w R v := by unfold spS; rw [if_pos ⟨h, h2⟩]; rfl
theorem spS_n {w : Int} {R : List (List Int)} {v : List Int} (h : validV v = false ∨ ¬ ((v.length : Nat) : Int) = w) : R = spS w R v := by
 unfold spS; rw [if_neg]
 rintro ⟨h1, h2⟩
 rcases h with h | h
 ·rw [h1] at h; cases h
 ·exact h h2
theorem insV_sp {w : Int} {R : List (List Int)} {v : List Int} (h : inR w 0 40 = true) (hr : LA.RedL w.toNat R) : (insV (w, R) v).1 = (w, spS w R v) := by
 have hv : validB (w, R) = true := (validB_iff _).2 ⟨inR_t h, hr⟩
 unfold insV takesB spS
 rw [if_pos hv]
 by_cases h1 : validV v = true
 ·rw [if_pos h1]
  by_cases h2 : ((v.length : Nat) : Int) = w
  ·rw [if_pos (decide_eq_true h2), if_pos ⟨h1, h2⟩]; rfl
  ·rw [if_neg (by rw [decide_eq_true_iff]; exact h2), if_neg (fun e => h2 e.2)]
 ·rw [if_neg h1, if_neg (by decide), if_neg (fun e => h1 e.1)]
def idM (n : Int) (i : Nat) : List (List Int) := (List.range i).map fun (k : Nat) => unitL n.toNat (k : Int)
theorem idM_snoc (n : Int) (i : Nat) : idM n (i + 1) = idM n i ++ [unitL n.toNat (i : Int)] := by unfold idM; rw [List.range_succ, List.map_append]; rfl
theorem idM_len (n : Int) (i : Nat) : (idM n i).length = i := by simp [idM]
theorem frC_nil : ∀ n, frC [] n = (List.range n).map fun (k : Nat) => (k : Int)
 | 0 => rfl
 | n + 1 => by rw [frC_f (by rfl), frC_nil n, List.range_succ, List.map_append]; rfl
theorem nvL_nil (n k : Nat) : nvL [] n k = unitL n (k : Int) := by
 unfold nvL unitL
 refine mapR_congr fun j _ => ?_
 unfold nvE
 rw [show pvI [] (j : Int) = -1 from rfl, if_neg (by decide)]
theorem nulS_nil (n : Int) : nulS [] n.toNat = idM n n.toNat := by
 unfold nulS idM
 rw [frC_nil, List.map_map]
 refine mapR_congr fun k _ => ?_
 show nvL [] n.toNat ((k : Int)).toNat = _
 exact nvL_nil _ _
def pvL (R : List (List Int)) (n i : Nat) : List Int := (List.range n).map fun (j : Nat) => pvI (R.take i) (j : Int)
theorem pvL_len (R : List (List Int)) (n i : Nat) : (pvL R n i).length = n := mapR_len _ _
theorem pvL_zero (R : List (List Int)) (n : Nat) : List.replicate n (-1 : Int) = pvL R n 0 := by
 apply List.ext_getElem
 ·simp [pvL]
 ·intro j h1 h2; simp [pvL, pvI, idxF]
theorem pvL_set {n : Nat} {R : List (List Int)} (h : LA.RedL n R) {i : Nat} (hi : i < R.length) : (pvL R n i).set (LA.leadS (R.getD i [])).toNat (i : Int) = pvL R n (i + 1) := mapR_set _ _ fun j _ => pvI_snoc h hi j
theorem pvL_at {n j : Nat} {R : List (List Int)} (h : j < n) : (pvL R n R.length).getD j 0 = pvI R (j : Int) := by unfold pvL; rw [mapR_at _ h, List.take_length]
def negTo (n i : Nat) : List Int := List.replicate i (-1) ++ List.replicate (n - i) 0
theorem negTo_set {n i : Nat} (h : i < n) : (negTo n i).set i (-1) = negTo n (i + 1) := by
 unfold negTo
 rw [List.set_append_right _ _ (by simp), List.length_replicate, Nat.sub_self, show n - i = n - (i + 1) + 1 by omega, List.replicate_succ, List.set_cons_zero, List.replicate_succ', List.append_assoc]; rfl
theorem negTo_len {n i : Nat} (h : i ≤ n) : (negTo n i).length = n := by simp [negTo]; omega
theorem negTo_all {n i : Nat} (h : n ≤ i) (h2 : i ≤ n) : negTo n i = List.replicate n (-1) := by
 have : i = n := by omega
 subst this; simp [negTo]
def nvTo (R : List (List Int)) (n k j : Nat) : List Int := (List.range n).map fun (t : Nat) => if t < j then nvE R k t else if (t : Int) = (k : Int) then 1 else 0
theorem nvTo_len (R : List (List Int)) (n k j : Nat) : (nvTo R n k j).length = n := mapR_len _ _
theorem nvTo_zero (R : List (List Int)) (n k : Nat) : unitL n (k : Int) = nvTo R n k 0 := mapR_congr fun t _ => (if_neg (by omega)).symm
theorem nvTo_all {R : List (List Int)} {n k j : Nat} (h : n ≤ j) : nvTo R n k j = nvL R n k := mapR_congr fun t ht => if_pos (by omega)
theorem nvTo_set {R : List (List Int)} {n k j : Nat} (h : 0 ≤ pvI R (j : Int)) : (nvTo R n k j).set j (subF 0 ((R.getD (pvI R (j : Int)).toNat []).getD k 0)) = nvTo R n k (j + 1) := mapR_set _ _ fun t _ => by
 by_cases e : t = j
 ·subst e; rw [if_pos (show t < t + 1 by omega), if_pos (show t = t from rfl)]; unfold nvE; rw [if_pos h]
 ·rw [if_neg e]
  by_cases e2 : t < j
  ·rw [if_pos (show t < j + 1 by omega), if_pos e2]
  ·rw [if_neg (show ¬ t < j + 1 by omega), if_neg e2]
theorem nvTo_same {R : List (List Int)} {n k j : Nat} (h : ¬ 0 ≤ pvI R (j : Int)) : nvTo R n k j = nvTo R n k (j + 1) := mapR_congr fun t _ => by
 by_cases e : t = j
 ·subst e; rw [if_neg (show ¬ t < t by omega), if_pos (show t < t + 1 by omega)]; unfold nvE; rw [if_neg h]
 ·by_cases e2 : t < j
  ·rw [if_pos e2, if_pos (show t < j + 1 by omega)]
  ·rw [if_neg e2, if_neg (show ¬ t < j + 1 by omega)]
theorem pvI_any {R : List (List Int)} {j : Int} : 0 ≤ pvI R j ↔ R.any (fun e => decide (LA.leadS e = j)) = true := idxF_pos
def nsTo (R : List (List Int)) (n k : Nat) : List (List Int) := (frC R k).map fun c => nvL R n c.toNat
theorem nsTo_y {R : List (List Int)} {n k : Nat} (h : 0 ≤ pvI R (k : Int)) : nsTo R n k = nsTo R n (k + 1) := by unfold nsTo; rw [frC_t (pvI_any.1 h)]
theorem nsTo_n {R : List (List Int)} {n k : Nat} (h : ¬ 0 ≤ pvI R (k : Int)) : nsTo R n k ++ [nvL R n k] = nsTo R n (k + 1) := by
 unfold nsTo
 rw [frC_f (by rw [Bool.eq_false_iff]; exact fun e => h (pvI_any.2 e)), List.map_append]; rfl
theorem nsTo_len (R : List (List Int)) (n k : Nat) : (nsTo R n k).length ≤ k := by unfold nsTo; rw [List.length_map]; exact frC_len R k
def spTo (w : Int) (vs : List (List Int)) (i : Nat) : T101 := if inR w 0 40 = true then (w, foldTo (spS w) [] vs i) else (0, [])
theorem spTo_P {w : Int} {vs : List (List Int)} {i : Nat} (h : i ≤ vs.length) : basP (spTo w vs i) := by
 unfold spTo; split
 ·rename_i hw; exact ⟨inR_t hw, span_red i h⟩
 ·exact ⟨by decide, LA.RedL.nil _⟩
theorem sp_next {w : Int} {vs : List (List Int)} {i : Nat} (h : inR w 0 40 = true) (hi : i < vs.length) : (insV (spTo w vs i) (vs.getD i [])).1 = spTo w vs (i + 1) := by
 unfold spTo; rw [if_pos h, if_pos h, insV_sp h (span_red i (by omega)), foldTo_succ [] hi]
theorem spTo_end {w : Int} {vs : List (List Int)} {i : Nat} (h : i ≤ vs.length) (he : vs.length ≤ i ∨ inR w 0 40 = false) : spTo w vs i = spanB vs w := by
 unfold spTo spanB
 by_cases hw : inR w 0 40 = true
 ·rw [if_pos hw, if_pos hw]
  rcases he with he | he
  ·rw [show i = vs.length by omega]
  ·rw [hw] at he; cases he
 ·rw [if_neg hw, if_neg hw]
theorem nulS_fit {R : List (List Int)} {n : Int} (h : 0 ≤ n ∧ n ≤ 40) : Sh.fit s97 (nulS R n.toNat) := fitM nulS_ok (by omega) (by have := nulS_len R n.toNat; omega)
theorem idM_end {n : Int} {i : Nat} (h : i = 0 ∨ ((i : Int) ≤ n ∧ n ≤ 40)) (he : ¬ (i : Int) < n ∨ ¬ n ≤ 40) : idM n i = if n ≤ 40 then idM n n.toNat else [] := by
 by_cases hn : n ≤ 40
 ·rw [if_pos hn]; congr 1; omega
 ·rw [if_neg hn, show i = 0 by omega]; rfl
theorem idM_fit {n : Int} (h : 0 ≤ n ∧ n ≤ 40) : Sh.fit s97 (if n ≤ 40 then idM n n.toNat else []) := by
 rw [if_pos h.2]
 refine fitM (n := n.toNat) (fun v hv => ?_) (by omega) (by rw [idM_len]; omega)
 obtain ⟨k, _, rfl⟩ := List.mem_map.1 hv
 exact unitL_ok _ _
theorem redL_valid {n : Nat} {m : List (List Int)} (h : LA.RedL n m) (hn : n ≤ 40) : validM m = true := ((isRed_iff h.ok hn).2 h).1
theorem rowRed_id {m : List (List Int)} (h : LA.RedL (List.length (m.getD 0 [])) m) (hn : List.length (m.getD 0 []) ≤ 40) : rowRed m = m := by rw [rowRed_at (redL_valid h hn)]; exact LA.gjS_red h
theorem redL_w {n : Nat} {m : List (List Int)} (h : LA.RedL n m) (h0 : 0 < m.length) : List.length (m.getD 0 []) = n := (h.ok _ (LA.getD_in h0)).1
theorem orth_red {b : T101} (h : validB b = true) (h0 : 0 < b.2.length) : LA.RedL (List.length (b.2.getD 0 [])) b.2 ∧ List.length (b.2.getD 0 []) = b.1.toNat ∧ List.length (b.2.getD 0 []) ≤ 40 := by
 have hv := validB_t h
 have e := redL_w hv.2 h0
 exact ⟨by rw [e]; exact hv.2, e, by have := hv.1; omega⟩
theorem orth_pre {b : T101} (hf : Sh.fit s97 b.2) (h : validB b = true) (h0 : ¬ b.2.length = 0) : Sh.fit s97 b.2 ∧ (LA.RedL (List.length (b.2.getD 0 [])) b.2 ∧ (0 < b.2.length ∧ List.length (b.2.getD 0 []) ≤ 40)) := by
 have := orth_red h (by omega)
 exact ⟨hf, this.1, by omega, this.2.2⟩
theorem orth_fit {b : T101} (h : validB b = true) (h0 : ¬ b.2.length = 0) : Sh.fit s97 (nulS b.2 (List.length (b.2.getD 0 []))) := by
 rw [(orth_red h (by omega)).2.1]; exact nulS_fit (validB_t h).1
theorem orth_ns {b : T101} (h : validB b = true) (h0 : ¬ b.2.length = 0) : spanB (nulS b.2 (List.length (b.2.getD 0 []))) b.1 = orthB b := by
 unfold orthB; rw [if_pos h, (orth_red h (by omega)).2.1]
theorem orth_id {b : T101} (h : validB b = true) (h0 : b.2.length = 0) : spanB (if b.1 ≤ 40 then idM b.1 b.1.toNat else []) b.1 = orthB b := by
 unfold orthB; rw [if_pos h, if_pos (validB_t h).1.2, List.eq_nil_of_length_eq_zero h0, nulS_nil]

def D_impl_freeColumns := (fun (R : List (List Int)) (n : Int) => frC R n.toNat)
abbrev Q_impl_freeColumns := (fun (x0 : (List (List Int))) (x1 : Int) => Sh.fit s97 x0 ∧ (0 ≤ x1 ∧ x1 ≤ 40))
def S_impl_freeColumns : Sum := { fid := 282, dom := [s97, (.int 3)], cod := [s22], dp := true, fz := false, pre := fun x => Q_impl_freeColumns x.1 x.2.1, g := fun x => ((D_impl_freeColumns x.1 x.2.1), ()) }
def S_impl_freeColumns_tab : List (Nat × Sum) := [(100012, S_slices_ContainsFunc_S_S_int_S_int__freeColumns_1)]
theorem S_impl_freeColumns_ok : FnOK Try.prog 282 S_impl_freeColumns := by
 refine at_enter 21 (fun x => ⟨[(0, aF s22 x.1), (1, aI x.2.1)], []⟩) Try.func282 rfl (by kernel_rfl) (fun x => rfl) ?_
 rintro w0 Z0 ⟨x0, x1, u⟩ a w
 revert x0 x1
 intro (x0 : (List (List Int))) (x1 : Int) hpre hlens h
 replace hpre : Q_impl_freeColumns x0 x1 := hpre
 have hT : TabOK Try.prog S_impl_freeColumns_tab := (.cons S_slices_ContainsFunc_S_S_int_S_int__freeColumns_1_ok .nil)
 obtain ⟨hf0, hpx⟩ := hpre
 have hn0_1 : List.length x0 ≤ 1073741824 := hf0.1
 refine wp_seq ?_
 refine at_regq [] { ts := [0, 1, 4], os := [] } [] gamOK hT h (by kernel_rfl) trivial fun a w h => then_normal (wp_seq ?_)
 refine at_regq [] { ts := [0, 1, 4, 5], os := [] } [] gamOK hT h (by kernel_rfl) trivial fun a w h => then_normal (wp_seq (wp_seq ?_))
 refine at_regq [] { ts := [0, 4, 5, 7, 8], os := [] } [] gamOK hT h (by kernel_rfl) trivial fun a w h => then_normal (wp_block ?_)
 replace h := at_out (σ' := ⟨[(0, aF s22 x0), (4, .p (.c (cN))), (5, aS 1), (7, aI x1), (8, aI 0)], [(1, oR (.int 3) ([] : List Int))]⟩) { mt := [⟨none, 5, 1, true, (.int 3)⟩], ts := [0, 4, 5, 7, 8], os := [1] } h (by kernel_rfl)
 refine at_loop (fun i : Nat => (⟨[(0, aF s22 x0), (4, .p (.c (cN))), (5, aS 1), (7, aI x1), (8, aI ((i : Nat) : Int))], [(1, oR (.int 3) (frC x0 i))]⟩ : St)) (fun i => i ≤ x1.toNat) (fun i => x1.toNat - i) (0) h (st_congr2 (fun (d0 : List Int) (d1 : Int) => (⟨[(0, aF s22 x0), (4, .p (.c (cN))), (5, aS 1), (7, aI x1), (8, aI d1)], [(1, oR (.int 3) d0)]⟩ : St)) (show (([] : List Int) : List Int) = (frC x0 (0)) from by first | with_reducible rfl | (rfl) | rfl) (show (0 : Int) = (((0) : Nat) : Int) from by first | with_reducible rfl | (rfl) | rfl)) (by omega) ?_
 intro i a w hok0 h
 have hfl := frC_len x0 i
 refine wp_seq ?_
 refine at_regq [] { ts := [0, 4, 5, 7, 8, 9], os := [1] } [] gamOK hT h (by kernel_rfl) trivial fun a w h => then_normal (wp_seq ?_)
 refine at_test (decide (((i : Nat) : Int) < x1)) h (by kernel_rfl) (fun h1 => ?_) (fun h1 => ?_)
 ·replace h1 : ((i : Nat) : Int) < x1 := of_decide_eq_true h1
  refine wp_skip (then_normal (wp_seq (wp_block (wp_seq ?_))))
  refine at_regq [{}, { ids := [2] }] { ts := [0, 4, 5, 6, 7, 8], os := [1, 2] } [] gamOK hT h (by kernel_rfl) trivial fun a w h => then_normal (wp_seq ?_)
  refine at_regq [{}, {}, { key := some 100012 }] { ts := [0, 4, 5, 6, 7, 8, 14], os := [1, 2] } [Q_slices_ContainsFunc_S_S_int_S_int__freeColumns_1 x0 ((i : Nat) : Int)] gamOK hT h (by kernel_rfl) ⟨(by exact hf0), trivial⟩ fun a w h => then_normal ?_
  refine at_test (!(D_slices_ContainsFunc_S_S_int_S_int__freeColumns_1 x0 ((i : Nat) : Int))) h (by kernel_rfl) (fun h2 => ?_) (fun h2 => ?_)
  ·replace h2 : (D_slices_ContainsFunc_S_S_int_S_int__freeColumns_1 x0 ((i : Nat) : Int)) = false := notT h2
   refine at_regq [{}, {}, { ids := [3] }, { ids := [4] }] { ts := [0, 4, 5, 7, 8], os := [4] } [(List.length (frC x0 i) + List.length ([((i : Nat) : Int)])) * 8 ≤ 140737488355328] gamOK hT h (by kernel_rfl) ⟨(by first | omega | (simp only [lsA]; omega) | (simp <;> omega)), trivial⟩ fun a w h => in_normal (then_normal ?_)
   refine at_regq [{ nw := true }] { ts := [0, 4, 5, 7, 8], os := [4] } [I64 (((i : Nat) : Int) + 1)] gamOK hT h (by kernel_rfl) ⟨⟨by first | omega | (simp only [lsA]; omega) | (simp <;> omega), by first | omega | (simp only [lsA]; omega) | (simp <;> omega)⟩, trivial⟩ fun a w h => ?_
   replace h := at_out (σ' := ⟨[(0, aF s22 x0), (4, .p (.c (cN))), (5, aS 1), (7, aI x1), (8, aI (((i : Nat) : Int) + 1))], [(1, oR (.int 3) ((frC x0 i) ++ ([((i : Nat) : Int)])))]⟩) { ts := [0, 4, 5, 7, 8], os := [4], rn := [(4, 1)] } h (by kernel_rfl)
   exact ⟨i + 1, at_eq h (st_congr2 (fun (d0 : List Int) (d1 : Int) => (⟨[(0, aF s22 x0), (4, .p (.c (cN))), (5, aS 1), (7, aI x1), (8, aI d1)], [(1, oR (.int 3) d0)]⟩ : St)) (show (((frC x0 i) ++ ([((i : Nat) : Int)])) : List Int) = (frC x0 (i + 1)) from by first | with_reducible rfl | (first | exact (frC_f (by assumption)).symm | exact (frC_t (by assumption)).symm) | rfl) (show (((i : Nat) : Int) + 1 : Int) = (((i + 1) : Nat) : Int) from by first | with_reducible rfl | (omega) | rfl)), (by omega), (by omega)⟩
  ·replace h2 : (D_slices_ContainsFunc_S_S_int_S_int__freeColumns_1 x0 ((i : Nat) : Int)) = true := notF h2
   refine wp_skip (in_normal (then_normal ?_))
   refine at_regq [{ nw := true }] { ts := [0, 4, 5, 7, 8], os := [1] } [I64 (((i : Nat) : Int) + 1)] gamOK hT h (by kernel_rfl) ⟨⟨by first | omega | (simp only [lsA]; omega) | (simp <;> omega), by first | omega | (simp only [lsA]; omega) | (simp <;> omega)⟩, trivial⟩ fun a w h => ?_
   replace h := at_out (σ' := ⟨[(0, aF s22 x0), (4, .p (.c (cN))), (5, aS 1), (7, aI x1), (8, aI (((i : Nat) : Int) + 1))], [(1, oR (.int 3) (frC x0 i))]⟩) { ts := [0, 4, 5, 7, 8], os := [1] } h (by kernel_rfl)
   exact ⟨i + 1, at_eq h (st_congr2 (fun (d0 : List Int) (d1 : Int) => (⟨[(0, aF s22 x0), (4, .p (.c (cN))), (5, aS 1), (7, aI x1), (8, aI d1)], [(1, oR (.int 3) d0)]⟩ : St)) (show ((frC x0 i) : List Int) = (frC x0 (i + 1)) from by first | with_reducible rfl | (first | exact (frC_f (by assumption)).symm | exact (frC_t (by assumption)).symm) | rfl) (show (((i : Nat) : Int) + 1 : Int) = (((i + 1) : Nat) : Int) from by first | with_reducible rfl | (omega) | rfl)), (by omega), (by omega)⟩
 ·replace h1 : ¬ (((i : Nat) : Int) < x1) := of_decide_eq_false h1
  refine wp_exit (then_exit ?_)
  replace h := at_out (σ' := ⟨[(4, .p (.c (cN))), (5, aS 1)], [(1, oR (.int 3) (frC x0 i))]⟩) { ts := [4, 5], os := [1] } h (by kernel_rfl)
  replace h := at_eq (σ' := ⟨[(4, .p (.c (cN))), (5, aS 1)], [(1, oR (.int 3) (frC x0 x1.toNat))]⟩) h (st_congr1 (fun (d0 : List Int) => (⟨[(4, .p (.c (cN))), (5, aS 1)], [(1, oR (.int 3) d0)]⟩ : St)) (show ((frC x0 i) : List Int) = (frC x0 x1.toNat) from by first | with_reducible rfl | (rw [show x1.toNat = i by omega]) | rfl))
  refine then_exit (in_hit (then_normal (wp_seq ?_)))
  refine at_regq [] { ts := [4], os := [1] } [] gamOK hT h (by kernel_rfl) trivial fun a w h => then_normal (wp_ret ?_)
  exact at_return ((frC x0 x1.toNat), ()) [] h (by kernel_rfl) trivial (congrArg (fun z => (z, ())) (show ((frC x0 x1.toNat)) = D_impl_freeColumns x0 x1 from by unfold D_impl_freeColumns; rfl))

def D_impl_nullSpace := (fun (R : List (List Int)) (n : Int) => nulS R n.toNat)
abbrev Q_impl_nullSpace := (fun (x0 : (List (List Int))) (x1 : Int) => Sh.fit s97 x0 ∧ (LA.RedL x1.toNat x0 ∧ (0 ≤ x1 ∧ x1 ≤ 40)))
def S_impl_nullSpace : Sum := { fid := 217, dom := [s97, (.int 3)], cod := [s97], dp := true, fz := false, pre := fun x => Q_impl_nullSpace x.1 x.2.1, g := fun x => ((D_impl_nullSpace x.1 x.2.1), ()) }
def S_impl_nullSpace_tab : List (Nat × Sum) := [(282, S_impl_freeColumns), (229, S_impl_LeadingIndex), (283, S_impl_SubField)]
theorem S_impl_nullSpace_ok : FnOK Try.prog 217 S_impl_nullSpace := by
 refine at_enter 46 (fun x => ⟨[(0, aF s22 x.1), (1, aI x.2.1)], []⟩) Try.func217 rfl (by kernel_rfl) (fun x => rfl) ?_
 rintro w0 Z0 ⟨x0, x1, u⟩ a w
 revert x0 x1
 intro (x0 : (List (List Int))) (x1 : Int) hpre hlens h
 replace hpre : Q_impl_nullSpace x0 x1 := hpre
 have hT : TabOK Try.prog S_impl_nullSpace_tab := (.cons S_impl_freeColumns_ok (.cons S_impl_LeadingIndex_ok (.cons S_impl_SubField_ok .nil)))
 obtain ⟨hf0, hpx⟩ := hpre
 have hn0_1 : List.length x0 ≤ 1073741824 := hf0.1
 have hw := hpx.2
 have hfl := frC_len x0 x1.toNat
 refine wp_seq ?_
 refine at_regq [] { ts := [0, 1, 4], os := [] } [] gamOK hT h (by kernel_rfl) trivial fun a w h => then_normal (wp_seq ?_)
 refine at_regq [] { ts := [0, 1, 4, 5], os := [] } [] gamOK hT h (by kernel_rfl) trivial fun a w h => then_normal (wp_seq (wp_seq ?_))
 refine at_regq [{}, {}, { ids := [1] }] { ts := [0, 1, 4, 5, 13, 14, 15], os := [1] } [Q_impl_freeColumns x0 x1] gamOK hT h (by kernel_rfl) ⟨(by exact ⟨hf0, hw⟩), trivial⟩ fun a w h => then_normal (wp_block ?_)
 replace h := at_out (σ' := ⟨[(0, aF s22 x0), (1, aI x1), (4, .p (.c (cN))), (5, aS 2), (13, aS 1), (14, aI ((List.length (frC x0 x1.toNat) : Nat) : Int)), (15, aI 0)], [(1, oR (.int 3) (frC x0 x1.toNat)), (2, oR s22 ([] : List (List Int)))]⟩) { mt := [⟨none, 5, 2, true, s22⟩], ts := [0, 1, 4, 5, 13, 14, 15], os := [1, 2] } h (by kernel_rfl)
 refine at_loop (fun i : Nat => (⟨[(0, aF s22 x0), (1, aI x1), (4, .p (.c (cN))), (5, aS 2), (13, aS 1), (14, aI ((List.length (frC x0 x1.toNat) : Nat) : Int)), (15, aI ((i : Nat) : Int))], [(1, oR (.int 3) (frC x0 x1.toNat)), (2, oR s22 (List.map (fun k => nvL x0 x1.toNat k.toNat) (List.take i (frC x0 x1.toNat))))]⟩ : St)) (fun i => i ≤ List.length (frC x0 x1.toNat)) (fun i => List.length (frC x0 x1.toNat) - i) (0) h (st_congr2 (fun (d0 : List (List Int)) (d1 : Int) => (⟨[(0, aF s22 x0), (1, aI x1), (4, .p (.c (cN))), (5, aS 2), (13, aS 1), (14, aI ((List.length (frC x0 x1.toNat) : Nat) : Int)), (15, aI d1)], [(1, oR (.int 3) (frC x0 x1.toNat)), (2, oR s22 d0)]⟩ : St)) (show (([] : List (List Int)) : List (List Int)) = (List.map (fun k => nvL x0 x1.toNat k.toNat) (List.take (0) (frC x0 x1.toNat))) from by first | with_reducible rfl | (first | rfl | simp) | rfl) (show (0 : Int) = (((0) : Nat) : Int) from by first | with_reducible rfl | (first | rfl | simp) | rfl)) (by omega) ?_
 intro i a w hok0 h
 have hlt0 := len_take_le (xs := (frC x0 x1.toNat)) i
 refine wp_seq ?_
 refine at_regq [] { ts := [0, 1, 4, 5, 13, 14, 15, 16], os := [1, 2] } [] gamOK hT h (by kernel_rfl) trivial fun a w h => then_normal (wp_seq ?_)
 refine at_test (decide (((i : Nat) : Int) < ((List.length (frC x0 x1.toNat) : Nat) : Int))) h (by kernel_rfl) (fun h1 => ?_) (fun h1 => ?_)
 ·replace h1 : ((i : Nat) : Int) < ((List.length (frC x0 x1.toNat) : Nat) : Int) := of_decide_eq_true h1
  have hfm := frC_mem (getD_mem (z := 0) (show i < List.length (frC x0 x1.toNat) by omega))
  have hfn := hfm.1
  have hrp : List.length (List.replicate x1.toNat (0 : Int)) = x1.toNat := List.length_replicate
  refine wp_skip (then_normal (wp_seq (wp_block (wp_seq ?_))))
  refine at_regq [] { ts := [0, 1, 4, 5, 7, 13, 14, 15], os := [1, 2] } [(0 : Int) ≤ ((i : Nat) : Int) ∧ ((i : Nat) : Int) < ((List.length (frC x0 x1.toNat) : Nat) : Int), i < List.length (frC x0 x1.toNat)] gamOK hT h (by kernel_rfl) ⟨(by refine ⟨?_, ?_⟩ <;> (first | omega | (simp only [lsA]; omega) | (simp <;> omega))), (by first | omega | (simp only [lsA]; omega) | (simp <;> omega)), trivial⟩ fun a w h => then_normal (wp_seq ?_)
  refine at_regq [{}, { ids := [3] }] { ts := [0, 1, 4, 5, 7, 8, 13, 14, 15], os := [1, 2, 3] } [(0 : Int) ≤ x1 ∧ x1 = x1 ∧ x1 * (8 : Nat) ≤ (140737488355328 : Int)] gamOK hT h (by kernel_rfl) ⟨(by refine ⟨?_, ?_, ?_⟩ <;> ((have hA0 := mul_f x1 (8 : Nat); first | omega | (simp only [lsA]; omega) | (simp <;> omega)))), trivial⟩ fun a w h => then_normal (wp_seq ?_)
  refine at_regq [] { ts := [0, 1, 4, 5, 7, 8, 13, 14, 15], os := [1, 2, 3] } [(0 : Int) ≤ ((frC x0 x1.toNat).getD i 0) ∧ ((frC x0 x1.toNat).getD i 0) < ((List.length (List.replicate ((x1).toNat) (0 : Int)) : Nat) : Int), (((frC x0 x1.toNat).getD i 0)).toNat < List.length (List.replicate ((x1).toNat) (0 : Int))] gamOK hT h (by kernel_rfl) ⟨(by refine ⟨?_, ?_⟩ <;> (first | omega | (simp only [lsA]; omega) | (simp <;> omega))), (by first | omega | (simp only [lsA]; omega) | (simp <;> omega)), trivial⟩ fun a w h => then_normal (wp_seq (wp_seq ?_))
  refine at_regq [] { ts := [0, 1, 4, 5, 7, 8, 13, 14, 15, 24, 25, 26], os := [1, 2, 3] } [] gamOK hT h (by kernel_rfl) trivial fun a w h => then_normal (wp_block ?_)
  replace h := at_out (σ' := ⟨[(0, aF s22 x0), (1, aI x1), (4, .p (.c (cN))), (5, aS 2), (7, aI ((frC x0 x1.toNat).getD i 0)), (8, aS 3), (13, aS 1), (14, aI ((List.length (frC x0 x1.toNat) : Nat) : Int)), (15, aI ((i : Nat) : Int)), (24, aF s22 x0), (25, aI ((List.length x0 : Nat) : Int)), (26, aI 0)], [(1, oR (.int 3) (frC x0 x1.toNat)), (2, oR s22 (List.map (fun k => nvL x0 x1.toNat k.toNat) (List.take i (frC x0 x1.toNat)))), (3, oR (.int 3) (List.set (List.replicate ((x1).toNat) (0 : Int)) ((((frC x0 x1.toNat).getD i 0)).toNat) 1))]⟩) { ts := [0, 1, 4, 5, 7, 8, 13, 14, 15, 24, 25, 26], os := [1, 2, 3] } h (by kernel_rfl)
  refine at_loop (fun j : Nat => (⟨[(0, aF s22 x0), (1, aI x1), (4, .p (.c (cN))), (5, aS 2), (7, aI ((frC x0 x1.toNat).getD i 0)), (8, aS 3), (13, aS 1), (14, aI ((List.length (frC x0 x1.toNat) : Nat) : Int)), (15, aI ((i : Nat) : Int)), (24, aF s22 x0), (25, aI ((List.length x0 : Nat) : Int)), (26, aI ((j : Nat) : Int))], [(1, oR (.int 3) (frC x0 x1.toNat)), (2, oR s22 (List.map (fun k => nvL x0 x1.toNat k.toNat) (List.take i (frC x0 x1.toNat)))), (3, oR (.int 3) (nvL (List.take j x0) x1.toNat ((frC x0 x1.toNat).getD i 0).toNat))]⟩ : St)) (fun j => j ≤ List.length x0) (fun j => List.length x0 - j) (0) h (st_congr2 (fun (d0 : List Int) (d1 : Int) => (⟨[(0, aF s22 x0), (1, aI x1), (4, .p (.c (cN))), (5, aS 2), (7, aI ((frC x0 x1.toNat).getD i 0)), (8, aS 3), (13, aS 1), (14, aI ((List.length (frC x0 x1.toNat) : Nat) : Int)), (15, aI ((i : Nat) : Int)), (24, aF s22 x0), (25, aI ((List.length x0 : Nat) : Int)), (26, aI d1)], [(1, oR (.int 3) (frC x0 x1.toNat)), (2, oR s22 (List.map (fun k => nvL x0 x1.toNat k.toNat) (List.take i (frC x0 x1.toNat)))), (3, oR (.int 3) d0)]⟩ : St)) (show ((List.set (List.replicate ((x1).toNat) (0 : Int)) ((((frC x0 x1.toNat).getD i 0)).toNat) 1) : List Int) = (nvL (List.take (0) x0) x1.toNat ((frC x0 x1.toNat).getD i 0).toNat) from by first | with_reducible rfl | (exact nv_zero _ _) | rfl) (show (0 : Int) = (((0) : Nat) : Int) from by first | with_reducible rfl | (exact nv_zero _ _) | rfl)) (by omega) ?_
  intro j a w hok1 h
  have hnl := nvL_len (List.take j x0) x1.toNat ((frC x0 x1.toNat).getD i 0).toNat
  refine wp_seq ?_
  refine at_regq [] { ts := [0, 1, 4, 5, 7, 8, 13, 14, 15, 24, 25, 26, 27], os := [1, 2, 3] } [] gamOK hT h (by kernel_rfl) trivial fun a w h => then_normal (wp_seq ?_)
  refine at_test (decide (((j : Nat) : Int) < ((List.length x0 : Nat) : Int))) h (by kernel_rfl) (fun h2 => ?_) (fun h2 => ?_)
  ·replace h2 : ((j : Nat) : Int) < ((List.length x0 : Nat) : Int) := of_decide_eq_true h2
   have hra := hpx.1.at_ (show j < List.length x0 by omega)
   have hral := hra.1.1
   refine wp_skip (then_normal (wp_seq (wp_block (wp_seq ?_))))
   refine at_regq [] { ts := [0, 1, 4, 5, 7, 8, 10, 13, 14, 15, 24, 25, 26], os := [1, 2, 3] } [(0 : Int) ≤ ((j : Nat) : Int) ∧ ((j : Nat) : Int) < ((List.length x0 : Nat) : Int)] gamOK hT h (by kernel_rfl) ⟨(by refine ⟨?_, ?_⟩ <;> (first | omega | (simp only [lsA]; omega) | (simp <;> omega))), trivial⟩ fun a w h => then_normal ?_
   refine at_anyq [{}, {}, {}, {}, {}, {}, {}, {}, {}, {}] { ts := [0, 1, 4, 5, 7, 8, 13, 14, 15, 24, 25, 26], os := [1, 2, 3] } [Q_impl_LeadingIndex (x0.getD j []), (0 : Int) ≤ ((frC x0 x1.toNat).getD i 0) ∧ ((frC x0 x1.toNat).getD i 0) < ((List.length (x0.getD j []) : Nat) : Int), True, (0 : Int) ≤ (LA.leadS (x0.getD j [])) ∧ (LA.leadS (x0.getD j [])) < ((List.length (nvL (List.take j x0) x1.toNat ((frC x0 x1.toNat).getD i 0).toNat) : Nat) : Int), ((LA.leadS (x0.getD j []))).toNat < List.length (nvL (List.take j x0) x1.toNat ((frC x0 x1.toNat).getD i 0).toNat)] gamOK hT mixed h (by kernel_rfl) ⟨(by exact Sh.fit_getD hf0 j), (by refine ⟨?_, ?_⟩ <;> ((have hL0 := (show List.length (x0.getD j []) ≤ 1073741824 from ((Sh.fit_getD hf0 j)).1); first | omega | (simp only [lsA]; omega) | (simp <;> omega)))), trivial, (by refine ⟨?_, ?_⟩ <;> (first | omega | (simp only [lsA]; omega) | (simp <;> omega))), (by first | omega | (simp only [lsA]; omega) | (simp <;> omega)), trivial⟩ fun a w h => in_normal (then_normal ?_)
   refine at_regq [{ nw := true }] { ts := [0, 1, 4, 5, 7, 8, 13, 14, 15, 24, 25, 26], os := [1, 2, 3] } [I64 (((j : Nat) : Int) + 1)] gamOK hT h (by kernel_rfl) ⟨⟨by first | omega | (simp only [lsA]; omega) | (simp <;> omega), by first | omega | (simp only [lsA]; omega) | (simp <;> omega)⟩, trivial⟩ fun a w h => ?_
   replace h := at_out (σ' := ⟨[(0, aF s22 x0), (1, aI x1), (4, .p (.c (cN))), (5, aS 2), (7, aI ((frC x0 x1.toNat).getD i 0)), (8, aS 3), (13, aS 1), (14, aI ((List.length (frC x0 x1.toNat) : Nat) : Int)), (15, aI ((i : Nat) : Int)), (24, aF s22 x0), (25, aI ((List.length x0 : Nat) : Int)), (26, aI (((j : Nat) : Int) + 1))], [(1, oR (.int 3) (frC x0 x1.toNat)), (2, oR s22 (List.map (fun k => nvL x0 x1.toNat k.toNat) (List.take i (frC x0 x1.toNat)))), (3, oR (.int 3) (List.set (nvL (List.take j x0) x1.toNat ((frC x0 x1.toNat).getD i 0).toNat) (((LA.leadS (x0.getD j []))).toNat) (subF 0 ((x0.getD j []).getD ((((frC x0 x1.toNat).getD i 0)).toNat) 0))))]⟩) { ts := [0, 1, 4, 5, 7, 8, 13, 14, 15, 24, 25, 26], os := [1, 2, 3] } h (by kernel_rfl)
   exact ⟨j + 1, at_eq h (st_congr2 (fun (d0 : List Int) (d1 : Int) => (⟨[(0, aF s22 x0), (1, aI x1), (4, .p (.c (cN))), (5, aS 2), (7, aI ((frC x0 x1.toNat).getD i 0)), (8, aS 3), (13, aS 1), (14, aI ((List.length (frC x0 x1.toNat) : Nat) : Int)), (15, aI ((i : Nat) : Int)), (24, aF s22 x0), (25, aI ((List.length x0 : Nat) : Int)), (26, aI d1)], [(1, oR (.int 3) (frC x0 x1.toNat)), (2, oR s22 (List.map (fun k => nvL x0 x1.toNat k.toNat) (List.take i (frC x0 x1.toNat)))), (3, oR (.int 3) d0)]⟩ : St)) (show ((List.set (nvL (List.take j x0) x1.toNat ((frC x0 x1.toNat).getD i 0).toNat) (((LA.leadS (x0.getD j []))).toNat) (subF 0 ((x0.getD j []).getD ((((frC x0 x1.toNat).getD i 0)).toNat) 0))) : List Int) = (nvL (List.take (j + 1) x0) x1.toNat ((frC x0 x1.toNat).getD i 0).toNat) from by first | with_reducible rfl | (exact nv_step hpx.1 (by omega)) | rfl) (show (((j : Nat) : Int) + 1 : Int) = (((j + 1) : Nat) : Int) from by first | with_reducible rfl | (omega) | rfl)), (by omega), (by omega)⟩
  ·replace h2 : ¬ (((j : Nat) : Int) < ((List.length x0 : Nat) : Int)) := of_decide_eq_false h2
   refine wp_exit (then_exit ?_)
   replace h := at_out (σ' := ⟨[(0, aF s22 x0), (1, aI x1), (4, .p (.c (cN))), (5, aS 2), (8, aS 3), (13, aS 1), (14, aI ((List.length (frC x0 x1.toNat) : Nat) : Int)), (15, aI ((i : Nat) : Int))], [(1, oR (.int 3) (frC x0 x1.toNat)), (2, oR s22 (List.map (fun k => nvL x0 x1.toNat k.toNat) (List.take i (frC x0 x1.toNat)))), (3, oR (.int 3) (nvL (List.take j x0) x1.toNat ((frC x0 x1.toNat).getD i 0).toNat))]⟩) { ts := [0, 1, 4, 5, 8, 13, 14, 15], os := [1, 2, 3] } h (by kernel_rfl)
   replace h := at_eq (σ' := ⟨[(0, aF s22 x0), (1, aI x1), (4, .p (.c (cN))), (5, aS 2), (8, aS 3), (13, aS 1), (14, aI ((List.length (frC x0 x1.toNat) : Nat) : Int)), (15, aI ((i : Nat) : Int))], [(1, oR (.int 3) (frC x0 x1.toNat)), (2, oR s22 (List.map (fun k => nvL x0 x1.toNat k.toNat) (List.take i (frC x0 x1.toNat)))), (3, oR (.int 3) (nvL x0 x1.toNat ((frC x0 x1.toNat).getD i 0).toNat))]⟩) h (st_congr1 (fun (d0 : List Int) => (⟨[(0, aF s22 x0), (1, aI x1), (4, .p (.c (cN))), (5, aS 2), (8, aS 3), (13, aS 1), (14, aI ((List.length (frC x0 x1.toNat) : Nat) : Int)), (15, aI ((i : Nat) : Int))], [(1, oR (.int 3) (frC x0 x1.toNat)), (2, oR s22 (List.map (fun k => nvL x0 x1.toNat k.toNat) (List.take i (frC x0 x1.toNat)))), (3, oR (.int 3) d0)]⟩ : St)) (show ((nvL (List.take j x0) x1.toNat ((frC x0 x1.toNat).getD i 0).toNat) : List Int) = (nvL x0 x1.toNat ((frC x0 x1.toNat).getD i 0).toNat) from by first | with_reducible rfl | (rw [take_all (by omega)]) | rfl))
   refine then_exit (in_hit (then_normal ?_))
   refine at_regq [{}, {}, { ids := [4] }, { ids := [5] }] { ts := [0, 1, 4, 5, 13, 14, 15], os := [1, 5] } [(List.length (List.map (fun k => nvL x0 x1.toNat k.toNat) (List.take i (frC x0 x1.toNat))) + List.length ([(nvL x0 x1.toNat ((frC x0 x1.toNat).getD i 0).toNat)])) * 24 ≤ 140737488355328] gamOK hT h (by kernel_rfl) ⟨(by first | omega | (simp only [lsA]; omega) | (simp <;> omega)), trivial⟩ fun a w h => in_normal (then_normal ?_)
   refine at_regq [{ nw := true }] { ts := [0, 1, 4, 5, 13, 14, 15], os := [1, 5] } [I64 (((i : Nat) : Int) + 1)] gamOK hT h (by kernel_rfl) ⟨⟨by first | omega | (simp only [lsA]; omega) | (simp <;> omega), by first | omega | (simp only [lsA]; omega) | (simp <;> omega)⟩, trivial⟩ fun a w h => ?_
   replace h := at_out (σ' := ⟨[(0, aF s22 x0), (1, aI x1), (4, .p (.c (cN))), (5, aS 2), (13, aS 1), (14, aI ((List.length (frC x0 x1.toNat) : Nat) : Int)), (15, aI (((i : Nat) : Int) + 1))], [(1, oR (.int 3) (frC x0 x1.toNat)), (2, oR s22 ((List.map (fun k => nvL x0 x1.toNat k.toNat) (List.take i (frC x0 x1.toNat))) ++ ([(nvL x0 x1.toNat ((frC x0 x1.toNat).getD i 0).toNat)])))]⟩) { ts := [0, 1, 4, 5, 13, 14, 15], os := [1, 5], rn := [(5, 2)] } h (by kernel_rfl)
   exact ⟨i + 1, at_eq h (st_congr2 (fun (d0 : List (List Int)) (d1 : Int) => (⟨[(0, aF s22 x0), (1, aI x1), (4, .p (.c (cN))), (5, aS 2), (13, aS 1), (14, aI ((List.length (frC x0 x1.toNat) : Nat) : Int)), (15, aI d1)], [(1, oR (.int 3) (frC x0 x1.toNat)), (2, oR s22 d0)]⟩ : St)) (show (((List.map (fun k => nvL x0 x1.toNat k.toNat) (List.take i (frC x0 x1.toNat))) ++ ([(nvL x0 x1.toNat ((frC x0 x1.toNat).getD i 0).toNat)])) : List (List Int)) = (List.map (fun k => nvL x0 x1.toNat k.toNat) (List.take (i + 1) (frC x0 x1.toNat))) from by first | with_reducible rfl | (rw [map_snoc (z := 0) (by omega)]; done) | rfl) (show (((i : Nat) : Int) + 1 : Int) = (((i + 1) : Nat) : Int) from by first | with_reducible rfl | (omega) | rfl)), (by omega), (by omega)⟩
 ·replace h1 : ¬ (((i : Nat) : Int) < ((List.length (frC x0 x1.toNat) : Nat) : Int)) := of_decide_eq_false h1
  refine wp_exit (then_exit ?_)
  replace h := at_out (σ' := ⟨[(4, .p (.c (cN))), (5, aS 2)], [(2, oR s22 (List.map (fun k => nvL x0 x1.toNat k.toNat) (List.take i (frC x0 x1.toNat))))]⟩) { ts := [4, 5], os := [2] } h (by kernel_rfl)
  replace h := at_eq (σ' := ⟨[(4, .p (.c (cN))), (5, aS 2)], [(2, oR s22 (List.map (fun k => nvL x0 x1.toNat k.toNat) (frC x0 x1.toNat)))]⟩) h (st_congr1 (fun (d0 : List (List Int)) => (⟨[(4, .p (.c (cN))), (5, aS 2)], [(2, oR s22 d0)]⟩ : St)) (show ((List.map (fun k => nvL x0 x1.toNat k.toNat) (List.take i (frC x0 x1.toNat))) : List (List Int)) = (List.map (fun k => nvL x0 x1.toNat k.toNat) (frC x0 x1.toNat)) from by first | with_reducible rfl | (rw [take_all (by omega)]) | rfl))
  refine then_exit (in_hit (then_normal (wp_seq ?_)))
  refine at_regq [] { ts := [4], os := [2] } [] gamOK hT h (by kernel_rfl) trivial fun a w h => then_normal (wp_ret ?_)
  exact at_return ((List.map (fun k => nvL x0 x1.toNat k.toNat) (frC x0 x1.toNat)), ()) [] h (by kernel_rfl) trivial (congrArg (fun z => (z, ())) (show ((List.map (fun k => nvL x0 x1.toNat k.toNat) (frC x0 x1.toNat))) = D_impl_nullSpace x0 x1 from by unfold D_impl_nullSpace; rfl))

abbrev Q_impl_SpanOf := (fun (x0 : (List (List Int))) (x1 : Int) => Sh.fit s97 x0)
def S_impl_SpanOf : Sum := { fid := 216, dom := [s97, (.int 3)], cod := [s101], dp := true, fz := false, pre := fun x => Q_impl_SpanOf x.1 x.2.1, g := fun x => ((spanB x.1 x.2.1), ()) }
def S_impl_SpanOf_tab : List (Nat × Sum) := [(107, S_impl_InRange), (134, S_impl_NewBasis), (253, S_impl_IsValidVector), (219, S__P_impl_Basis_insert)]
theorem S_impl_SpanOf_ok : FnOK Try.prog 216 S_impl_SpanOf := by
 refine at_enter 32 (fun x => ⟨[(0, aF s22 x.1), (1, aI x.2.1)], []⟩) Try.func216 rfl (by kernel_rfl) (fun x => rfl) ?_
 rintro w0 Z0 ⟨x0, x1, u⟩ a w
 revert x0 x1
 intro (x0 : (List (List Int))) (x1 : Int) hpre hlens h
 replace hpre : Q_impl_SpanOf x0 x1 := hpre
 have hT : TabOK Try.prog S_impl_SpanOf_tab := (.cons S_impl_InRange_ok (.cons S_impl_NewBasis_ok (.cons S_impl_IsValidVector_ok (.cons S__P_impl_Basis_insert_ok .nil))))
 have hf0 : Sh.fit s97 x0 := hpre
 have hn0_1 : List.length x0 ≤ 1073741824 := hf0.1
 refine wp_seq ?_
 refine at_regq [{ ids := [1] }] { ts := [0, 1, 4], os := [1] } [] gamOK hT h (by kernel_rfl) trivial fun a w h => then_normal (wp_seq (wp_seq ?_))
 refine at_regq [] { ts := [0, 1, 4, 10], os := [1] } [True] gamOK hT h (by kernel_rfl) ⟨trivial, trivial⟩ fun a w h => then_normal ?_
 refine at_test (!(inR x1 0 40)) h (by kernel_rfl) (fun h1 => ?_) (fun h1 => ?_)
 ·replace h1 : (inR x1 0 40) = false := notT h1
  have hvh1 := inR_f h1
  refine wp_seq ?_
  refine at_regq [{ ids := [2] }] { ts := [0, 1, 4], os := [1, 2] } [True] gamOK hT h (by kernel_rfl) ⟨trivial, trivial⟩ fun a w h => then_normal (wp_ret (then_ret ?_))
  exact at_return ((newBas 0), ()) [] h (by kernel_rfl) trivial (congrArg (fun z => (z, ())) (show ((newBas 0)) = spanB x0 x1 from by first | (unfold spanB; rw [if_pos (by assumption), show List.length x0 = i by omega]; done) | (unfold spanB; rw [if_neg (by simp_all)]; rfl)))
 ·replace h1 : (inR x1 0 40) = true := notF h1
  have hvh1 := inR_t h1
  refine wp_skip (then_normal (wp_seq ?_))
  refine at_regq [{}, { ids := [3] }, { ids := [4] }] { ts := [0, 1, 4, 5], os := [1, 3, 4] } [True] gamOK hT h (by kernel_rfl) ⟨trivial, trivial⟩ fun a w h => then_normal (wp_seq (wp_seq ?_))
  refine at_regq [] { ts := [1, 4, 5, 14, 15, 16], os := [1, 3, 4] } [] gamOK hT h (by kernel_rfl) trivial fun a w h => then_normal (wp_block ?_)
  replace h := at_out (σ' := ⟨[(1, aI x1), (4, aP 1 0), (5, aP 4 0), (14, aF s22 x0), (15, aI ((List.length x0 : Nat) : Int)), (16, aI 0)], [(1, oX 101 [cI 0, cN]), (3, oR s22 (newBas x1).2), (4, oX 101 [cI (newBas x1).1, .sl 3])]⟩) { ts := [1, 4, 5, 14, 15, 16], os := [1, 3, 4] } h (by kernel_rfl)
  refine at_loop (fun i : Nat => (⟨[(1, aI x1), (4, aP 1 0), (5, aP 4 0), (14, aF s22 x0), (15, aI ((List.length x0 : Nat) : Int)), (16, aI ((i : Nat) : Int))], [(1, oX 101 [cI 0, cN]), (3, oR s22 (foldTo (spS x1) [] x0 i)), (4, oX 101 [cI x1, .sl 3])]⟩ : St)) (fun i => i ≤ List.length x0) (fun i => List.length x0 - i) (0) h (st_congr3 (fun (d0 : Int) (d1 : List (List Int)) (d2 : Int) => (⟨[(1, aI x1), (4, aP 1 0), (5, aP 4 0), (14, aF s22 x0), (15, aI ((List.length x0 : Nat) : Int)), (16, aI d2)], [(1, oX 101 [cI 0, cN]), (3, oR s22 d1), (4, oX 101 [cI d0, .sl 3])]⟩ : St)) (show ((newBas x1).1 : Int) = x1 from by first | with_reducible rfl | (first | rfl | (rw [newBas_at (by omega)]; done) | (rw [newBas_at (by omega)]; rfl)) | rfl) (show ((newBas x1).2 : List (List Int)) = (foldTo (spS x1) [] x0 (0)) from by first | with_reducible rfl | (first | rfl | (rw [newBas_at (by omega)]; done) | (rw [newBas_at (by omega)]; rfl)) | rfl) (show (0 : Int) = (((0) : Nat) : Int) from by first | with_reducible rfl | (first | rfl | (rw [newBas_at (by omega)]; done) | (rw [newBas_at (by omega)]; rfl)) | rfl)) (by omega) ?_
  intro i a w hok0 h
  refine wp_seq ?_
  refine at_regq [] { ts := [1, 4, 5, 14, 15, 16, 17], os := [1, 3, 4] } [] gamOK hT h (by kernel_rfl) trivial fun a w h => then_normal (wp_seq ?_)
  refine at_test (decide (((i : Nat) : Int) < ((List.length x0 : Nat) : Int))) h (by kernel_rfl) (fun h2 => ?_) (fun h2 => ?_)
  ·replace h2 : ((i : Nat) : Int) < ((List.length x0 : Nat) : Int) := of_decide_eq_true h2
   refine wp_skip (then_normal (wp_seq (wp_block (wp_seq ?_))))
   refine at_regq [] { ts := [1, 4, 5, 7, 14, 15, 16], os := [1, 3, 4] } [(0 : Int) ≤ ((i : Nat) : Int) ∧ ((i : Nat) : Int) < ((List.length x0 : Nat) : Int)] gamOK hT h (by kernel_rfl) ⟨(by refine ⟨?_, ?_⟩ <;> (first | omega | (simp only [lsA]; omega) | (simp <;> omega))), trivial⟩ fun a w h => then_normal (wp_seq ?_)
   rcases Bool.eq_false_or_eq_true ((validV (x0.getD i []))) with h3 | h3
   ·have hvh3 := validV_t h3
    refine at_regq [{}, { hint := some (aB true) }] { ts := [1, 4, 5, 7, 14, 15, 16, 23, 24, 25, 26, 27], os := [1, 3, 4] } [Q_impl_IsValidVector (x0.getD i []), (AV.p (.c (.v (.bool ((validV (x0.getD i [])))))) = AV.p (.c (.v (.bool true))))] gamOK hT h (by kernel_rfl) ⟨(by exact (Sh.fit_getD hf0 i)), hint_bool (h3), trivial⟩ fun a w h => then_normal ?_
    refine at_test (decide (((List.length (x0.getD i []) : Nat) : Int) = x1)) h (by kernel_rfl) (fun h4 => ?_) (fun h4 => ?_)
    ·replace h4 : ((List.length (x0.getD i []) : Nat) : Int) = x1 := of_decide_eq_true h4
     refine at_regq [{}, { ids := [5] }] { ts := [1, 4, 5, 14, 15, 16, 23, 24, 25, 26], os := [1, 4, 5] } [Q__P_impl_Basis_insert (x1, (foldTo (spS x1) [] x0 i)) (x0.getD i [])] gamOK hT h (by kernel_rfl) ⟨(by (have hbP : basP (x1, (foldTo (spS x1) [] x0 i)) := ⟨by omega, span_red i (by omega)⟩; have hvv := validV_t (v := x0.getD i []) (by assumption); have hvr : LA.VokB x1.toNat (x0.getD i []) := ⟨by omega, hvv.2.1⟩; exact ⟨basP_fit hbP, fitV hvr (by omega), hbP, hvr⟩)), trivial⟩ fun a w h => in_normal (then_normal ?_)
     refine at_regq [{ nw := true }] { ts := [1, 4, 5, 14, 15, 16, 23, 24, 25, 26], os := [1, 4, 5] } [I64 (((i : Nat) : Int) + 1)] gamOK hT h (by kernel_rfl) ⟨⟨by first | omega | (simp only [lsA]; omega) | (simp <;> omega), by first | omega | (simp only [lsA]; omega) | (simp <;> omega)⟩, trivial⟩ fun a w h => ?_
     replace h := at_out (σ' := ⟨[(1, aI x1), (4, aP 1 0), (5, aP 4 0), (14, aF s22 x0), (15, aI ((List.length x0 : Nat) : Int)), (16, aI (((i : Nat) : Int) + 1))], [(1, oX 101 [cI 0, cN]), (3, oR s22 (insU (x1, (foldTo (spS x1) [] x0 i)) (x0.getD i [])).2), (4, oX 101 [cI (insU (x1, (foldTo (spS x1) [] x0 i)) (x0.getD i [])).1, .sl 3])]⟩) { ts := [1, 4, 5, 14, 15, 16], os := [1, 5, 4], rn := [(5, 3)] } h (by kernel_rfl)
     exact ⟨i + 1, at_eq h (st_congr3 (fun (d0 : Int) (d1 : List (List Int)) (d2 : Int) => (⟨[(1, aI x1), (4, aP 1 0), (5, aP 4 0), (14, aF s22 x0), (15, aI ((List.length x0 : Nat) : Int)), (16, aI d2)], [(1, oX 101 [cI 0, cN]), (3, oR s22 d1), (4, oX 101 [cI d0, .sl 3])]⟩ : St)) (show ((insU (x1, (foldTo (spS x1) [] x0 i)) (x0.getD i [])).1 : Int) = x1 from by first | with_reducible rfl | (rfl) | rfl) (show ((insU (x1, (foldTo (spS x1) [] x0 i)) (x0.getD i [])).2 : List (List Int)) = (foldTo (spS x1) [] x0 (i + 1)) from by first | with_reducible rfl | (first | (rw [foldTo_succ [] (by omega), ← spS_y (by assumption) (by omega)]; done) | (rw [foldTo_succ [] (by omega), ← spS_n (by first | (left; assumption) | (right; omega))]; done)) | rfl) (show (((i : Nat) : Int) + 1 : Int) = (((i + 1) : Nat) : Int) from by first | with_reducible rfl | (omega) | rfl)), (by omega), (by omega)⟩
    ·replace h4 : ¬ (((List.length (x0.getD i []) : Nat) : Int) = x1) := of_decide_eq_false h4
     refine wp_skip (in_normal (then_normal ?_))
     refine at_regq [{ nw := true }] { ts := [1, 4, 5, 14, 15, 16, 23, 24, 25, 26], os := [1, 3, 4] } [I64 (((i : Nat) : Int) + 1)] gamOK hT h (by kernel_rfl) ⟨⟨by first | omega | (simp only [lsA]; omega) | (simp <;> omega), by first | omega | (simp only [lsA]; omega) | (simp <;> omega)⟩, trivial⟩ fun a w h => ?_
     replace h := at_out (σ' := ⟨[(1, aI x1), (4, aP 1 0), (5, aP 4 0), (14, aF s22 x0), (15, aI ((List.length x0 : Nat) : Int)), (16, aI (((i : Nat) : Int) + 1))], [(1, oX 101 [cI 0, cN]), (3, oR s22 (foldTo (spS x1) [] x0 i)), (4, oX 101 [cI x1, .sl 3])]⟩) { ts := [1, 4, 5, 14, 15, 16], os := [1, 3, 4] } h (by kernel_rfl)
     exact ⟨i + 1, at_eq h (st_congr3 (fun (d0 : Int) (d1 : List (List Int)) (d2 : Int) => (⟨[(1, aI x1), (4, aP 1 0), (5, aP 4 0), (14, aF s22 x0), (15, aI ((List.length x0 : Nat) : Int)), (16, aI d2)], [(1, oX 101 [cI 0, cN]), (3, oR s22 d1), (4, oX 101 [cI d0, .sl 3])]⟩ : St)) (show (x1 : Int) = x1 from by first | with_reducible rfl | (rfl) | rfl) (show ((foldTo (spS x1) [] x0 i) : List (List Int)) = (foldTo (spS x1) [] x0 (i + 1)) from by first | with_reducible rfl | (first | (rw [foldTo_succ [] (by omega), ← spS_y (by assumption) (by omega)]; done) | (rw [foldTo_succ [] (by omega), ← spS_n (by first | (left; assumption) | (right; omega))]; done)) | rfl) (show (((i : Nat) : Int) + 1 : Int) = (((i + 1) : Nat) : Int) from by first | with_reducible rfl | (omega) | rfl)), (by omega), (by omega)⟩
   ·refine at_regq [{}, { hint := some (aB false) }] { ts := [1, 4, 5, 7, 14, 15, 16, 23, 24, 25, 26, 27], os := [1, 3, 4] } [Q_impl_IsValidVector (x0.getD i []), (AV.p (.c (.v (.bool ((validV (x0.getD i [])))))) = AV.p (.c (.v (.bool false))))] gamOK hT h (by kernel_rfl) ⟨(by exact (Sh.fit_getD hf0 i)), hint_bool (h3), trivial⟩ fun a w h => then_normal ?_
    refine at_test false h (by kernel_rfl) (fun hh => nomatch hh) (fun hh => ?_)
    refine wp_skip (in_normal (then_normal ?_))
    refine at_regq [{ nw := true }] { ts := [1, 4, 5, 14, 15, 16, 23, 24, 25, 26], os := [1, 3, 4] } [I64 (((i : Nat) : Int) + 1)] gamOK hT h (by kernel_rfl) ⟨⟨by first | omega | (simp only [lsA]; omega) | (simp <;> omega), by first | omega | (simp only [lsA]; omega) | (simp <;> omega)⟩, trivial⟩ fun a w h => ?_
    replace h := at_out (σ' := ⟨[(1, aI x1), (4, aP 1 0), (5, aP 4 0), (14, aF s22 x0), (15, aI ((List.length x0 : Nat) : Int)), (16, aI (((i : Nat) : Int) + 1))], [(1, oX 101 [cI 0, cN]), (3, oR s22 (foldTo (spS x1) [] x0 i)), (4, oX 101 [cI x1, .sl 3])]⟩) { ts := [1, 4, 5, 14, 15, 16], os := [1, 3, 4] } h (by kernel_rfl)
    exact ⟨i + 1, at_eq h (st_congr3 (fun (d0 : Int) (d1 : List (List Int)) (d2 : Int) => (⟨[(1, aI x1), (4, aP 1 0), (5, aP 4 0), (14, aF s22 x0), (15, aI ((List.length x0 : Nat) : Int)), (16, aI d2)], [(1, oX 101 [cI 0, cN]), (3, oR s22 d1), (4, oX 101 [cI d0, .sl 3])]⟩ : St)) (show (x1 : Int) = x1 from by first | with_reducible rfl | (rfl) | rfl) (show ((foldTo (spS x1) [] x0 i) : List (List Int)) = (foldTo (spS x1) [] x0 (i + 1)) from by first | with_reducible rfl | (first | (rw [foldTo_succ [] (by omega), ← spS_y (by assumption) (by omega)]; done) | (rw [foldTo_succ [] (by omega), ← spS_n (by first | (left; assumption) | (right; omega))]; done)) | rfl) (show (((i : Nat) : Int) + 1 : Int) = (((i + 1) : Nat) : Int) from by first | with_reducible rfl | (omega) | rfl)), (by omega), (by omega)⟩
  ·replace h2 : ¬ (((i : Nat) : Int) < ((List.length x0 : Nat) : Int)) := of_decide_eq_false h2
   refine wp_exit (then_exit (then_exit (in_hit (then_normal (wp_seq ?_)))))
   refine at_regq [] { ts := [4], os := [1, 3] } [] gamOK hT h (by kernel_rfl) trivial fun a w h => then_normal (wp_ret ?_)
   exact at_return ((x1, (foldTo (spS x1) [] x0 i)), ()) [] h (by kernel_rfl) trivial (congrArg (fun z => (z, ())) (show ((x1, (foldTo (spS x1) [] x0 i))) = spanB x0 x1 from by first | (unfold spanB; rw [if_pos (by assumption), show List.length x0 = i by omega]; done) | (unfold spanB; rw [if_neg (by simp_all)]; rfl)))

abbrev Q_spec_SpanOf := (fun (x0 : (List (List Int))) (x1 : Int) => Sh.fit s97 x0)
def S_spec_SpanOf : Sum := { fid := 211, dom := [s97, (.int 3)], cod := [s101], dp := false, fz := false, pre := fun x => Q_spec_SpanOf x.1 x.2.1, g := fun x => ((spanB x.1 x.2.1), ()) }
def S_spec_SpanOf_tab : List (Nat × Sum) := [(129, S_spec_NewBasis), (103, S_spec_l1In), (145, S_spec_InsertVector)]
theorem S_spec_SpanOf_ok : FnOK Try.prog 211 S_spec_SpanOf := by
 refine at_enter 32 (fun x => ⟨[(0, aF s22 x.1), (1, aI x.2.1)], []⟩) Try.func211 rfl (by kernel_rfl) (fun x => rfl) ?_
 rintro w0 Z0 ⟨x0, x1, u⟩ a w
 revert x0 x1
 intro (x0 : (List (List Int))) (x1 : Int) hpre hlens h
 replace hpre : Q_spec_SpanOf x0 x1 := hpre
 have hT : TabOK Try.prog S_spec_SpanOf_tab := (.cons S_spec_NewBasis_ok (.cons S_spec_l1In_ok (.cons S_spec_InsertVector_ok .nil)))
 have hf0 : Sh.fit s97 x0 := hpre
 have hn0_1 : List.length x0 ≤ 1073741824 := hf0.1
 refine wp_seq ?_
 refine at_regq [{ ids := [1] }] { ts := [0, 1, 4], os := [1] } [] gamOK hT h (by kernel_rfl) trivial fun a w h => then_normal (wp_seq ?_)
 refine at_regq [{}, { ids := [2] }, { ids := [3] }] { ts := [0, 1, 4, 5], os := [1, 2, 3] } [True] gamOK hT h (by kernel_rfl) ⟨trivial, trivial⟩ fun a w h => then_normal (wp_seq (wp_seq ?_))
 refine at_regq [] { ts := [0, 1, 4, 5, 6], os := [1, 2, 3] } [] gamOK hT h (by kernel_rfl) trivial fun a w h => then_normal (wp_block ?_)
 replace h := at_out (σ' := ⟨[(0, aF s22 x0), (1, aI x1), (4, aP 1 0), (5, aP 3 0), (6, aI 0)], [(1, oX 101 [cI 0, cN]), (2, oF s22 (newBas x1).2), (3, oX 101 [cI (newBas x1).1, .sl 2])]⟩) { ts := [0, 1, 4, 5, 6], os := [1, 2, 3] } h (by kernel_rfl)
 refine at_loop (fun i : Nat => (⟨[(0, aF s22 x0), (1, aI x1), (4, aP 1 0), (5, aP 3 0), (6, aI ((i : Nat) : Int))], [(1, oX 101 [cI 0, cN]), (2, oF s22 (spTo x1 x0 i).2), (3, oX 101 [cI (spTo x1 x0 i).1, .sl 2])]⟩ : St)) (fun i => (i ≤ List.length x0 ∧ (i = 0 ∨ inR x1 0 40 = true))) (fun i => List.length x0 - i) (0) h (st_congr3 (fun (d0 : Int) (d1 : List (List Int)) (d2 : Int) => (⟨[(0, aF s22 x0), (1, aI x1), (4, aP 1 0), (5, aP 3 0), (6, aI d2)], [(1, oX 101 [cI 0, cN]), (2, oF s22 d1), (3, oX 101 [cI d0, .sl 2])]⟩ : St)) (show ((newBas x1).1 : Int) = (spTo x1 x0 (0)).1 from by first | with_reducible rfl | (rfl) | rfl) (show ((newBas x1).2 : List (List Int)) = (spTo x1 x0 (0)).2 from by first | with_reducible rfl | (rfl) | rfl) (show (0 : Int) = (((0) : Nat) : Int) from by first | with_reducible rfl | (rfl) | rfl)) (by exact ⟨Nat.zero_le _, Or.inl rfl⟩) ?_
 intro i a w hok0 h
 refine wp_seq (wp_seq ?_)
 by_cases h1 : ((i : Nat) : Int) < ((List.length x0 : Nat) : Int)
 ·refine at_regq [{}, {}, {}, { hint := some (aB true) }] { ts := [0, 1, 4, 5, 6, 16, 17, 18], os := [1, 2, 3] } [(AV.p (.c (.v (.bool (decide (((i : Nat) : Int) < ((List.length x0 : Nat) : Int)))))) = AV.p (.c (.v (.bool true)))), True] gamOK hT h (by kernel_rfl) ⟨hint_bool (decide_eq_true h1), trivial, trivial⟩ fun a w h => then_normal ?_
  refine at_test ((inR x1 0 40)) h (by kernel_rfl) (fun h2 => ?_) (fun h2 => ?_)
  ·have hvh2 := inR_t h2
   refine wp_skip (then_normal (wp_seq (wp_block (wp_seq ?_))))
   replace h := at_out (σ' := ⟨[(0, aF s22 x0), (1, aI x1), (4, aP 1 0), (5, aP 3 0), (6, aI ((i : Nat) : Int)), (16, aI x1), (17, aB (inR x1 0 40))], [(1, oX 101 [cI 0, cN]), (3, oX 101 [cI (spTo x1 x0 i).1, .ro s22 (spTo x1 x0 i).2])]⟩) { fz := [2], ts := [0, 1, 4, 5, 6, 16, 17], os := [1, 3] } h (by kernel_rfl)
   refine at_anyq [{}, {}, {}, {}, {}, { ids := [4] }, {}, {}, {}, { ids := [5] }, {}, {}] { ts := [0, 1, 4, 5, 6, 7, 16, 17], os := [1, 3, 4, 5] } [(0 : Int) ≤ ((i : Nat) : Int) ∧ ((i : Nat) : Int) < ((List.length x0 : Nat) : Int), Q_spec_InsertVector (spTo x1 x0 i) (x0.getD i [])] gamOK hT mixed h (by kernel_rfl) ⟨(by refine ⟨?_, ?_⟩ <;> (first | omega | (simp only [lsA]; omega) | (simp <;> omega))), (by exact ⟨basP_fit (spTo_P hok0.1), Sh.fit_getD hf0 i⟩), trivial⟩ fun a w h => then_normal ?_
   refine at_regq [] { ts := [0, 1, 4, 5, 6, 16, 17], os := [1, 3, 4] } [] gamOK hT h (by kernel_rfl) trivial fun a w h => in_normal (then_normal ?_)
   refine at_regq [{}, { nw := true }] { ts := [0, 1, 4, 5, 6, 16, 17], os := [1, 3, 4] } [I64 (((i : Nat) : Int) + 1)] gamOK hT h (by kernel_rfl) ⟨⟨by first | omega | (simp only [lsA]; omega) | (simp <;> omega), by first | omega | (simp only [lsA]; omega) | (simp <;> omega)⟩, trivial⟩ fun a w h => ?_
   replace h := at_out (σ' := ⟨[(0, aF s22 x0), (1, aI x1), (4, aP 1 0), (5, aP 3 0), (6, aI (((i : Nat) : Int) + 1))], [(1, oX 101 [cI 0, cN]), (2, oF s22 (insV (spTo x1 x0 i) (x0.getD i [])).1.2), (3, oX 101 [cI (insV (spTo x1 x0 i) (x0.getD i [])).1.1, .sl 2])]⟩) { ts := [0, 1, 4, 5, 6], os := [1, 4, 3], rn := [(4, 2)] } h (by kernel_rfl)
   exact ⟨i + 1, at_eq h (st_congr3 (fun (d0 : Int) (d1 : List (List Int)) (d2 : Int) => (⟨[(0, aF s22 x0), (1, aI x1), (4, aP 1 0), (5, aP 3 0), (6, aI d2)], [(1, oX 101 [cI 0, cN]), (2, oF s22 d1), (3, oX 101 [cI d0, .sl 2])]⟩ : St)) (show ((insV (spTo x1 x0 i) (x0.getD i [])).1.1 : Int) = (spTo x1 x0 (i + 1)).1 from by first | with_reducible rfl | (rw [sp_next (by assumption) (by omega)]) | rfl) (show ((insV (spTo x1 x0 i) (x0.getD i [])).1.2 : List (List Int)) = (spTo x1 x0 (i + 1)).2 from by first | with_reducible rfl | (rw [sp_next (by assumption) (by omega)]) | rfl) (show (((i : Nat) : Int) + 1 : Int) = (((i + 1) : Nat) : Int) from by first | with_reducible rfl | (omega) | rfl)), (by exact ⟨by omega, Or.inr (by assumption)⟩), (by omega)⟩
  ·have hvh2 := inR_f h2
   refine wp_exit (then_exit (then_exit (in_hit (then_normal (wp_seq ?_)))))
   refine at_regq [] { ts := [4], os := [1, 2] } [] gamOK hT h (by kernel_rfl) trivial fun a w h => then_normal (wp_ret ?_)
   exact at_return ((spTo x1 x0 i), ()) [] h (by kernel_rfl) trivial (congrArg (fun z => (z, ())) (show ((spTo x1 x0 i)) = spanB x0 x1 from by exact spTo_end hok0.1 (by first | (left; omega) | (right; assumption))))
 ·refine at_regq [{}, {}, {}, { hint := some (aB false) }] { ts := [0, 1, 4, 5, 6, 16, 17, 18], os := [1, 2, 3] } [(AV.p (.c (.v (.bool (decide (((i : Nat) : Int) < ((List.length x0 : Nat) : Int)))))) = AV.p (.c (.v (.bool false))))] gamOK hT h (by kernel_rfl) ⟨hint_bool (decide_eq_false h1), trivial⟩ fun a w h => then_normal ?_
  refine at_test false h (by kernel_rfl) (fun hh => nomatch hh) (fun hh => ?_)
  refine wp_exit (then_exit (then_exit (in_hit (then_normal (wp_seq ?_)))))
  refine at_regq [] { ts := [4], os := [1, 2] } [] gamOK hT h (by kernel_rfl) trivial fun a w h => then_normal (wp_ret ?_)
  exact at_return ((spTo x1 x0 i), ()) [] h (by kernel_rfl) trivial (congrArg (fun z => (z, ())) (show ((spTo x1 x0 i)) = spanB x0 x1 from by exact spTo_end hok0.1 (by first | (left; omega) | (right; assumption))))

abbrev Q_impl_OrthogonalSpace := (fun (x0 : T101) => Sh.fit s101 x0)
def S_impl_OrthogonalSpace : Sum := { fid := 135, dom := [s101], cod := [s101], dp := true, fz := false, pre := fun x => Q_impl_OrthogonalSpace x.1, g := fun x => ((orthB x.1), ()) }
def S_impl_OrthogonalSpace_tab : List (Nat × Sum) := [(215, S_impl_IsValidBasis), (134, S_impl_NewBasis), (217, S_impl_nullSpace), (216, S_impl_SpanOf)]
theorem S_impl_OrthogonalSpace_ok : FnOK Try.prog 135 S_impl_OrthogonalSpace := by
 refine at_enter 15 (fun x => ⟨[(0, aG [cI x.1.1, .ro s22 x.1.2])], []⟩) Try.func135 rfl (by kernel_rfl) (fun x => rfl) ?_
 rintro w0 Z0 ⟨x0, u⟩ a w
 revert x0
 intro (x0 : T101) hpre hlens h
 replace hpre : Q_impl_OrthogonalSpace x0 := hpre
 have hT : TabOK Try.prog S_impl_OrthogonalSpace_tab := (.cons S_impl_IsValidBasis_ok (.cons S_impl_NewBasis_ok (.cons S_impl_nullSpace_ok (.cons S_impl_SpanOf_ok .nil))))
 have hf0 : Sh.fit s101 x0 := hpre
 have hn0_1 : List.length x0.2 ≤ 1073741824 := hf0.2.1
 refine wp_seq ?_
 refine at_regq [{ ids := [1] }, { ids := [2] }] { ts := [1, 2], os := [1, 2] } [] gamOK hT h (by kernel_rfl) trivial fun a w h => then_normal (wp_seq (wp_seq ?_))
 refine at_regq [] { ts := [1, 2, 5], os := [1, 2] } [Q_impl_IsValidBasis x0] gamOK hT h (by kernel_rfl) ⟨(by exact hf0), trivial⟩ fun a w h => then_normal ?_
 refine at_test (!(validB x0)) h (by kernel_rfl) (fun h1 => ?_) (fun h1 => ?_)
 ·replace h1 : (validB x0) = false := notT h1
  refine wp_seq ?_
  refine at_regq [{ ids := [3] }] { ts := [1, 2], os := [1, 2, 3] } [True] gamOK hT h (by kernel_rfl) ⟨trivial, trivial⟩ fun a w h => then_normal (wp_ret (then_ret ?_))
  exact at_return ((newBas 0), ()) [] h (by kernel_rfl) trivial (congrArg (fun z => (z, ())) (show ((newBas 0)) = orthB x0 from by first | (unfold orthB; rw [if_pos (by assumption)]; done) | (unfold orthB; rw [if_pos (by assumption)]; rfl) | (unfold orthB; rw [if_neg (by simp_all)]; rfl)))
 ·replace h1 : (validB x0) = true := notF h1
  have hvh1 := validB_t h1
  refine wp_skip (then_normal (wp_seq ?_))
  refine at_anyq [{}, {}, {}, {}, { ids := [4] }, {}, {}, { ids := [5] }, {}] { ts := [2], os := [2, 5] } [Q_impl_nullSpace x0.2 x0.1, Q_impl_SpanOf (D_impl_nullSpace x0.2 x0.1) x0.1] gamOK hT mixed h (by kernel_rfl) ⟨(by (have hv := validB_t (b := x0) (by assumption); exact ⟨hf0.2, hv.2, hv.1⟩)), (by exact nulS_fit (validB_t (b := x0) (by assumption)).1), trivial⟩ fun a w h => then_normal (wp_ret ?_)
  exact at_return ((spanB (D_impl_nullSpace x0.2 x0.1) x0.1), ()) [] h (by kernel_rfl) trivial (congrArg (fun z => (z, ())) (show ((spanB (D_impl_nullSpace x0.2 x0.1) x0.1)) = orthB x0 from by first | (unfold orthB; rw [if_pos (by assumption)]; done) | (unfold orthB; rw [if_pos (by assumption)]; rfl) | (unfold orthB; rw [if_neg (by simp_all)]; rfl)))

def D_spec_Identity := (fun (n : Int) => if n ≤ 40 then idM n n.toNat else [])
def S_spec_Identity : Sum := { fid := 212, dom := [(.int 3)], cod := [s97], dp := true, fz := false, pre := fun x => True, g := fun x => ((D_spec_Identity x.1), ()) }
def S_spec_Identity_tab : List (Nat × Sum) := [(279, S_spec_UnitVector)]
theorem S_spec_Identity_ok : FnOK Try.prog 212 S_spec_Identity := by
 refine at_enter 22 (fun x => ⟨[(0, aI x.1)], []⟩) Try.func212 rfl (by kernel_rfl) (fun x => rfl) ?_
 rintro w0 Z0 ⟨x0, u⟩ a w
 revert x0
 intro (x0 : Int) hpre hlens h
 have hT : TabOK Try.prog S_spec_Identity_tab := (.cons S_spec_UnitVector_ok .nil)
 refine wp_seq ?_
 refine at_regq [] { ts := [0, 2], os := [] } [] gamOK hT h (by kernel_rfl) trivial fun a w h => then_normal (wp_seq ?_)
 refine at_regq [{ ids := [1] }] { ts := [0, 2, 3], os := [1] } [] gamOK hT h (by kernel_rfl) trivial fun a w h => then_normal (wp_seq (wp_seq ?_))
 refine at_regq [] { ts := [0, 2, 3, 4], os := [1] } [] gamOK hT h (by kernel_rfl) trivial fun a w h => then_normal (wp_block ?_)
 replace h := at_out (σ' := ⟨[(0, aI x0), (2, .p (.c (cN))), (3, aS 1), (4, aI 0)], [(1, oR s22 ([] : List (List Int)))]⟩) { ts := [0, 2, 3, 4], os := [1] } h (by kernel_rfl)
 refine at_loop (fun i : Nat => (⟨[(0, aI x0), (2, .p (.c (cN))), (3, aS 1), (4, aI ((i : Nat) : Int))], [(1, oR s22 (idM x0 i))]⟩ : St)) (fun i => (i = 0 ∨ ((i : Int) ≤ x0 ∧ x0 ≤ 40))) (fun i => x0.toNat - i) (0) h (st_congr2 (fun (d0 : List (List Int)) (d1 : Int) => (⟨[(0, aI x0), (2, .p (.c (cN))), (3, aS 1), (4, aI d1)], [(1, oR s22 d0)]⟩ : St)) (show (([] : List (List Int)) : List (List Int)) = (idM x0 (0)) from by first | with_reducible rfl | (rfl) | rfl) (show (0 : Int) = (((0) : Nat) : Int) from by first | with_reducible rfl | (rfl) | rfl)) (by exact Or.inl rfl) ?_
 intro i a w hok0 h
 have hil := idM_len x0 i
 have hi40 : i ≤ 40 := by omega
 refine wp_seq (wp_seq ?_)
 by_cases h1 : ((i : Nat) : Int) < x0
 ·refine at_regq [{}, {}, { hint := some (aB true) }] { ts := [0, 2, 3, 4, 10, 11, 12], os := [1] } [(AV.p (.c (.v (.bool (decide (((i : Nat) : Int) < x0))))) = AV.p (.c (.v (.bool true))))] gamOK hT h (by kernel_rfl) ⟨hint_bool (decide_eq_true h1), trivial⟩ fun a w h => then_normal ?_
  refine at_test (decide (x0 ≤ 40)) h (by kernel_rfl) (fun h2 => ?_) (fun h2 => ?_)
  ·replace h2 : x0 ≤ 40 := of_decide_eq_true h2
   refine wp_skip (then_normal (wp_seq (wp_block ?_)))
   refine at_regq [{}, {}, {}, { ids := [2] }, { ids := [3] }, { ids := [4] }] { ts := [0, 2, 3, 4, 10, 11], os := [4] } [True, (List.length (idM x0 i) + List.length ([(unitV x0 ((i : Nat) : Int))])) * 24 ≤ 140737488355328] gamOK hT h (by kernel_rfl) ⟨trivial, (by first | omega | (simp only [lsA]; omega) | (simp <;> omega)), trivial⟩ fun a w h => in_normal (then_normal ?_)
   refine at_regq [{}, { nw := true }] { ts := [0, 2, 3, 4, 10, 11], os := [4] } [I64 (((i : Nat) : Int) + 1)] gamOK hT h (by kernel_rfl) ⟨⟨by first | omega | (simp only [lsA]; omega) | (simp <;> omega), by first | omega | (simp only [lsA]; omega) | (simp <;> omega)⟩, trivial⟩ fun a w h => ?_
   replace h := at_out (σ' := ⟨[(0, aI x0), (2, .p (.c (cN))), (3, aS 1), (4, aI (((i : Nat) : Int) + 1))], [(1, oR s22 ((idM x0 i) ++ ([(unitV x0 ((i : Nat) : Int))])))]⟩) { ts := [0, 2, 3, 4], os := [4], rn := [(4, 1)] } h (by kernel_rfl)
   exact ⟨i + 1, at_eq h (st_congr2 (fun (d0 : List (List Int)) (d1 : Int) => (⟨[(0, aI x0), (2, .p (.c (cN))), (3, aS 1), (4, aI d1)], [(1, oR s22 d0)]⟩ : St)) (show (((idM x0 i) ++ ([(unitV x0 ((i : Nat) : Int))])) : List (List Int)) = (idM x0 (i + 1)) from by first | with_reducible rfl | ((rw [idM_snoc, unitV_y (inR_true (by omega)) (inR_true (by omega))]; done)) | rfl) (show (((i : Nat) : Int) + 1 : Int) = (((i + 1) : Nat) : Int) from by first | with_reducible rfl | (omega) | rfl)), (by exact Or.inr ⟨by omega, by omega⟩), (by omega)⟩
  ·replace h2 : ¬ (x0 ≤ 40) := of_decide_eq_false h2
   refine wp_exit (then_exit (then_exit (in_hit (then_normal (wp_seq ?_)))))
   refine at_regq [] { ts := [2], os := [1] } [] gamOK hT h (by kernel_rfl) trivial fun a w h => then_normal (wp_ret ?_)
   exact at_return ((idM x0 i), ()) [] h (by kernel_rfl) trivial (congrArg (fun z => (z, ())) (show ((idM x0 i)) = D_spec_Identity x0 from by unfold D_spec_Identity; exact idM_end hok0 (by first | (left; omega) | (right; omega))))
 ·refine at_regq [{}, {}, { hint := some (aB false) }] { ts := [0, 2, 3, 4, 10, 11, 12], os := [1] } [(AV.p (.c (.v (.bool (decide (((i : Nat) : Int) < x0))))) = AV.p (.c (.v (.bool false))))] gamOK hT h (by kernel_rfl) ⟨hint_bool (decide_eq_false h1), trivial⟩ fun a w h => then_normal ?_
  refine at_test false h (by kernel_rfl) (fun hh => nomatch hh) (fun hh => ?_)
  refine wp_exit (then_exit (then_exit (in_hit (then_normal (wp_seq ?_)))))
  refine at_regq [] { ts := [2], os := [1] } [] gamOK hT h (by kernel_rfl) trivial fun a w h => then_normal (wp_ret ?_)
  exact at_return ((idM x0 i), ()) [] h (by kernel_rfl) trivial (congrArg (fun z => (z, ())) (show ((idM x0 i)) = D_spec_Identity x0 from by unfold D_spec_Identity; exact idM_end hok0 (by first | (left; omega) | (right; omega))))

def D_spec_NullSpace := (fun (R : List (List Int)) => nulS R (List.length (R.getD 0 [])))
abbrev Q_spec_NullSpace := (fun (x0 : (List (List Int))) => Sh.fit s97 x0 ∧ (LA.RedL (List.length (x0.getD 0 [])) x0 ∧ (0 < List.length x0 ∧ (List.length (x0.getD 0 [])) ≤ 40)))
def S_spec_NullSpace : Sum := { fid := 213, dom := [s97], cod := [s97], dp := false, fz := false, pre := fun x => Q_spec_NullSpace x.1, g := fun x => ((D_spec_NullSpace x.1), ()) }
def S_spec_NullSpace_tab : List (Nat × Sum) := [(250, S_spec_IsValidMatrix), (173, S_spec_ColumnsOf), (280, S_spec_RowReduce), (143, S_spec_LeadingIndex), (279, S_spec_UnitVector), (224, S_spec_SubField)]
theorem S_spec_NullSpace_ok : FnOK Try.prog 213 S_spec_NullSpace := by
 refine at_enter 87 (fun x => ⟨[(0, aF s22 x.1)], []⟩) Try.func213 rfl (by kernel_rfl) (fun x => rfl) ?_
 rintro w0 Z0 ⟨x0, u⟩ a w
 revert x0
 intro (x0 : (List (List Int))) hpre hlens h
 replace hpre : Q_spec_NullSpace x0 := hpre
 have hT : TabOK Try.prog S_spec_NullSpace_tab := (.cons S_spec_IsValidMatrix_ok (.cons S_spec_ColumnsOf_ok (.cons S_spec_RowReduce_ok (.cons S_spec_LeadingIndex_ok (.cons S_spec_UnitVector_ok (.cons S_spec_SubField_ok .nil))))))
 obtain ⟨hf0, hpx⟩ := hpre
 have hn0_1 : List.length x0 ≤ 1073741824 := hf0.1
 have hw := hpx.2
 have hvm := redL_valid hpx.1 hw.2
 have hco := colsOf_at (m := x0) hw.1
 have hpl := pvL_len x0 (List.length (x0.getD 0 []))
 refine wp_seq ?_
 refine at_regq [] { ts := [0, 2], os := [] } [] gamOK hT h (by kernel_rfl) trivial fun a w h => then_normal (wp_seq ?_)
 refine at_regq [{ ids := [1], dp := false }] { ts := [0, 2, 3], os := [1] } [] gamOK hT h (by kernel_rfl) trivial fun a w h => then_normal (wp_seq (wp_seq ?_))
 refine at_regq [] { ts := [0, 2, 3, 15], os := [1] } [Q_spec_IsValidMatrix x0] gamOK hT h (by kernel_rfl) ⟨(by exact hf0), trivial⟩ fun a w h => then_normal ?_
 refine at_test (!(validM x0)) h (by kernel_rfl) (fun h1 => ?_) (fun h1 => ?_)
 ·replace h1 : (validM x0) = false := notT h1
  refine wp_seq ?_
  refine at_regq [] { ts := [0, 2, 3], os := [1] } [] gamOK hT h (by kernel_rfl) trivial fun a w h => then_normal (wp_ret (then_ret ?_))
  exact at_return (([] : List (List Int)), ()) [] h (by kernel_rfl) trivial (congrArg (fun z => (z, ())) (show (([] : List (List Int))) = D_spec_NullSpace x0 from by unfold D_spec_NullSpace; first | (exact absurd (hvm.symm.trans (by assumption)) (by decide)) | (show nsTo x0 (List.length (x0.getD 0 [])) k = nsTo x0 (List.length (x0.getD 0 [])) (List.length (x0.getD 0 [])); rw [show (List.length (x0.getD 0 [])) = k by omega])))
 ·replace h1 : (validM x0) = true := notF h1
  have hvh1 := validM_t h1
  refine wp_skip (then_normal (wp_seq ?_))
  refine at_regq [] { ts := [0, 2, 3, 4], os := [1] } [Q_spec_ColumnsOf x0] gamOK hT h (by kernel_rfl) ⟨(by exact hf0), trivial⟩ fun a w h => then_normal (wp_seq ?_)
  refine at_regq [{}, { ids := [2] }] { ts := [2, 3, 4, 5], os := [1, 2] } [Q_spec_RowReduce x0] gamOK hT h (by kernel_rfl) ⟨(by exact hf0), trivial⟩ fun a w h => then_normal (wp_seq ?_)
  refine at_regq [{}, { ids := [3], dp := false }] { ts := [2, 3, 4, 5, 6], os := [1, 2, 3] } [(0 : Int) ≤ (colsOf x0) ∧ (colsOf x0) = (colsOf x0) ∧ (colsOf x0) * (8 : Nat) ≤ (140737488355328 : Int)] gamOK hT h (by kernel_rfl) ⟨(by refine ⟨?_, ?_, ?_⟩ <;> ((have hA0 := mul_f (colsOf x0) (8 : Nat); first | omega | (simp only [lsA]; omega) | (simp <;> omega)))), trivial⟩ fun a w h => then_normal (wp_seq (wp_seq ?_))
  refine at_regq [] { ts := [2, 3, 4, 5, 6, 7], os := [1, 2, 3] } [] gamOK hT h (by kernel_rfl) trivial fun a w h => then_normal (wp_block ?_)
  replace h := at_out (σ' := ⟨[(2, .p (.c (cN))), (3, aS 1), (4, aI (colsOf x0)), (5, aS 2), (6, aS 3), (7, aI 0)], [(1, oF s22 ([] : List (List Int))), (2, oF s22 (rowRed x0)), (3, oF (.int 3) (List.replicate (((colsOf x0)).toNat) (0 : Int)))]⟩) { ts := [2, 3, 4, 5, 6, 7], os := [1, 2, 3] } h (by kernel_rfl)
  refine at_loop (fun i : Nat => (⟨[(2, .p (.c (cN))), (3, aS 1), (4, aI (colsOf x0)), (5, aS 2), (6, aS 3), (7, aI ((i : Nat) : Int))], [(1, oF s22 ([] : List (List Int))), (2, oF s22 (rowRed x0)), (3, oF (.int 3) (negTo (List.length (x0.getD 0 [])) i))]⟩ : St)) (fun i => i ≤ (List.length (x0.getD 0 []))) (fun i => (List.length (x0.getD 0 [])) - i) (0) h (st_congr2 (fun (d0 : List Int) (d1 : Int) => (⟨[(2, .p (.c (cN))), (3, aS 1), (4, aI (colsOf x0)), (5, aS 2), (6, aS 3), (7, aI d1)], [(1, oF s22 ([] : List (List Int))), (2, oF s22 (rowRed x0)), (3, oF (.int 3) d0)]⟩ : St)) (show ((List.replicate (((colsOf x0)).toNat) (0 : Int)) : List Int) = (negTo (List.length (x0.getD 0 [])) (0)) from by first | with_reducible rfl | ((rw [hco]; rfl)) | rfl) (show (0 : Int) = (((0) : Nat) : Int) from by first | with_reducible rfl | ((rw [hco]; rfl)) | rfl)) (by omega) ?_
  intro i a w hok0 h
  have hnt := negTo_len hok0
  refine wp_seq (wp_seq ?_)
  refine at_regq [] { ts := [2, 3, 4, 5, 6, 7, 25], os := [1, 2, 3] } [] gamOK hT h (by kernel_rfl) trivial fun a w h => then_normal ?_
  refine at_test (decide (((i : Nat) : Int) < (colsOf x0))) h (by kernel_rfl) (fun h2 => ?_) (fun h2 => ?_)
  ·replace h2 : ((i : Nat) : Int) < (colsOf x0) := of_decide_eq_true h2
   refine wp_skip (then_normal (wp_seq (wp_block ?_)))
   refine at_regq [] { ts := [2, 3, 4, 5, 6, 7], os := [1, 2, 3] } [(0 : Int) ≤ ((i : Nat) : Int) ∧ ((i : Nat) : Int) < ((List.length (negTo (List.length (x0.getD 0 [])) i) : Nat) : Int), i < List.length (negTo (List.length (x0.getD 0 [])) i)] gamOK hT h (by kernel_rfl) ⟨(by refine ⟨?_, ?_⟩ <;> ((have hL0 := (show List.length (x0.getD 0 []) ≤ 1073741824 from ((Sh.fit_getD hf0 0)).1); first | omega | (simp only [lsA]; omega) | (simp <;> omega)))), (by (have hL0 := (show List.length (x0.getD 0 []) ≤ 1073741824 from ((Sh.fit_getD hf0 0)).1); first | omega | (simp only [lsA]; omega) | (simp <;> omega))), trivial⟩ fun a w h => in_normal (then_normal ?_)
   refine at_regq [{}, { nw := true }] { ts := [2, 3, 4, 5, 6, 7], os := [1, 2, 3] } [I64 (((i : Nat) : Int) + 1)] gamOK hT h (by kernel_rfl) ⟨⟨by first | omega | (simp only [lsA]; omega) | (simp <;> omega), by first | omega | (simp only [lsA]; omega) | (simp <;> omega)⟩, trivial⟩ fun a w h => ?_
   replace h := at_out (σ' := ⟨[(2, .p (.c (cN))), (3, aS 1), (4, aI (colsOf x0)), (5, aS 2), (6, aS 3), (7, aI (((i : Nat) : Int) + 1))], [(1, oF s22 ([] : List (List Int))), (2, oF s22 (rowRed x0)), (3, oF (.int 3) (List.set (negTo (List.length (x0.getD 0 [])) i) i (-1)))]⟩) { ts := [2, 3, 4, 5, 6, 7], os := [1, 2, 3] } h (by kernel_rfl)
   exact ⟨i + 1, at_eq h (st_congr2 (fun (d0 : List Int) (d1 : Int) => (⟨[(2, .p (.c (cN))), (3, aS 1), (4, aI (colsOf x0)), (5, aS 2), (6, aS 3), (7, aI d1)], [(1, oF s22 ([] : List (List Int))), (2, oF s22 (rowRed x0)), (3, oF (.int 3) d0)]⟩ : St)) (show ((List.set (negTo (List.length (x0.getD 0 [])) i) i (-1)) : List Int) = (negTo (List.length (x0.getD 0 [])) (i + 1)) from by first | with_reducible rfl | (exact negTo_set (by omega)) | rfl) (show (((i : Nat) : Int) + 1 : Int) = (((i + 1) : Nat) : Int) from by first | with_reducible rfl | (omega) | rfl)), (by omega), (by omega)⟩
  ·replace h2 : ¬ (((i : Nat) : Int) < (colsOf x0)) := of_decide_eq_false h2
   refine wp_exit (then_exit ?_)
   replace h := at_out (σ' := ⟨[(2, .p (.c (cN))), (3, aS 1), (4, aI (colsOf x0)), (5, aS 2), (6, aS 3)], [(1, oF s22 ([] : List (List Int))), (2, oF s22 (rowRed x0)), (3, oF (.int 3) (negTo (List.length (x0.getD 0 [])) i))]⟩) { ts := [2, 3, 4, 5, 6], os := [1, 2, 3] } h (by kernel_rfl)
   replace h := at_eq (σ' := ⟨[(2, .p (.c (cN))), (3, aS 1), (4, aI (colsOf x0)), (5, aS 2), (6, aS 3)], [(1, oF s22 ([] : List (List Int))), (2, oF s22 x0), (3, oF (.int 3) (pvL x0 (List.length (x0.getD 0 [])) 0))]⟩) h (st_congr2 (fun (d0 : List Int) (d1 : List (List Int)) => (⟨[(2, .p (.c (cN))), (3, aS 1), (4, aI (colsOf x0)), (5, aS 2), (6, aS 3)], [(1, oF s22 ([] : List (List Int))), (2, oF s22 d1), (3, oF (.int 3) d0)]⟩ : St)) (show ((negTo (List.length (x0.getD 0 [])) i) : List Int) = (pvL x0 (List.length (x0.getD 0 [])) 0) from by first | with_reducible rfl | (rw [negTo_all (by omega) hok0]; exact pvL_zero _ _) | rfl) (show ((rowRed x0) : List (List Int)) = x0 from by first | with_reducible rfl | (exact rowRed_id hpx.1 hw.2) | rfl))
   refine then_exit (in_hit (then_normal (wp_seq (wp_seq ?_))))
   refine at_regq [] { ts := [2, 3, 4, 5, 6, 8], os := [1, 2, 3] } [] gamOK hT h (by kernel_rfl) trivial fun a w h => then_normal (wp_block ?_)
   replace h := at_out (σ' := ⟨[(2, .p (.c (cN))), (3, aS 1), (4, aI (colsOf x0)), (5, aS 2), (6, aS 3), (8, aI 0)], [(1, oF s22 ([] : List (List Int))), (2, oF s22 x0), (3, oF (.int 3) (pvL x0 (List.length (x0.getD 0 [])) 0))]⟩) { ts := [2, 3, 4, 5, 6, 8], os := [1, 2, 3] } h (by kernel_rfl)
   refine at_loop (fun i : Nat => (⟨[(2, .p (.c (cN))), (3, aS 1), (4, aI (colsOf x0)), (5, aS 2), (6, aS 3), (8, aI ((i : Nat) : Int))], [(1, oF s22 ([] : List (List Int))), (2, oF s22 x0), (3, oF (.int 3) (pvL x0 (List.length (x0.getD 0 [])) i))]⟩ : St)) (fun i => i ≤ List.length x0) (fun i => List.length x0 - i) (0) h (st_congr2 (fun (d0 : List Int) (d1 : Int) => (⟨[(2, .p (.c (cN))), (3, aS 1), (4, aI (colsOf x0)), (5, aS 2), (6, aS 3), (8, aI d1)], [(1, oF s22 ([] : List (List Int))), (2, oF s22 x0), (3, oF (.int 3) d0)]⟩ : St)) (show ((pvL x0 (List.length (x0.getD 0 [])) 0) : List Int) = (pvL x0 (List.length (x0.getD 0 [])) (0)) from by first | with_reducible rfl | (rfl) | rfl) (show (0 : Int) = (((0) : Nat) : Int) from by first | with_reducible rfl | (rfl) | rfl)) (by omega) ?_
   intro i a w hok1 h
   have hpl2 := pvL_len x0 (List.length (x0.getD 0 [])) i
   refine wp_seq (wp_seq ?_)
   refine at_regq [] { ts := [2, 3, 4, 5, 6, 8, 34], os := [1, 2, 3] } [] gamOK hT h (by kernel_rfl) trivial fun a w h => then_normal ?_
   refine at_test (decide (((i : Nat) : Int) < ((List.length x0 : Nat) : Int))) h (by kernel_rfl) (fun h3 => ?_) (fun h3 => ?_)
   ·replace h3 : ((i : Nat) : Int) < ((List.length x0 : Nat) : Int) := of_decide_eq_true h3
    have hra := hpx.1.at_ (show i < List.length x0 by omega)
    have hral := hra.1.1
    refine wp_skip (then_normal (wp_seq (wp_block ?_)))
    refine at_regq [] { ts := [2, 3, 4, 5, 6, 8], os := [1, 2, 3] } [(0 : Int) ≤ ((i : Nat) : Int) ∧ ((i : Nat) : Int) < ((List.length x0 : Nat) : Int), i < List.length x0, Q_spec_LeadingIndex (x0.getD i []), (0 : Int) ≤ (LA.leadS (x0.getD i [])) ∧ (LA.leadS (x0.getD i [])) < ((List.length (pvL x0 (List.length (x0.getD 0 [])) i) : Nat) : Int), ((LA.leadS (x0.getD i []))).toNat < List.length (pvL x0 (List.length (x0.getD 0 [])) i)] gamOK hT h (by kernel_rfl) ⟨(by refine ⟨?_, ?_⟩ <;> (first | omega | (simp only [lsA]; omega) | (simp <;> omega))), (by first | omega | (simp only [lsA]; omega) | (simp <;> omega)), (by exact Sh.fit_getD hf0 i), (by refine ⟨?_, ?_⟩ <;> ((have hL0 := (show List.length (x0.getD 0 []) ≤ 1073741824 from ((Sh.fit_getD hf0 0)).1); first | omega | (simp only [lsA]; omega) | (simp <;> omega)))), (by (have hL0 := (show List.length (x0.getD 0 []) ≤ 1073741824 from ((Sh.fit_getD hf0 0)).1); first | omega | (simp only [lsA]; omega) | (simp <;> omega))), trivial⟩ fun a w h => in_normal (then_normal ?_)
    refine at_regq [{}, { nw := true }] { ts := [2, 3, 4, 5, 6, 8], os := [1, 2, 3] } [I64 (((i : Nat) : Int) + 1)] gamOK hT h (by kernel_rfl) ⟨⟨by first | omega | (simp only [lsA]; omega) | (simp <;> omega), by first | omega | (simp only [lsA]; omega) | (simp <;> omega)⟩, trivial⟩ fun a w h => ?_
    replace h := at_out (σ' := ⟨[(2, .p (.c (cN))), (3, aS 1), (4, aI (colsOf x0)), (5, aS 2), (6, aS 3), (8, aI (((i : Nat) : Int) + 1))], [(1, oF s22 ([] : List (List Int))), (2, oF s22 x0), (3, oF (.int 3) (List.set (pvL x0 (List.length (x0.getD 0 [])) i) (((LA.leadS (x0.getD i []))).toNat) ((i : Nat) : Int)))]⟩) { ts := [2, 3, 4, 5, 6, 8], os := [1, 2, 3] } h (by kernel_rfl)
    exact ⟨i + 1, at_eq h (st_congr2 (fun (d0 : List Int) (d1 : Int) => (⟨[(2, .p (.c (cN))), (3, aS 1), (4, aI (colsOf x0)), (5, aS 2), (6, aS 3), (8, aI d1)], [(1, oF s22 ([] : List (List Int))), (2, oF s22 x0), (3, oF (.int 3) d0)]⟩ : St)) (show ((List.set (pvL x0 (List.length (x0.getD 0 [])) i) (((LA.leadS (x0.getD i []))).toNat) ((i : Nat) : Int)) : List Int) = (pvL x0 (List.length (x0.getD 0 [])) (i + 1)) from by first | with_reducible rfl | (exact pvL_set hpx.1 (by omega)) | rfl) (show (((i : Nat) : Int) + 1 : Int) = (((i + 1) : Nat) : Int) from by first | with_reducible rfl | (omega) | rfl)), (by omega), (by omega)⟩
   ·replace h3 : ¬ (((i : Nat) : Int) < ((List.length x0 : Nat) : Int)) := of_decide_eq_false h3
    refine wp_exit (then_exit ?_)
    replace h := at_out (σ' := ⟨[(2, .p (.c (cN))), (3, aS 1), (4, aI (colsOf x0)), (5, aS 2), (6, aS 3)], [(1, oF s22 ([] : List (List Int))), (2, oF s22 x0), (3, oF (.int 3) (pvL x0 (List.length (x0.getD 0 [])) i))]⟩) { ts := [2, 3, 4, 5, 6], os := [1, 2, 3] } h (by kernel_rfl)
    replace h := at_eq (σ' := ⟨[(2, .p (.c (cN))), (3, aS 1), (4, aI (colsOf x0)), (5, aS 2), (6, aS 3)], [(1, oF s22 ([] : List (List Int))), (2, oF s22 x0), (3, oF (.int 3) (pvL x0 (List.length (x0.getD 0 [])) (List.length x0)))]⟩) h (st_congr1 (fun (d0 : List Int) => (⟨[(2, .p (.c (cN))), (3, aS 1), (4, aI (colsOf x0)), (5, aS 2), (6, aS 3)], [(1, oF s22 ([] : List (List Int))), (2, oF s22 x0), (3, oF (.int 3) d0)]⟩ : St)) (show ((pvL x0 (List.length (x0.getD 0 [])) i) : List Int) = (pvL x0 (List.length (x0.getD 0 [])) (List.length x0)) from by first | with_reducible rfl | (rw [show List.length x0 = i by omega]) | rfl))
    refine then_exit (in_hit (then_normal (wp_seq (wp_seq ?_))))
    refine at_regq [] { ts := [2, 3, 4, 5, 6, 9], os := [1, 2, 3] } [] gamOK hT h (by kernel_rfl) trivial fun a w h => then_normal (wp_block ?_)
    replace h := at_out (σ' := ⟨[(2, .p (.c (cN))), (3, aS 1), (4, aI (colsOf x0)), (5, aS 2), (6, aS 3), (9, aI 0)], [(1, oF s22 ([] : List (List Int))), (2, oF s22 x0), (3, oF (.int 3) (pvL x0 (List.length (x0.getD 0 [])) (List.length x0)))]⟩) { ts := [2, 3, 4, 5, 6, 9], os := [1, 2, 3] } h (by kernel_rfl)
    refine at_loop (fun k : Nat => (⟨[(2, .p (.c (cN))), (3, aS 1), (4, aI (colsOf x0)), (5, aS 2), (6, aS 3), (9, aI ((k : Nat) : Int))], [(1, oF s22 (nsTo x0 (List.length (x0.getD 0 [])) k)), (2, oF s22 x0), (3, oF (.int 3) (pvL x0 (List.length (x0.getD 0 [])) (List.length x0)))]⟩ : St)) (fun k => k ≤ (List.length (x0.getD 0 []))) (fun k => (List.length (x0.getD 0 [])) - k) (0) h (st_congr2 (fun (d0 : List (List Int)) (d1 : Int) => (⟨[(2, .p (.c (cN))), (3, aS 1), (4, aI (colsOf x0)), (5, aS 2), (6, aS 3), (9, aI d1)], [(1, oF s22 d0), (2, oF s22 x0), (3, oF (.int 3) (pvL x0 (List.length (x0.getD 0 [])) (List.length x0)))]⟩ : St)) (show (([] : List (List Int)) : List (List Int)) = (nsTo x0 (List.length (x0.getD 0 [])) (0)) from by first | with_reducible rfl | (rfl) | rfl) (show (0 : Int) = (((0) : Nat) : Int) from by first | with_reducible rfl | (rfl) | rfl)) (by omega) ?_
    intro k a w hok2 h
    have hnl := nsTo_len x0 (List.length (x0.getD 0 [])) k
    have hpl3 := pvL_len x0 (List.length (x0.getD 0 [])) (List.length x0)
    refine wp_seq (wp_seq ?_)
    refine at_regq [] { ts := [2, 3, 4, 5, 6, 9, 47], os := [1, 2, 3] } [] gamOK hT h (by kernel_rfl) trivial fun a w h => then_normal ?_
    refine at_test (decide (((k : Nat) : Int) < (colsOf x0))) h (by kernel_rfl) (fun h4 => ?_) (fun h4 => ?_)
    ·replace h4 : ((k : Nat) : Int) < (colsOf x0) := of_decide_eq_true h4
     refine wp_skip (then_normal (wp_seq (wp_block (wp_seq (wp_seq ?_)))))
     refine at_regq [] { ts := [2, 3, 4, 5, 6, 9, 54], os := [1, 2, 3] } [(0 : Int) ≤ ((k : Nat) : Int) ∧ ((k : Nat) : Int) < ((List.length (pvL x0 (List.length (x0.getD 0 [])) (List.length x0)) : Nat) : Int), k < List.length (pvL x0 (List.length (x0.getD 0 [])) (List.length x0))] gamOK hT h (by kernel_rfl) ⟨(by refine ⟨?_, ?_⟩ <;> ((have hL0 := (show List.length (x0.getD 0 []) ≤ 1073741824 from ((Sh.fit_getD hf0 0)).1); first | omega | (simp only [lsA]; omega) | (simp <;> omega)))), (by (have hL0 := (show List.length (x0.getD 0 []) ≤ 1073741824 from ((Sh.fit_getD hf0 0)).1); first | omega | (simp only [lsA]; omega) | (simp <;> omega))), trivial⟩ fun a w h => then_normal ?_
     refine at_test (decide (((pvL x0 (List.length (x0.getD 0 [])) (List.length x0)).getD k 0) ≥ 0)) h (by kernel_rfl) (fun h5 => ?_) (fun h5 => ?_)
     ·replace h5 : ((pvL x0 (List.length (x0.getD 0 [])) (List.length x0)).getD k 0) ≥ 0 := of_decide_eq_true h5
      have hpk := pvL_at (R := x0) (n := (List.length (x0.getD 0 []))) (show k < (List.length (x0.getD 0 [])) by omega)
      refine wp_exit (then_exit (in_hit (then_normal ?_)))
      refine at_regq [{}, { nw := true }] { ts := [2, 3, 4, 5, 6, 9], os := [1, 2, 3] } [I64 (((k : Nat) : Int) + 1)] gamOK hT h (by kernel_rfl) ⟨⟨by first | omega | (simp only [lsA]; omega) | (simp <;> omega), by first | omega | (simp only [lsA]; omega) | (simp <;> omega)⟩, trivial⟩ fun a w h => ?_
      replace h := at_out (σ' := ⟨[(2, .p (.c (cN))), (3, aS 1), (4, aI (colsOf x0)), (5, aS 2), (6, aS 3), (9, aI (((k : Nat) : Int) + 1))], [(1, oF s22 (nsTo x0 (List.length (x0.getD 0 [])) k)), (2, oF s22 x0), (3, oF (.int 3) (pvL x0 (List.length (x0.getD 0 [])) (List.length x0)))]⟩) { ts := [2, 3, 4, 5, 6, 9], os := [1, 2, 3] } h (by kernel_rfl)
      exact ⟨k + 1, at_eq h (st_congr2 (fun (d0 : List (List Int)) (d1 : Int) => (⟨[(2, .p (.c (cN))), (3, aS 1), (4, aI (colsOf x0)), (5, aS 2), (6, aS 3), (9, aI d1)], [(1, oF s22 d0), (2, oF s22 x0), (3, oF (.int 3) (pvL x0 (List.length (x0.getD 0 [])) (List.length x0)))]⟩ : St)) (show ((nsTo x0 (List.length (x0.getD 0 [])) k) : List (List Int)) = (nsTo x0 (List.length (x0.getD 0 [])) (k + 1)) from by first | with_reducible rfl | (first | exact nsTo_y (by omega) | exact nsTo_n (by omega)) | rfl) (show (((k : Nat) : Int) + 1 : Int) = (((k + 1) : Nat) : Int) from by first | with_reducible rfl | (omega) | rfl)), (by omega), (by omega)⟩
     ·replace h5 : ¬ (((pvL x0 (List.length (x0.getD 0 [])) (List.length x0)).getD k 0) ≥ 0) := of_decide_eq_false h5
      have hpk := pvL_at (R := x0) (n := (List.length (x0.getD 0 []))) (show k < (List.length (x0.getD 0 [])) by omega)
      refine wp_skip (then_normal (wp_seq ?_))
      refine at_regq [{}, {}, { ids := [4] }] { ts := [2, 3, 4, 5, 6, 9, 10], os := [1, 2, 3, 4] } [True] gamOK hT h (by kernel_rfl) ⟨trivial, trivial⟩ fun a w h => then_normal (wp_seq (wp_seq ?_))
      refine at_regq [] { ts := [2, 3, 4, 5, 6, 9, 10, 11], os := [1, 2, 3, 4] } [] gamOK hT h (by kernel_rfl) trivial fun a w h => then_normal (wp_block ?_)
      replace h := at_out (σ' := ⟨[(2, .p (.c (cN))), (3, aS 1), (4, aI (colsOf x0)), (5, aS 2), (6, aS 3), (9, aI ((k : Nat) : Int)), (10, aS 4), (11, aI 0)], [(1, oF s22 (nsTo x0 (List.length (x0.getD 0 [])) k)), (2, oF s22 x0), (3, oF (.int 3) (pvL x0 (List.length (x0.getD 0 [])) (List.length x0))), (4, oR (.int 3) (unitV (colsOf x0) ((k : Nat) : Int)))]⟩) { ts := [2, 3, 4, 5, 6, 9, 10, 11], os := [1, 2, 3, 4] } h (by kernel_rfl)
      refine at_loop (fun j : Nat => (⟨[(2, .p (.c (cN))), (3, aS 1), (4, aI (colsOf x0)), (5, aS 2), (6, aS 3), (9, aI ((k : Nat) : Int)), (10, aS 4), (11, aI ((j : Nat) : Int))], [(1, oF s22 (nsTo x0 (List.length (x0.getD 0 [])) k)), (2, oF s22 x0), (3, oF (.int 3) (pvL x0 (List.length (x0.getD 0 [])) (List.length x0))), (4, oR (.int 3) (nvTo x0 (List.length (x0.getD 0 [])) k j))]⟩ : St)) (fun j => j ≤ (List.length (x0.getD 0 []))) (fun j => (List.length (x0.getD 0 [])) - j) (0) h (st_congr2 (fun (d0 : List Int) (d1 : Int) => (⟨[(2, .p (.c (cN))), (3, aS 1), (4, aI (colsOf x0)), (5, aS 2), (6, aS 3), (9, aI ((k : Nat) : Int)), (10, aS 4), (11, aI d1)], [(1, oF s22 (nsTo x0 (List.length (x0.getD 0 [])) k)), (2, oF s22 x0), (3, oF (.int 3) (pvL x0 (List.length (x0.getD 0 [])) (List.length x0))), (4, oR (.int 3) d0)]⟩ : St)) (show ((unitV (colsOf x0) ((k : Nat) : Int)) : List Int) = (nvTo x0 (List.length (x0.getD 0 [])) k (0)) from by first | with_reducible rfl | ((rw [← unitV_y (inR_true (by omega)) (inR_true (by omega)), hco]; exact nvTo_zero _ _ _)) | rfl) (show (0 : Int) = (((0) : Nat) : Int) from by first | with_reducible rfl | ((rw [← unitV_y (inR_true (by omega)) (inR_true (by omega)), hco]; exact nvTo_zero _ _ _)) | rfl)) (by omega) ?_
      intro j a w hok3 h
      have hvl := nvTo_len x0 (List.length (x0.getD 0 [])) k j
      refine wp_seq (wp_seq ?_)
      refine at_regq [] { ts := [2, 3, 4, 5, 6, 9, 10, 11, 60], os := [1, 2, 3, 4] } [] gamOK hT h (by kernel_rfl) trivial fun a w h => then_normal ?_
      refine at_test (decide (((j : Nat) : Int) < (colsOf x0))) h (by kernel_rfl) (fun h6 => ?_) (fun h6 => ?_)
      ·replace h6 : ((j : Nat) : Int) < (colsOf x0) := of_decide_eq_true h6
       refine wp_skip (then_normal (wp_seq (wp_block (wp_seq ?_))))
       refine at_regq [] { ts := [2, 3, 4, 5, 6, 9, 10, 11, 67], os := [1, 2, 3, 4] } [(0 : Int) ≤ ((j : Nat) : Int) ∧ ((j : Nat) : Int) < ((List.length (pvL x0 (List.length (x0.getD 0 [])) (List.length x0)) : Nat) : Int), j < List.length (pvL x0 (List.length (x0.getD 0 [])) (List.length x0))] gamOK hT h (by kernel_rfl) ⟨(by refine ⟨?_, ?_⟩ <;> ((have hL0 := (show List.length (x0.getD 0 []) ≤ 1073741824 from ((Sh.fit_getD hf0 0)).1); first | omega | (simp only [lsA]; omega) | (simp <;> omega)))), (by (have hL0 := (show List.length (x0.getD 0 []) ≤ 1073741824 from ((Sh.fit_getD hf0 0)).1); first | omega | (simp only [lsA]; omega) | (simp <;> omega))), trivial⟩ fun a w h => then_normal ?_
       refine at_test (decide (((pvL x0 (List.length (x0.getD 0 [])) (List.length x0)).getD j 0) ≥ 0)) h (by kernel_rfl) (fun h7 => ?_) (fun h7 => ?_)
       ·replace h7 : ((pvL x0 (List.length (x0.getD 0 [])) (List.length x0)).getD j 0) ≥ 0 := of_decide_eq_true h7
        have hpj := pvL_at (R := x0) (n := (List.length (x0.getD 0 []))) (show j < (List.length (x0.getD 0 [])) by omega)
        have hpb := pvI_bd (R := x0) (j := (j : Int)) (by omega)
        have hpt : ((pvL x0 (List.length (x0.getD 0 [])) (List.length x0)).getD j 0).toNat < List.length x0 := by rw [hpj]; exact hpb.1
        have hrx := hpx.1.at_ hpt
        have hrxl := hrx.1.1
        refine at_regq [] { ts := [2, 3, 4, 5, 6, 9, 10, 11], os := [1, 2, 3, 4] } [(0 : Int) ≤ ((j : Nat) : Int) ∧ ((j : Nat) : Int) < ((List.length (pvL x0 (List.length (x0.getD 0 [])) (List.length x0)) : Nat) : Int), j < List.length (pvL x0 (List.length (x0.getD 0 [])) (List.length x0)), (0 : Int) ≤ ((pvL x0 (List.length (x0.getD 0 [])) (List.length x0)).getD j 0) ∧ ((pvL x0 (List.length (x0.getD 0 [])) (List.length x0)).getD j 0) < ((List.length x0 : Nat) : Int), (((pvL x0 (List.length (x0.getD 0 [])) (List.length x0)).getD j 0)).toNat < List.length x0, (0 : Int) ≤ ((k : Nat) : Int) ∧ ((k : Nat) : Int) < ((List.length (x0.getD ((((pvL x0 (List.length (x0.getD 0 [])) (List.length x0)).getD j 0)).toNat) []) : Nat) : Int), True, (0 : Int) ≤ ((j : Nat) : Int) ∧ ((j : Nat) : Int) < ((List.length (nvTo x0 (List.length (x0.getD 0 [])) k j) : Nat) : Int), j < List.length (nvTo x0 (List.length (x0.getD 0 [])) k j)] gamOK hT h (by kernel_rfl) ⟨(by refine ⟨?_, ?_⟩ <;> ((have hL0 := (show List.length (x0.getD 0 []) ≤ 1073741824 from ((Sh.fit_getD hf0 0)).1); first | omega | (simp only [lsA]; omega) | (simp <;> omega)))), (by (have hL0 := (show List.length (x0.getD 0 []) ≤ 1073741824 from ((Sh.fit_getD hf0 0)).1); first | omega | (simp only [lsA]; omega) | (simp <;> omega))), (by refine ⟨?_, ?_⟩ <;> ((have hL0 := (show List.length (x0.getD 0 []) ≤ 1073741824 from ((Sh.fit_getD hf0 0)).1); first | omega | (simp only [lsA]; omega) | (simp <;> omega)))), (by (have hL0 := (show List.length (x0.getD 0 []) ≤ 1073741824 from ((Sh.fit_getD hf0 0)).1); first | omega | (simp only [lsA]; omega) | (simp <;> omega))), (by refine ⟨?_, ?_⟩ <;> ((have hL0 := (show List.length (x0.getD ((((pvL x0 (List.length (x0.getD 0 [])) (List.length x0)).getD j 0)).toNat) []) ≤ 1073741824 from ((Sh.fit_getD hf0 ((((pvL x0 (List.length (x0.getD 0 [])) (List.length x0)).getD j 0)).toNat))).1); have hL1 := (show List.length (x0.getD 0 []) ≤ 1073741824 from ((Sh.fit_getD hf0 0)).1); first | omega | (simp only [lsA]; omega) | (simp <;> omega)))), trivial, (by refine ⟨?_, ?_⟩ <;> ((have hL0 := (show List.length (x0.getD 0 []) ≤ 1073741824 from ((Sh.fit_getD hf0 0)).1); first | omega | (simp only [lsA]; omega) | (simp <;> omega)))), (by (have hL0 := (show List.length (x0.getD 0 []) ≤ 1073741824 from ((Sh.fit_getD hf0 0)).1); first | omega | (simp only [lsA]; omega) | (simp <;> omega))), trivial⟩ fun a w h => in_normal (then_normal ?_)
        refine at_regq [{}, { nw := true }] { ts := [2, 3, 4, 5, 6, 9, 10, 11], os := [1, 2, 3, 4] } [I64 (((j : Nat) : Int) + 1)] gamOK hT h (by kernel_rfl) ⟨⟨by first | omega | (simp only [lsA]; omega) | (simp <;> omega), by first | omega | (simp only [lsA]; omega) | (simp <;> omega)⟩, trivial⟩ fun a w h => ?_
        replace h := at_out (σ' := ⟨[(2, .p (.c (cN))), (3, aS 1), (4, aI (colsOf x0)), (5, aS 2), (6, aS 3), (9, aI ((k : Nat) : Int)), (10, aS 4), (11, aI (((j : Nat) : Int) + 1))], [(1, oF s22 (nsTo x0 (List.length (x0.getD 0 [])) k)), (2, oF s22 x0), (3, oF (.int 3) (pvL x0 (List.length (x0.getD 0 [])) (List.length x0))), (4, oR (.int 3) (List.set (nvTo x0 (List.length (x0.getD 0 [])) k j) j (subF 0 ((x0.getD ((((pvL x0 (List.length (x0.getD 0 [])) (List.length x0)).getD j 0)).toNat) []).getD k 0))))]⟩) { ts := [2, 3, 4, 5, 6, 9, 10, 11], os := [1, 2, 3, 4] } h (by kernel_rfl)
        exact ⟨j + 1, at_eq h (st_congr2 (fun (d0 : List Int) (d1 : Int) => (⟨[(2, .p (.c (cN))), (3, aS 1), (4, aI (colsOf x0)), (5, aS 2), (6, aS 3), (9, aI ((k : Nat) : Int)), (10, aS 4), (11, aI d1)], [(1, oF s22 (nsTo x0 (List.length (x0.getD 0 [])) k)), (2, oF s22 x0), (3, oF (.int 3) (pvL x0 (List.length (x0.getD 0 [])) (List.length x0))), (4, oR (.int 3) d0)]⟩ : St)) (show ((List.set (nvTo x0 (List.length (x0.getD 0 [])) k j) j (subF 0 ((x0.getD ((((pvL x0 (List.length (x0.getD 0 [])) (List.length x0)).getD j 0)).toNat) []).getD k 0))) : List Int) = (nvTo x0 (List.length (x0.getD 0 [])) k (j + 1)) from by first | with_reducible rfl | (first | (rw [hpj]; exact nvTo_set (by omega)) | exact nvTo_same (by omega)) | rfl) (show (((j : Nat) : Int) + 1 : Int) = (((j + 1) : Nat) : Int) from by first | with_reducible rfl | (omega) | rfl)), (by omega), (by omega)⟩
       ·replace h7 : ¬ (((pvL x0 (List.length (x0.getD 0 [])) (List.length x0)).getD j 0) ≥ 0) := of_decide_eq_false h7
        have hpj := pvL_at (R := x0) (n := (List.length (x0.getD 0 []))) (show j < (List.length (x0.getD 0 [])) by omega)
        refine wp_skip (in_normal (then_normal ?_))
        refine at_regq [{}, { nw := true }] { ts := [2, 3, 4, 5, 6, 9, 10, 11], os := [1, 2, 3, 4] } [I64 (((j : Nat) : Int) + 1)] gamOK hT h (by kernel_rfl) ⟨⟨by first | omega | (simp only [lsA]; omega) | (simp <;> omega), by first | omega | (simp only [lsA]; omega) | (simp <;> omega)⟩, trivial⟩ fun a w h => ?_
        replace h := at_out (σ' := ⟨[(2, .p (.c (cN))), (3, aS 1), (4, aI (colsOf x0)), (5, aS 2), (6, aS 3), (9, aI ((k : Nat) : Int)), (10, aS 4), (11, aI (((j : Nat) : Int) + 1))], [(1, oF s22 (nsTo x0 (List.length (x0.getD 0 [])) k)), (2, oF s22 x0), (3, oF (.int 3) (pvL x0 (List.length (x0.getD 0 [])) (List.length x0))), (4, oR (.int 3) (nvTo x0 (List.length (x0.getD 0 [])) k j))]⟩) { ts := [2, 3, 4, 5, 6, 9, 10, 11], os := [1, 2, 3, 4] } h (by kernel_rfl)
        exact ⟨j + 1, at_eq h (st_congr2 (fun (d0 : List Int) (d1 : Int) => (⟨[(2, .p (.c (cN))), (3, aS 1), (4, aI (colsOf x0)), (5, aS 2), (6, aS 3), (9, aI ((k : Nat) : Int)), (10, aS 4), (11, aI d1)], [(1, oF s22 (nsTo x0 (List.length (x0.getD 0 [])) k)), (2, oF s22 x0), (3, oF (.int 3) (pvL x0 (List.length (x0.getD 0 [])) (List.length x0))), (4, oR (.int 3) d0)]⟩ : St)) (show ((nvTo x0 (List.length (x0.getD 0 [])) k j) : List Int) = (nvTo x0 (List.length (x0.getD 0 [])) k (j + 1)) from by first | with_reducible rfl | (first | (rw [hpj]; exact nvTo_set (by omega)) | exact nvTo_same (by omega)) | rfl) (show (((j : Nat) : Int) + 1 : Int) = (((j + 1) : Nat) : Int) from by first | with_reducible rfl | (omega) | rfl)), (by omega), (by omega)⟩
      ·replace h6 : ¬ (((j : Nat) : Int) < (colsOf x0)) := of_decide_eq_false h6
       refine wp_exit (then_exit ?_)
       replace h := at_out (σ' := ⟨[(2, .p (.c (cN))), (3, aS 1), (4, aI (colsOf x0)), (5, aS 2), (6, aS 3), (9, aI ((k : Nat) : Int)), (10, aS 4)], [(1, oF s22 (nsTo x0 (List.length (x0.getD 0 [])) k)), (2, oF s22 x0), (3, oF (.int 3) (pvL x0 (List.length (x0.getD 0 [])) (List.length x0))), (4, oR (.int 3) (nvTo x0 (List.length (x0.getD 0 [])) k j))]⟩) { ts := [2, 3, 4, 5, 6, 9, 10], os := [1, 2, 3, 4] } h (by kernel_rfl)
       replace h := at_eq (σ' := ⟨[(2, .p (.c (cN))), (3, aS 1), (4, aI (colsOf x0)), (5, aS 2), (6, aS 3), (9, aI ((k : Nat) : Int)), (10, aS 4)], [(1, oF s22 (nsTo x0 (List.length (x0.getD 0 [])) k)), (2, oF s22 x0), (3, oF (.int 3) (pvL x0 (List.length (x0.getD 0 [])) (List.length x0))), (4, oR (.int 3) (nvL x0 (List.length (x0.getD 0 [])) k))]⟩) h (st_congr1 (fun (d0 : List Int) => (⟨[(2, .p (.c (cN))), (3, aS 1), (4, aI (colsOf x0)), (5, aS 2), (6, aS 3), (9, aI ((k : Nat) : Int)), (10, aS 4)], [(1, oF s22 (nsTo x0 (List.length (x0.getD 0 [])) k)), (2, oF s22 x0), (3, oF (.int 3) (pvL x0 (List.length (x0.getD 0 [])) (List.length x0))), (4, oR (.int 3) d0)]⟩ : St)) (show ((nvTo x0 (List.length (x0.getD 0 [])) k j) : List Int) = (nvL x0 (List.length (x0.getD 0 [])) k) from by first | with_reducible rfl | (exact nvTo_all (by omega)) | rfl))
       refine then_exit (in_hit (then_normal ?_))
       replace h := at_out (σ' := ⟨[(2, .p (.c (cN))), (3, aS 1), (4, aI (colsOf x0)), (5, aS 2), (6, aS 3), (9, aI ((k : Nat) : Int)), (10, aF (.int 3) (nvL x0 (List.length (x0.getD 0 [])) k))], [(1, oF s22 (nsTo x0 (List.length (x0.getD 0 [])) k)), (2, oF s22 x0), (3, oF (.int 3) (pvL x0 (List.length (x0.getD 0 [])) (List.length x0)))]⟩) { fz := [4], ts := [2, 3, 4, 5, 6, 9, 10], os := [1, 2, 3] } h (by kernel_rfl)
       refine at_regq [{}, {}, { ids := [5], dp := false }, { ids := [6], dp := false }] { ts := [2, 3, 4, 5, 6, 9], os := [2, 3, 6] } [(List.length (nsTo x0 (List.length (x0.getD 0 [])) k) + List.length ([(nvL x0 (List.length (x0.getD 0 [])) k)])) * 24 ≤ 140737488355328] gamOK hT h (by kernel_rfl) ⟨(by (have hL0 := (show List.length (x0.getD 0 []) ≤ 1073741824 from ((Sh.fit_getD hf0 0)).1); first | omega | (simp only [lsA]; omega) | (simp <;> omega))), trivial⟩ fun a w h => in_normal (then_normal ?_)
       refine at_regq [{}, { nw := true }] { ts := [2, 3, 4, 5, 6, 9], os := [2, 3, 6] } [I64 (((k : Nat) : Int) + 1)] gamOK hT h (by kernel_rfl) ⟨⟨by first | omega | (simp only [lsA]; omega) | (simp <;> omega), by first | omega | (simp only [lsA]; omega) | (simp <;> omega)⟩, trivial⟩ fun a w h => ?_
       replace h := at_out (σ' := ⟨[(2, .p (.c (cN))), (3, aS 1), (4, aI (colsOf x0)), (5, aS 2), (6, aS 3), (9, aI (((k : Nat) : Int) + 1))], [(1, oF s22 ((nsTo x0 (List.length (x0.getD 0 [])) k) ++ ([(nvL x0 (List.length (x0.getD 0 [])) k)]))), (2, oF s22 x0), (3, oF (.int 3) (pvL x0 (List.length (x0.getD 0 [])) (List.length x0)))]⟩) { ts := [2, 3, 4, 5, 6, 9], os := [6, 2, 3], rn := [(6, 1)] } h (by kernel_rfl)
       exact ⟨k + 1, at_eq h (st_congr2 (fun (d0 : List (List Int)) (d1 : Int) => (⟨[(2, .p (.c (cN))), (3, aS 1), (4, aI (colsOf x0)), (5, aS 2), (6, aS 3), (9, aI d1)], [(1, oF s22 d0), (2, oF s22 x0), (3, oF (.int 3) (pvL x0 (List.length (x0.getD 0 [])) (List.length x0)))]⟩ : St)) (show (((nsTo x0 (List.length (x0.getD 0 [])) k) ++ ([(nvL x0 (List.length (x0.getD 0 [])) k)])) : List (List Int)) = (nsTo x0 (List.length (x0.getD 0 [])) (k + 1)) from by first | with_reducible rfl | (first | exact nsTo_y (by omega) | exact nsTo_n (by omega)) | rfl) (show (((k : Nat) : Int) + 1 : Int) = (((k + 1) : Nat) : Int) from by first | with_reducible rfl | (omega) | rfl)), (by omega), (by omega)⟩
    ·replace h4 : ¬ (((k : Nat) : Int) < (colsOf x0)) := of_decide_eq_false h4
     refine wp_exit (then_exit (then_exit (in_hit (then_normal (wp_seq ?_)))))
     refine at_regq [] { ts := [2], os := [1] } [] gamOK hT h (by kernel_rfl) trivial fun a w h => then_normal (wp_ret ?_)
     exact at_return ((nsTo x0 (List.length (x0.getD 0 [])) k), ()) [] h (by kernel_rfl) trivial (congrArg (fun z => (z, ())) (show ((nsTo x0 (List.length (x0.getD 0 [])) k)) = D_spec_NullSpace x0 from by unfold D_spec_NullSpace; first | (exact absurd (hvm.symm.trans (by assumption)) (by decide)) | (show nsTo x0 (List.length (x0.getD 0 [])) k = nsTo x0 (List.length (x0.getD 0 [])) (List.length (x0.getD 0 [])); rw [show (List.length (x0.getD 0 [])) = k by omega])))

abbrev Q_spec_OrthogonalSpace := (fun (x0 : T101) => Sh.fit s101 x0)
def S_spec_OrthogonalSpace : Sum := { fid := 130, dom := [s101], cod := [s101], dp := false, fz := false, pre := fun x => Q_spec_OrthogonalSpace x.1, g := fun x => ((orthB x.1), ()) }
def S_spec_OrthogonalSpace_tab : List (Nat × Sum) := [(210, S_spec_IsValidBasis), (129, S_spec_NewBasis), (212, S_spec_Identity), (211, S_spec_SpanOf), (213, S_spec_NullSpace)]
theorem S_spec_OrthogonalSpace_ok : FnOK Try.prog 130 S_spec_OrthogonalSpace := by
 refine at_enter 23 (fun x => ⟨[(0, aG [cI x.1.1, .ro s22 x.1.2])], []⟩) Try.func130 rfl (by kernel_rfl) (fun x => rfl) ?_
 rintro w0 Z0 ⟨x0, u⟩ a w
 revert x0
 intro (x0 : T101) hpre hlens h
 replace hpre : Q_spec_OrthogonalSpace x0 := hpre
 have hT : TabOK Try.prog S_spec_OrthogonalSpace_tab := (.cons S_spec_IsValidBasis_ok (.cons S_spec_NewBasis_ok (.cons S_spec_Identity_ok (.cons S_spec_SpanOf_ok (.cons S_spec_NullSpace_ok .nil)))))
 have hf0 : Sh.fit s101 x0 := hpre
 have hn0_1 : List.length x0.2 ≤ 1073741824 := hf0.2.1
 refine wp_seq ?_
 refine at_regq [{ ids := [1] }, { ids := [2] }] { ts := [1, 2], os := [1, 2] } [] gamOK hT h (by kernel_rfl) trivial fun a w h => then_normal (wp_seq (wp_seq ?_))
 refine at_regq [] { ts := [1, 2, 5], os := [1, 2] } [Q_spec_IsValidBasis x0] gamOK hT h (by kernel_rfl) ⟨(by exact hf0), trivial⟩ fun a w h => then_normal ?_
 refine at_test (!(validBS x0)) h (by kernel_rfl) (fun h1 => ?_) (fun h1 => ?_)
 ·replace h1 : (validBS x0) = false := notT h1
  refine wp_seq ?_
  refine at_regq [{ ids := [3] }] { ts := [1, 2], os := [1, 2, 3] } [True] gamOK hT h (by kernel_rfl) ⟨trivial, trivial⟩ fun a w h => then_normal (wp_ret (then_ret ?_))
  exact at_return ((newBas 0), ()) [] h (by kernel_rfl) trivial (congrArg (fun z => (z, ())) (show ((newBas 0)) = orthB x0 from by first | (unfold orthB; rw [if_neg (by rw [← validBS_eq]; simp_all)]; rfl) | exact orth_id (by first | assumption | (rw [← validBS_eq]; assumption)) (by omega) | exact orth_ns (by first | assumption | (rw [← validBS_eq]; assumption)) (by omega)))
 ·replace h1 : (validBS x0) = true := notF h1
  have hvh1 := validBS_t h1
  refine wp_skip (then_normal (wp_seq (wp_seq ?_)))
  refine at_regq [] { ts := [1, 2, 10], os := [1, 2] } [] gamOK hT h (by kernel_rfl) trivial fun a w h => then_normal ?_
  refine at_test (decide (((List.length x0.2 : Nat) : Int) = 0)) h (by kernel_rfl) (fun h2 => ?_) (fun h2 => ?_)
  ·replace h2 : ((List.length x0.2 : Nat) : Int) = 0 := of_decide_eq_true h2
   refine wp_seq ?_
   refine at_anyq [{}, {}, { frz := true }, {}, {}, { ids := [4] }, {}] { ts := [1, 2], os := [1, 2, 4] } [True, Q_spec_SpanOf (D_spec_Identity x0.1) x0.1] gamOK hT mixed h (by kernel_rfl) ⟨trivial, (by first | exact orth_fit (by first | assumption | (rw [← validBS_eq]; assumption)) (by omega) | exact idM_fit (validB_t (b := x0) (by first | assumption | (rw [← validBS_eq]; assumption))).1), trivial⟩ fun a w h => then_normal (wp_ret (then_ret ?_))
   exact at_return ((spanB (D_spec_Identity x0.1) x0.1), ()) [] h (by kernel_rfl) trivial (congrArg (fun z => (z, ())) (show ((spanB (D_spec_Identity x0.1) x0.1)) = orthB x0 from by first | (unfold orthB; rw [if_neg (by rw [← validBS_eq]; simp_all)]; rfl) | exact orth_id (by first | assumption | (rw [← validBS_eq]; assumption)) (by omega) | exact orth_ns (by first | assumption | (rw [← validBS_eq]; assumption)) (by omega)))
  ·replace h2 : ¬ (((List.length x0.2 : Nat) : Int) = 0) := of_decide_eq_false h2
   refine wp_skip (then_normal (wp_seq ?_))
   refine at_anyq [{}, {}, { frz := true }, {}, {}, { ids := [5] }, {}] { ts := [2], os := [2, 5] } [Q_spec_NullSpace x0.2, Q_spec_SpanOf (D_spec_NullSpace x0.2) x0.1] gamOK hT mixed h (by kernel_rfl) ⟨(by exact orth_pre hf0.2 (by first | assumption | (rw [← validBS_eq]; assumption)) (by omega)), (by first | exact orth_fit (by first | assumption | (rw [← validBS_eq]; assumption)) (by omega) | exact idM_fit (validB_t (b := x0) (by first | assumption | (rw [← validBS_eq]; assumption))).1), trivial⟩ fun a w h => then_normal (wp_ret ?_)
   exact at_return ((spanB (D_spec_NullSpace x0.2) x0.1), ()) [] h (by kernel_rfl) trivial (congrArg (fun z => (z, ())) (show ((spanB (D_spec_NullSpace x0.2) x0.1)) = orthB x0 from by first | (unfold orthB; rw [if_neg (by rw [← validBS_eq]; simp_all)]; rfl) | exact orth_id (by first | assumption | (rw [← validBS_eq]; assumption)) (by omega) | exact orth_ns (by first | assumption | (rw [← validBS_eq]; assumption)) (by omega)))

abbrev Q_impl_IntersectionOf := (fun (x0 : T101) (x1 : T101) => Sh.fit s101 x0 ∧ Sh.fit s101 x1)
def S_impl_IntersectionOf : Sum := { fid := 48, dom := [s101, s101], cod := [s101], dp := true, fz := false, pre := fun x => Q_impl_IntersectionOf x.1 x.2.1, g := fun x => ((intB x.1 x.2.1), ()) }
def S_impl_IntersectionOf_tab : List (Nat × Sum) := [(133, S_impl_sameWidth), (134, S_impl_NewBasis), (135, S_impl_OrthogonalSpace), (136, S_impl_SumOf)]
theorem S_impl_IntersectionOf_ok : FnOK Try.prog 48 S_impl_IntersectionOf := by
 refine at_enter 16 (fun x => ⟨[(0, aG [cI x.1.1, .ro s22 x.1.2]), (1, aG [cI x.2.1.1, .ro s22 x.2.1.2])], []⟩) Try.func48 rfl (by kernel_rfl) (fun x => rfl) ?_
 rintro w0 Z0 ⟨x0, x1, u⟩ a w
 revert x0 x1
 intro (x0 : T101) (x1 : T101) hpre hlens h
 replace hpre : Q_impl_IntersectionOf x0 x1 := hpre
 have hT : TabOK Try.prog S_impl_IntersectionOf_tab := (.cons S_impl_sameWidth_ok (.cons S_impl_NewBasis_ok (.cons S_impl_OrthogonalSpace_ok (.cons S_impl_SumOf_ok .nil))))
 obtain ⟨hf0, hf1⟩ := hpre
 have hn0_1 : List.length x0.2 ≤ 1073741824 := hf0.2.1
 have hn1_2 : List.length x1.2 ≤ 1073741824 := hf1.2.1
 refine wp_seq ?_
 refine at_regq [{ ids := [1] }, { ids := [2] }, { ids := [3] }] { ts := [2, 3, 4], os := [1, 2, 3] } [] gamOK hT h (by kernel_rfl) trivial fun a w h => then_normal (wp_seq (wp_seq ?_))
 refine at_regq [] { ts := [2, 3, 4, 8], os := [1, 2, 3] } [Q_impl_sameWidth x0 x1] gamOK hT h (by kernel_rfl) ⟨(by exact ⟨hf0, hf1⟩), trivial⟩ fun a w h => then_normal ?_
 refine at_test (!(sameW x0 x1)) h (by kernel_rfl) (fun h1 => ?_) (fun h1 => ?_)
 ·replace h1 : (sameW x0 x1) = false := notT h1
  refine wp_seq ?_
  refine at_regq [{ ids := [4] }] { ts := [2, 3, 4], os := [1, 2, 3, 4] } [True] gamOK hT h (by kernel_rfl) ⟨trivial, trivial⟩ fun a w h => then_normal (wp_ret (then_ret ?_))
  exact at_return ((newBas 0), ()) [] h (by kernel_rfl) trivial (congrArg (fun z => (z, ())) (show ((newBas 0)) = intB x0 x1 from by first | (unfold intB; rw [if_pos (by assumption)]; done) | (unfold intB; rw [if_neg (by simp_all)]; rfl)))
 ·replace h1 : (sameW x0 x1) = true := notF h1
  refine wp_skip (then_normal (wp_seq ?_))
  refine at_anyq [{}, { ids := [5] }, {}, { ids := [6] }, { ids := [7] }, { ids := [8] }, {}] { ts := [4], os := [3, 8] } [Q_impl_OrthogonalSpace x0, Q_impl_OrthogonalSpace x1, Q_impl_SumOf (orthB x0) (orthB x1), Q_impl_OrthogonalSpace (sumB (orthB x0) (orthB x1))] gamOK hT mixed h (by kernel_rfl) ⟨(by exact hf0), (by exact hf1), (by exact ⟨(basP_fit (orthB_P x0)), (basP_fit (orthB_P x1))⟩), (by exact (sumB_fit (basP_fit (orthB_P x0)))), trivial⟩ fun a w h => then_normal (wp_ret ?_)
  exact at_return ((orthB (sumB (orthB x0) (orthB x1))), ()) [] h (by kernel_rfl) trivial (congrArg (fun z => (z, ())) (show ((orthB (sumB (orthB x0) (orthB x1)))) = intB x0 x1 from by first | (unfold intB; rw [if_pos (by assumption)]; done) | (unfold intB; rw [if_neg (by simp_all)]; rfl)))

abbrev Q_spec_IntersectionOf := (fun (x0 : T101) (x1 : T101) => Sh.fit s101 x0 ∧ Sh.fit s101 x1)
def S_spec_IntersectionOf : Sum := { fid := 46, dom := [s101, s101], cod := [s101], dp := false, fz := false, pre := fun x => Q_spec_IntersectionOf x.1 x.2.1, g := fun x => ((intB x.1 x.2.1), ()) }
def S_spec_IntersectionOf_tab : List (Nat × Sum) := [(128, S_spec_l9Pair), (129, S_spec_NewBasis), (130, S_spec_OrthogonalSpace), (131, S_spec_SumOf)]
theorem S_spec_IntersectionOf_ok : FnOK Try.prog 46 S_spec_IntersectionOf := by
 refine at_enter 16 (fun x => ⟨[(0, aG [cI x.1.1, .ro s22 x.1.2]), (1, aG [cI x.2.1.1, .ro s22 x.2.1.2])], []⟩) Try.func46 rfl (by kernel_rfl) (fun x => rfl) ?_
 rintro w0 Z0 ⟨x0, x1, u⟩ a w
 revert x0 x1
 intro (x0 : T101) (x1 : T101) hpre hlens h
 replace hpre : Q_spec_IntersectionOf x0 x1 := hpre
 have hT : TabOK Try.prog S_spec_IntersectionOf_tab := (.cons S_spec_l9Pair_ok (.cons S_spec_NewBasis_ok (.cons S_spec_OrthogonalSpace_ok (.cons S_spec_SumOf_ok .nil))))
 obtain ⟨hf0, hf1⟩ := hpre
 have hn0_1 : List.length x0.2 ≤ 1073741824 := hf0.2.1
 have hn1_2 : List.length x1.2 ≤ 1073741824 := hf1.2.1
 refine wp_seq ?_
 refine at_regq [{ ids := [1] }, { ids := [2] }, { ids := [3] }] { ts := [2, 3, 4], os := [1, 2, 3] } [] gamOK hT h (by kernel_rfl) trivial fun a w h => then_normal (wp_seq (wp_seq ?_))
 refine at_regq [] { ts := [2, 3, 4, 8], os := [1, 2, 3] } [Q_spec_l9Pair x0 x1] gamOK hT h (by kernel_rfl) ⟨(by exact ⟨hf0, hf1⟩), trivial⟩ fun a w h => then_normal ?_
 refine at_test (!(sameW x0 x1)) h (by kernel_rfl) (fun h1 => ?_) (fun h1 => ?_)
 ·replace h1 : (sameW x0 x1) = false := notT h1
  refine wp_seq ?_
  refine at_regq [{ ids := [4] }] { ts := [2, 3, 4], os := [1, 2, 3, 4] } [True] gamOK hT h (by kernel_rfl) ⟨trivial, trivial⟩ fun a w h => then_normal (wp_ret (then_ret ?_))
  exact at_return ((newBas 0), ()) [] h (by kernel_rfl) trivial (congrArg (fun z => (z, ())) (show ((newBas 0)) = intB x0 x1 from by first | (unfold intB; rw [if_pos (by assumption)]; done) | (unfold intB; rw [if_neg (by simp_all)]; rfl)))
 ·replace h1 : (sameW x0 x1) = true := notF h1
  refine wp_skip (then_normal (wp_seq ?_))
  refine at_anyq [{}, { frz := true }, {}, { frz := true }, { frz := true }, { ids := [5] }, {}] { ts := [4], os := [3, 5] } [Q_spec_OrthogonalSpace x0, Q_spec_OrthogonalSpace x1, Q_spec_SumOf (orthB x0) (orthB x1), Q_spec_OrthogonalSpace (sumB (orthB x0) (orthB x1))] gamOK hT mixed h (by kernel_rfl) ⟨(by exact hf0), (by exact hf1), (by exact ⟨(basP_fit (orthB_P x0)), (basP_fit (orthB_P x1))⟩), (by exact (sumB_fit (basP_fit (orthB_P x0)))), trivial⟩ fun a w h => then_normal (wp_ret ?_)
  exact at_return ((orthB (sumB (orthB x0) (orthB x1))), ()) [] h (by kernel_rfl) trivial (congrArg (fun z => (z, ())) (show ((orthB (sumB (orthB x0) (orthB x1)))) = intB x0 x1 from by first | (unfold intB; rw [if_pos (by assumption)]; done) | (unfold intB; rw [if_neg (by simp_all)]; rfl)))

def D_laws_FnExactIntersectionOf := (fun (_ : T99) (_ : T99) => true)
abbrev Q_laws_FnExactIntersectionOf := (fun (x0 : T99) (x1 : T99) => Sh.i64 s99 x0 ∧ Sh.i64 s99 x1)
def S_laws_FnExactIntersectionOf : Sum := { fid := 7, dom := [s99, s99], cod := [(.bool 4)], dp := true, fz := false, pre := fun x => Q_laws_FnExactIntersectionOf x.1 x.2.1, g := fun x => ((D_laws_FnExactIntersectionOf x.1 x.2.1), ()) }
def S_laws_FnExactIntersectionOf_tab : List (Nat × Sum) := [(45, S_laws_szBasis), (47, S_laws_toBasis), (46, S_spec_IntersectionOf), (48, S_impl_IntersectionOf), (49, S_laws_eqBasis), (50, S_laws_markBasis), (51, S_laws_heldBasis)]
theorem S_laws_FnExactIntersectionOf_ok : FnOK Try.prog 7 S_laws_FnExactIntersectionOf := by
 refine at_enter 92 (fun x => ⟨[(0, aG [cI x.1.1, .ro s22 x.1.2]), (1, aG [cI x.2.1.1, .ro s22 x.2.1.2])], []⟩) Try.func7 rfl (by kernel_rfl) (fun x => rfl) ?_
 rintro w0 Z0 ⟨x0, x1, u⟩ a w
 revert x0 x1
 intro (x0 : T99) (x1 : T99) hpre hlens h
 replace hpre : Q_laws_FnExactIntersectionOf x0 x1 := hpre
 have hl1 : List.length x0.2 ≤ 9223372036854775807 := hlens.1.2.1
 have hl2 : List.length x1.2 ≤ 9223372036854775807 := hlens.2.1.2.1
 have hT : TabOK Try.prog S_laws_FnExactIntersectionOf_tab := (.cons S_laws_szBasis_ok (.cons S_laws_toBasis_ok (.cons S_spec_IntersectionOf_ok (.cons S_impl_IntersectionOf_ok (.cons S_laws_eqBasis_ok (.cons S_laws_markBasis_ok (.cons S_laws_heldBasis_ok .nil)))))))
 have hq0 : Sh.sz s101 x0 = Sh.sz s99 x0 := rfl
 have hb0 : Sh.ctT s101 x0 ≤ 2 * Sh.sz s101 x0 := Sh.ctT_le2 s101 x0
 have hz0 : Sh.ct s101 x0 ≤ 2 * (1 + Sh.sz s101 x0) := Sh.ct_le s101 x0
 have ht0 : Sh.sz s99 x0 = (0 + (Sh.sz s97 x0.2)) := rfl
 have hs0_1 : Sh.sz s97 x0.2 = List.length x0.2 + ctL (Sh.sz s22) x0.2 := rfl
 have hq1 : Sh.sz s101 x1 = Sh.sz s99 x1 := rfl
 have hb1 : Sh.ctT s101 x1 ≤ 2 * Sh.sz s101 x1 := Sh.ctT_le2 s101 x1
 have hz1 : Sh.ct s101 x1 ≤ 2 * (1 + Sh.sz s101 x1) := Sh.ct_le s101 x1
 have ht1 : Sh.sz s99 x1 = (0 + (Sh.sz s97 x1.2)) := rfl
 have hs1_1 : Sh.sz s97 x1.2 = List.length x1.2 + ctL (Sh.sz s22) x1.2 := rfl
 have hr1 : Sh.ctT s101 (intB x0 x1) ≤ 2 * Sh.sz s101 (intB x0 x1) := Sh.ctT_le2 s101 _
 have hr2 := basP_sz (intB_P x0 x1)
 refine wp_seq ?_
 refine at_regq [{ ids := [1] }, { ids := [2] }] { ts := [2, 3, 4], os := [1, 2] } [] gamOK hT h (by kernel_rfl) trivial fun a w h => then_normal (wp_seq ?_)
 refine at_regq [] { ts := [2, 3, 4, 5], os := [1, 2] } [] gamOK hT h (by kernel_rfl) trivial fun a w h => then_normal (wp_seq ?_)
 refine at_regq [] { ts := [2, 3, 4, 5], os := [1, 2] } [(pSz s99) x0 1048576] gamOK hT h (by kernel_rfl) ⟨(by (show (0 : Int) ≤ _ ∧ _ ≤ (9223372036854775807 : Int); constructor <;> omega)), trivial⟩ fun a w h => then_normal (wp_seq (wp_seq ?_))
 refine at_regq [] { ts := [2, 3, 4, 5, 18], os := [1, 2] } [] gamOK hT h (by kernel_rfl) trivial fun a w h => then_normal ?_
 refine at_test (decide (((szD s99) x0 1048576) < 0)) h (by kernel_rfl) (fun h1 => ?_) (fun h1 => ?_)
 ·replace h1 : ((szD s99) x0 1048576) < 0 := of_decide_eq_true h1
  have hvh1 := szD_neg h1 (by omega)
  refine wp_seq ?_
  refine at_regq [] { ts := [2, 3, 4, 5], os := [1, 2] } [] gamOK hT h (by kernel_rfl) trivial fun a w h => then_normal (wp_ret (then_ret ?_))
  exact at_return (true, ()) [] h (by kernel_rfl) trivial (congrArg (fun z => (z, ())) (show (true) = D_laws_FnExactIntersectionOf x0 x1 from by unfold D_laws_FnExactIntersectionOf; rfl))
 ·replace h1 : ¬ (((szD s99) x0 1048576) < 0) := of_decide_eq_false h1
  have hvh1 := szD_val h1 (by omega)
  refine wp_skip (then_normal (wp_seq ?_))
  refine at_regq [] { ts := [2, 3, 4, 5], os := [1, 2] } [(pSz s99) x1 ((szD s99) x0 1048576)] gamOK hT h (by kernel_rfl) ⟨(by (show (0 : Int) ≤ _ ∧ _ ≤ (9223372036854775807 : Int); constructor <;> omega)), trivial⟩ fun a w h => then_normal (wp_seq (wp_seq ?_))
  refine at_regq [] { ts := [2, 3, 4, 23], os := [1, 2] } [] gamOK hT h (by kernel_rfl) trivial fun a w h => then_normal ?_
  refine at_test (decide (((szD s99) x1 ((szD s99) x0 1048576)) < 0)) h (by kernel_rfl) (fun h2 => ?_) (fun h2 => ?_)
  ·replace h2 : ((szD s99) x1 ((szD s99) x0 1048576)) < 0 := of_decide_eq_true h2
   have hvh2 := szD_neg h2 (by omega)
   refine wp_seq ?_
   refine at_regq [] { ts := [2, 3, 4], os := [1, 2] } [] gamOK hT h (by kernel_rfl) trivial fun a w h => then_normal (wp_ret (then_ret ?_))
   exact at_return (true, ()) [] h (by kernel_rfl) trivial (congrArg (fun z => (z, ())) (show (true) = D_laws_FnExactIntersectionOf x0 x1 from by unfold D_laws_FnExactIntersectionOf; rfl))
  ·replace h2 : ¬ (((szD s99) x1 ((szD s99) x0 1048576)) < 0) := of_decide_eq_false h2
   have hvh2 := szD_val h2 (by omega)
   refine wp_skip (then_normal (wp_seq ?_))
   refine at_anyq [{}, { frz := true }, {}, { frz := true }, { ids := [3] }, { ids := [4] }, {}] { ts := [2, 3, 4, 6], os := [1, 2, 3, 4] } [(pTo s99) x0, (pTo s99) x1, Q_spec_IntersectionOf x0 x1] gamOK hT mixed h (by kernel_rfl) ⟨(by (show Sh.sz _ _ ≤ 1048576; omega)), (by (show Sh.sz _ _ ≤ 1048576; omega)), (by exact ⟨(Sh.fit_of_sz s101 rfl (x := x0) (by omega)), (Sh.fit_of_sz s101 rfl (x := x1) (by omega))⟩), trivial⟩ fun a w h => then_normal (wp_seq ?_)
   refine at_regq [{}, { ids := [5] }, { ids := [6] }] { ts := [2, 3, 4, 6, 7], os := [1, 2, 3, 4, 5, 6] } [(pTo s99) x0] gamOK hT h (by kernel_rfl) ⟨(by (show Sh.sz _ _ ≤ 1048576; omega)), trivial⟩ fun a w h => then_normal (wp_seq ?_)
   refine at_regq [{}, { ids := [7] }, { ids := [8] }] { ts := [2, 3, 4, 6, 7, 8], os := [1, 2, 3, 4, 5, 6, 7, 8] } [(pTo s99) x1] gamOK hT h (by kernel_rfl) ⟨(by (show Sh.sz _ _ ≤ 1048576; omega)), trivial⟩ fun a w h => then_normal (wp_seq ?_)
   refine at_regq [{}, {}, { ids := [9] }, { ids := [10] }] { ts := [2, 3, 4, 6, 7, 8, 9], os := [1, 2, 3, 4, 5, 6, 7, 8, 9, 10] } [Q_impl_IntersectionOf x0 x1] gamOK hT h (by kernel_rfl) ⟨(by exact ⟨(Sh.fit_of_sz s101 rfl (x := x0) (by omega)), (Sh.fit_of_sz s101 rfl (x := x1) (by omega))⟩), trivial⟩ fun a w h => then_normal (wp_seq (wp_seq ?_))
   refine at_regq [] { ts := [2, 3, 4, 6, 7, 8, 9, 39], os := [1, 2, 3, 4, 5, 6, 7, 8, 9, 10] } [True] gamOK hT h (by kernel_rfl) ⟨trivial, trivial⟩ fun a w h => then_normal ?_
   refine at_test (!((Sh.eqB s101) (intB x0 x1) (intB x0 x1))) h (by kernel_rfl) (fun h3 => ?_) (fun h3 => ?_)
   ·replace h3 : ((Sh.eqB s101) (intB x0 x1) (intB x0 x1)) = false := notT h3
    refine wp_seq ?_
    refine at_regq [] { ts := [2, 3, 4, 6, 7, 8, 9], os := [1, 2, 3, 4, 5, 6, 7, 8, 9, 10] } [] gamOK hT h (by kernel_rfl) trivial fun a w h => then_normal (wp_ret (then_ret ?_))
    exact at_return (false, ()) [] h (by kernel_rfl) trivial (congrArg (fun z => (z, ())) (show (false) = D_laws_FnExactIntersectionOf x0 x1 from by unfold D_laws_FnExactIntersectionOf; exact absurd ((Sh.eqB_iff _).2 (show _ = _ from by first | rfl | (rfl))) (neT h3)))
   ·replace h3 : ((Sh.eqB s101) (intB x0 x1) (intB x0 x1)) = true := notF h3
    refine wp_skip (then_normal (wp_seq (wp_seq ?_)))
    refine at_anyq [{}, {}, { ids := [11] }, {}, {}] { ts := [2, 3, 4, 6, 7, 8, 9, 44], os := [1, 2, 3, 4, 5, 6, 7, 8, 9, 10] } [(pTo s99) x0, True] gamOK hT mixed h (by kernel_rfl) ⟨(by (show Sh.sz _ _ ≤ 1048576; omega)), trivial, trivial⟩ fun a w h => then_normal ?_
    refine at_test (!((Sh.eqB s101) x0 x0)) h (by kernel_rfl) (fun h4 => ?_) (fun h4 => ?_)
    ·replace h4 : ((Sh.eqB s101) x0 x0) = false := notT h4
     refine wp_seq ?_
     refine at_regq [] { ts := [2, 3, 4, 6, 7, 8, 9], os := [1, 2, 3, 4, 5, 6, 7, 8, 9, 10] } [] gamOK hT h (by kernel_rfl) trivial fun a w h => then_normal (wp_ret (then_ret ?_))
     exact at_return (false, ()) [] h (by kernel_rfl) trivial (congrArg (fun z => (z, ())) (show (false) = D_laws_FnExactIntersectionOf x0 x1 from by unfold D_laws_FnExactIntersectionOf; exact absurd ((Sh.eqB_iff _).2 (show _ = _ from by first | rfl | (rfl))) (neT h4)))
    ·replace h4 : ((Sh.eqB s101) x0 x0) = true := notF h4
     refine wp_skip (then_normal (wp_seq (wp_seq ?_)))
     refine at_anyq [{}, {}, { ids := [12] }, {}, {}] { ts := [2, 3, 4, 6, 7, 8, 9, 49], os := [1, 2, 3, 4, 5, 6, 7, 8, 9, 10] } [(pTo s99) x1, True] gamOK hT mixed h (by kernel_rfl) ⟨(by (show Sh.sz _ _ ≤ 1048576; omega)), trivial, trivial⟩ fun a w h => then_normal ?_
     refine at_test (!((Sh.eqB s101) x1 x1)) h (by kernel_rfl) (fun h5 => ?_) (fun h5 => ?_)
     ·replace h5 : ((Sh.eqB s101) x1 x1) = false := notT h5
      refine wp_seq ?_
      refine at_regq [] { ts := [2, 3, 4, 6, 7, 8, 9], os := [1, 2, 3, 4, 5, 6, 7, 8, 9, 10] } [] gamOK hT h (by kernel_rfl) trivial fun a w h => then_normal (wp_ret (then_ret ?_))
      exact at_return (false, ()) [] h (by kernel_rfl) trivial (congrArg (fun z => (z, ())) (show (false) = D_laws_FnExactIntersectionOf x0 x1 from by unfold D_laws_FnExactIntersectionOf; exact absurd ((Sh.eqB_iff _).2 (show _ = _ from by first | rfl | (rfl))) (neT h5)))
     ·replace h5 : ((Sh.eqB s101) x1 x1) = true := notF h5
      refine wp_skip (then_normal (wp_seq ?_))
      refine at_regq [] { ts := [2, 3, 4, 6, 7, 8, 9, 10], os := [1, 2, 3, 4, 5, 6, 7, 8, 9, 10] } [] gamOK hT h (by kernel_rfl) trivial fun a w h => then_normal (wp_seq ?_)
      refine at_regq [] { ts := [2, 3, 4, 6, 8, 9, 10], os := [1, 2, 3, 4, 7, 8, 9, 10] } [(pMkT s101) x0 1] gamOK hT h (by kernel_rfl) ⟨(by (show (0 : Int) ≤ _ ∧ _ + ((Sh.ctT _ _ : Nat) : Int) ≤ (4611686018427387904 : Int); (try simp only [held_marked, held_markedT, mkK, mkKT, Sh.ctT_mkT, Sh.ct_mk]); constructor <;> omega)), trivial⟩ fun a w h => then_normal (wp_seq ?_)
      refine at_regq [] { ts := [2, 3, 4, 6, 9, 10], os := [1, 2, 3, 4, 9, 10] } [(pMkT s101) x1 ((mkKT s101) x0 1)] gamOK hT h (by kernel_rfl) ⟨(by (show (0 : Int) ≤ _ ∧ _ + ((Sh.ctT _ _ : Nat) : Int) ≤ (4611686018427387904 : Int); (try simp only [held_marked, held_markedT, mkK, mkKT, Sh.ctT_mkT, Sh.ct_mk]); constructor <;> omega)), trivial⟩ fun a w h => then_normal (wp_seq (wp_seq ?_))
      by_cases h6 : ((mkKT s101) x1 ((mkKT s101) x0 1)) < 0
      ·refine at_regq [{}, { hint := some (aB true) }] { ts := [2, 3, 4, 6, 9, 63], os := [1, 2, 3, 4, 9, 10] } [(AV.p (.c (.v (.bool (decide (((mkKT s101) x1 ((mkKT s101) x0 1)) < 0))))) = AV.p (.c (.v (.bool true))))] gamOK hT h (by kernel_rfl) ⟨hint_bool (decide_eq_true h6), trivial⟩ fun a w h => then_normal ?_
       refine at_test true h (by kernel_rfl) (fun hh => ?_) (fun hh => nomatch hh)
       refine wp_seq ?_
       refine at_regq [] { ts := [2, 3, 4, 6, 9], os := [1, 2, 3, 4, 9, 10] } [] gamOK hT h (by kernel_rfl) trivial fun a w h => then_normal (wp_ret (then_ret ?_))
       exact at_return (false, ()) [] h (by kernel_rfl) trivial (congrArg (fun z => (z, ())) (show (false) = D_laws_FnExactIntersectionOf x0 x1 from by unfold D_laws_FnExactIntersectionOf; (exfalso; simp only [mkK, mkKT, Sh.ctT_mkT, Sh.ct_mk] at h6; first | omega | exact h6 trivial | exact h6 rfl)))
      ·refine at_regq [{}, { hint := some (aB false) }] { ts := [2, 3, 4, 6, 9, 63], os := [1, 2, 3, 4, 9, 10] } [(AV.p (.c (.v (.bool (decide (((mkKT s101) x1 ((mkKT s101) x0 1)) < 0))))) = AV.p (.c (.v (.bool false)))), True] gamOK hT h (by kernel_rfl) ⟨hint_bool (decide_eq_false h6), trivial, trivial⟩ fun a w h => then_normal ?_
       refine at_test (!((Sh.eqB s101) (intB x0 x1) (intB x0 x1))) h (by kernel_rfl) (fun h7 => ?_) (fun h7 => ?_)
       ·replace h7 : ((Sh.eqB s101) (intB x0 x1) (intB x0 x1)) = false := notT h7
        refine wp_seq ?_
        refine at_regq [] { ts := [2, 3, 4, 6, 9], os := [1, 2, 3, 4, 9, 10] } [] gamOK hT h (by kernel_rfl) trivial fun a w h => then_normal (wp_ret (then_ret ?_))
        exact at_return (false, ()) [] h (by kernel_rfl) trivial (congrArg (fun z => (z, ())) (show (false) = D_laws_FnExactIntersectionOf x0 x1 from by unfold D_laws_FnExactIntersectionOf; exact absurd ((Sh.eqB_iff _).2 (show _ = _ from by first | rfl | (rfl))) (neT h7)))
       ·replace h7 : ((Sh.eqB s101) (intB x0 x1) (intB x0 x1)) = true := notF h7
        refine wp_skip (then_normal (wp_seq ?_))
        refine at_regq [] { ts := [2, 3, 4, 6, 9, 11], os := [1, 2, 3, 4, 9, 10] } [] gamOK hT h (by kernel_rfl) trivial fun a w h => then_normal (wp_seq ?_)
        refine at_regq [] { ts := [2, 3, 4, 6, 9, 11], os := [1, 2, 3, 4, 9, 10] } [(pMkT s101) (intB x0 x1) 1] gamOK hT h (by kernel_rfl) ⟨(by (show (0 : Int) ≤ _ ∧ _ + ((Sh.ctT _ _ : Nat) : Int) ≤ (4611686018427387904 : Int); (try simp only [held_marked, held_markedT, mkK, mkKT, Sh.ctT_mkT, Sh.ct_mk]); constructor <;> omega)), trivial⟩ fun a w h => then_normal (wp_seq ?_)
        refine at_regq [] { ts := [2, 3, 4, 6, 9, 11, 12], os := [1, 2, 3, 4, 9, 10] } [] gamOK hT h (by kernel_rfl) trivial fun a w h => then_normal (wp_seq ?_)
        refine at_regq [] { ts := [2, 3, 4, 6, 9, 11, 12], os := [1, 2, 3, 4, 9, 10] } [(pMkT s101) ((Sh.mkT s101) (intB x0 x1) 1) 1] gamOK hT h (by kernel_rfl) ⟨(by (show (0 : Int) ≤ _ ∧ _ + ((Sh.ctT _ _ : Nat) : Int) ≤ (4611686018427387904 : Int); (try simp only [held_marked, held_markedT, mkK, mkKT, Sh.ctT_mkT, Sh.ct_mk]); constructor <;> omega)), trivial⟩ fun a w h => then_normal (wp_seq (wp_seq ?_))
        refine at_regq [] { ts := [2, 3, 4, 6, 9, 11, 12, 71], os := [1, 2, 3, 4, 9, 10] } [] gamOK hT h (by kernel_rfl) trivial fun a w h => then_normal ?_
        refine at_test (decide (((heldDT s101) ((Sh.mkT s101) (intB x0 x1) 1) 1) < 0)) h (by kernel_rfl) (fun h8 => ?_) (fun h8 => ?_)
        ·replace h8 : ((heldDT s101) ((Sh.mkT s101) (intB x0 x1) 1) 1) < 0 := of_decide_eq_true h8
         refine wp_seq ?_
         refine at_regq [] { ts := [2, 3, 4, 6, 9, 11, 12], os := [1, 2, 3, 4, 9, 10] } [] gamOK hT h (by kernel_rfl) trivial fun a w h => then_normal (wp_ret (then_ret ?_))
         exact at_return (false, ()) [] h (by kernel_rfl) trivial (congrArg (fun z => (z, ())) (show (false) = D_laws_FnExactIntersectionOf x0 x1 from by unfold D_laws_FnExactIntersectionOf; (exfalso; simp only [held_marked, held_markedT, mkK, mkKT, Sh.ctT_mkT, Sh.ct_mk] at h8; first | omega | exact h8 trivial | exact h8 rfl)))
        ·replace h8 : ¬ (((heldDT s101) ((Sh.mkT s101) (intB x0 x1) 1) 1) < 0) := of_decide_eq_false h8
         refine wp_skip (then_normal (wp_seq (wp_seq ?_)))
         refine at_regq [] { ts := [2, 3, 4, 6, 9, 11, 74], os := [1, 2, 3, 4, 9, 10] } [] gamOK hT h (by kernel_rfl) trivial fun a w h => then_normal ?_
         refine at_test (!decide (((heldDT s101) ((Sh.mkT s101) (intB x0 x1) 1) 1) = ((mkKT s101) (intB x0 x1) 1))) h (by kernel_rfl) (fun h9 => ?_) (fun h9 => ?_)
         ·replace h9 : ¬ (((heldDT s101) ((Sh.mkT s101) (intB x0 x1) 1) 1) = ((mkKT s101) (intB x0 x1) 1)) := of_decide_eq_false (notT h9)
          refine wp_seq ?_
          refine at_regq [] { ts := [2, 3, 4, 6, 9, 11], os := [1, 2, 3, 4, 9, 10] } [] gamOK hT h (by kernel_rfl) trivial fun a w h => then_normal (wp_ret (then_ret ?_))
          exact at_return (false, ()) [] h (by kernel_rfl) trivial (congrArg (fun z => (z, ())) (show (false) = D_laws_FnExactIntersectionOf x0 x1 from by unfold D_laws_FnExactIntersectionOf; (exfalso; simp only [held_marked, held_markedT, mkK, mkKT, Sh.ctT_mkT, Sh.ct_mk] at h9; first | omega | exact h9 trivial | exact h9 rfl)))
         ·replace h9 : ((heldDT s101) ((Sh.mkT s101) (intB x0 x1) 1) 1) = ((mkKT s101) (intB x0 x1) 1) := of_decide_eq_true (notF h9)
          refine wp_skip (then_normal (wp_seq ?_))
          refine at_anyq [{}, { ids := [13] }, {}, { ids := [14] }, { ids := [15] }, { ids := [16] }, {}] { ts := [4, 6, 9, 11, 13], os := [3, 4, 9, 10, 15, 16] } [(pTo s99) x0, (pTo s99) x1, Q_impl_IntersectionOf x0 x1] gamOK hT mixed h (by kernel_rfl) ⟨(by (show Sh.sz _ _ ≤ 1048576; omega)), (by (show Sh.sz _ _ ≤ 1048576; omega)), (by exact ⟨(Sh.fit_of_sz s101 rfl (x := x0) (by omega)), (Sh.fit_of_sz s101 rfl (x := x1) (by omega))⟩), trivial⟩ fun a w h => then_normal (wp_seq (wp_seq ?_))
          refine at_regq [] { ts := [4, 9, 11, 83], os := [9, 10] } [True] gamOK hT h (by kernel_rfl) ⟨trivial, trivial⟩ fun a w h => then_normal ?_
          refine at_test (!((Sh.eqB s101) (intB x0 x1) (intB x0 x1))) h (by kernel_rfl) (fun h10 => ?_) (fun h10 => ?_)
          ·replace h10 : ((Sh.eqB s101) (intB x0 x1) (intB x0 x1)) = false := notT h10
           refine wp_seq ?_
           refine at_regq [] { ts := [4, 9, 11], os := [9, 10] } [] gamOK hT h (by kernel_rfl) trivial fun a w h => then_normal (wp_ret (then_ret ?_))
           exact at_return (false, ()) [] h (by kernel_rfl) trivial (congrArg (fun z => (z, ())) (show (false) = D_laws_FnExactIntersectionOf x0 x1 from by unfold D_laws_FnExactIntersectionOf; exact absurd ((Sh.eqB_iff _).2 (show _ = _ from by first | rfl | (rfl))) (neT h10)))
          ·replace h10 : ((Sh.eqB s101) (intB x0 x1) (intB x0 x1)) = true := notF h10
           refine wp_skip (then_normal (wp_seq ?_))
           refine at_regq [] { ts := [4, 9, 11, 12], os := [9, 10] } [] gamOK hT h (by kernel_rfl) trivial fun a w h => then_normal (wp_seq ?_)
           refine at_regq [] { ts := [4, 11, 12], os := [] } [(pMkT s101) ((Sh.mkT s101) (intB x0 x1) 1) 1] gamOK hT h (by kernel_rfl) ⟨(by (show (0 : Int) ≤ _ ∧ _ + ((Sh.ctT _ _ : Nat) : Int) ≤ (4611686018427387904 : Int); (try simp only [held_marked, held_markedT, mkK, mkKT, Sh.ctT_mkT, Sh.ct_mk]); constructor <;> omega)), trivial⟩ fun a w h => then_normal (wp_seq (wp_seq ?_))
           refine at_regq [] { ts := [4, 11, 12, 88], os := [] } [] gamOK hT h (by kernel_rfl) trivial fun a w h => then_normal ?_
           refine at_test (decide (((heldDT s101) ((Sh.mkT s101) (intB x0 x1) 1) 1) < 0)) h (by kernel_rfl) (fun h11 => ?_) (fun h11 => ?_)
           ·replace h11 : ((heldDT s101) ((Sh.mkT s101) (intB x0 x1) 1) 1) < 0 := of_decide_eq_true h11
            refine wp_seq ?_
            refine at_regq [] { ts := [4, 11, 12], os := [] } [] gamOK hT h (by kernel_rfl) trivial fun a w h => then_normal (wp_ret (then_ret ?_))
            exact at_return (false, ()) [] h (by kernel_rfl) trivial (congrArg (fun z => (z, ())) (show (false) = D_laws_FnExactIntersectionOf x0 x1 from by unfold D_laws_FnExactIntersectionOf; (exfalso; simp only [held_marked, held_markedT, mkK, mkKT, Sh.ctT_mkT, Sh.ct_mk] at h11; first | omega | exact h11 trivial | exact h11 rfl)))
           ·replace h11 : ¬ (((heldDT s101) ((Sh.mkT s101) (intB x0 x1) 1) 1) < 0) := of_decide_eq_false h11
            refine wp_skip (then_normal (wp_seq (wp_seq ?_)))
            refine at_regq [] { ts := [4, 91], os := [] } [] gamOK hT h (by kernel_rfl) trivial fun a w h => then_normal ?_
            refine at_test (!decide (((heldDT s101) ((Sh.mkT s101) (intB x0 x1) 1) 1) = ((mkKT s101) (intB x0 x1) 1))) h (by kernel_rfl) (fun h12 => ?_) (fun h12 => ?_)
            ·replace h12 : ¬ (((heldDT s101) ((Sh.mkT s101) (intB x0 x1) 1) 1) = ((mkKT s101) (intB x0 x1) 1)) := of_decide_eq_false (notT h12)
             refine wp_seq ?_
             refine at_regq [] { ts := [4], os := [] } [] gamOK hT h (by kernel_rfl) trivial fun a w h => then_normal (wp_ret (then_ret ?_))
             exact at_return (false, ()) [] h (by kernel_rfl) trivial (congrArg (fun z => (z, ())) (show (false) = D_laws_FnExactIntersectionOf x0 x1 from by unfold D_laws_FnExactIntersectionOf; (exfalso; simp only [held_marked, held_markedT, mkK, mkKT, Sh.ctT_mkT, Sh.ct_mk] at h12; first | omega | exact h12 trivial | exact h12 rfl)))
            ·replace h12 : ((heldDT s101) ((Sh.mkT s101) (intB x0 x1) 1) 1) = ((mkKT s101) (intB x0 x1) 1) := of_decide_eq_true (notF h12)
             refine wp_skip (then_normal (wp_seq ?_))
             refine at_regq [] { ts := [4], os := [] } [] gamOK hT h (by kernel_rfl) trivial fun a w h => then_normal (wp_ret ?_)
             exact at_return (true, ()) [] h (by kernel_rfl) trivial (congrArg (fun z => (z, ())) (show (true) = D_laws_FnExactIntersectionOf x0 x1 from by unfold D_laws_FnExactIntersectionOf; rfl))

theorem opn3 : OpensS Try.prog 3 (.int 3) := opensS_int Try.underlying3
theorem co3 : Try.prog.cellsOf 3 = 1 := by kernel_rfl
theorem opn22 : OpensS Try.prog 22 s22 := opensS_slice (a := (.int 3)) Try.underlying22 co3 opn3
theorem co22 : Try.prog.cellsOf 22 = 1 := by kernel_rfl
theorem opn97 : OpensS Try.prog 97 s97 := opensS_slice (a := s22) Try.underlying97 co22 opn22
theorem co97 : Try.prog.cellsOf 97 = 1 := by kernel_rfl
theorem co99 : Try.prog.cellsOf 99 = 2 := by kernel_rfl
theorem opn99 : OpensS Try.prog 99 s99 := by
  intro H enc w base spare held fuel cs x h
  obtain ⟨xs, n, _, _, hl, hlen, hf⟩ := DataW.trod_struct Try.underlying99 h
  obtain ⟨a0, k0, i0⟩ := opensS_field (a := (.int 3)) (i := 0) 0 1 hf hlen rfl rfl rfl co3 opn3
  obtain ⟨a1, k1, i1⟩ := opensS_field (a := s97) (i := 1) 1 1 hf hlen rfl rfl rfl co97 opn97
  rw [co99] at hl
  exact ⟨(a0, a1), (rdS_pair (off := 0) k0 (rdS_last (off := 1) k1 (by omega))), ⟨i0, i1⟩⟩
namespace fnExactIntersectionOf
open Go.ChangeShapes Go.WideShapes Go.ChangeAt Go.RowKit
theorem own : ownKnob Try.prog.godebug = none := by kernel_rfl
theorem laidOut : laidOutB Try.prog = true := fxLaid
set_option maxRecDepth 100000 in
theorem lifted (os : Os) (started : os.Started) (H : Type) (enc : TypeId × Value → H) :
    ReturnsInHanded {} Try.checked os 7 .any (Rows.fnExactIntersectionOfSpec.pre6 enc Try.prog Try.f7 Rows.fnExactIntersectionOfRow.domain false) (Rows.fnExactIntersectionOfSpec.post enc Try.prog Try.f7 false true false false) := by
  refine returnsInHanded_of_change (C := Try.checked) own started (by kernel_rfl) Try.func7
    (ChangeSpec.witness6 (enc := enc) (C := Try.checked) false ⟨#[], #[.agg #[.int .i64 0, .slice none 0 0], .agg #[.int .i64 0, .slice none 0 0]], []⟩ 8 (by kernel_rfl) (by kernel_rfl) (by kernel_rfl) (by kernel_rfl)) ?_
  intro W base args ds gs before hval0 hW hcnd _
  have hval : ∀ (j : Nat) t v, Try.f7.params[j]? = some t → args[j]? = some v → Value.okWide Try.prog W .any base t v := hval0
  have hW' := hW
  obtain ⟨p, q, hA0, hV, rfl, hfz, hnd⟩ := hW
  have hA : DataW.TrodAll enc Try.prog W 0 (fun _ => true) true Try.f7.params.toList args.toList ds p := hA0
  rw [Try.params7] at hA hval
  obtain ⟨v0, vs0, d0, ds0, p0, q0, hargs, rfl, rfl, h0, r0⟩ := trodAll_cons hA
  obtain ⟨v1, vs1, d1, ds1, p1, q1, rfl, rfl, rfl, h1, r1⟩ := trodAll_cons r0
  obtain ⟨rfl, rfl, rfl⟩ := trodAll_nil r1
  obtain rfl : args = #[v0, v1] := by cases args; simp_all
  obtain ⟨rfl, rfl⟩ := trodVars_none hV
  have k0 := h0
  have lt0 : ∀ x ∈ p0, x.block < W.heap.size := by obtain ⟨m, hm⟩ := k0; exact DataW.trod_lt m _ _ _ hm
  obtain ⟨cs0, rfl, _⟩ := okWide_struct Try.underlying99 (hval 0 99 v0 rfl rfl)
  obtain ⟨cs0⟩ := cs0
  obtain ⟨x0, hx0, i0⟩ : ∃ x : (s99).D, (s99).rd W (fun b => b < W.heap.size) cs0 x ∧ (s99).i64 x := by obtain ⟨fuel, hf⟩ := h0; exact opn99 hf
  have k1 := h1
  have lt1 : ∀ x ∈ p1, x.block < W.heap.size := by obtain ⟨m, hm⟩ := k1; exact DataW.trod_lt m _ _ _ hm
  obtain ⟨cs1, rfl, _⟩ := okWide_struct Try.underlying99 (hval 1 99 v1 rfl rfl)
  obtain ⟨cs1⟩ := cs1
  obtain ⟨x1, hx1, i1⟩ : ∃ x : (s99).D, (s99).rd W (fun b => b < W.heap.size) cs1 x ∧ (s99).i64 x := by obtain ⟨fuel, hf⟩ := h1; exact opn99 hf
  clear hA0 hval0
  refine (calls_law S_laws_FnExactIntersectionOf_ok (by kernel_rfl) W (fun b => b < W.heap.size) [.agg cs0.toArray, .agg cs1.toArray] (x0, x1, ()) (fun _ h => h) ⟨argRd_st hx0, argRd_st hx1, trivial⟩ ⟨i0, i1⟩).mono fun e W' hr => ?_
  obtain ⟨he, bel⟩ := ret_bool hr
  subst he
  exact ⟨_, rfl, _, _, _, [], _, [], hW', trodAll_mk1 (shut_bool Try.underlying4 _), (trodAll_cons_mk (Below.trod laidOut (by kernel_rfl) (of_decide_eq_true (by kernel_rfl)) k0 bel lt0) (trodAll_cons_mk (Below.trod laidOut (by kernel_rfl) (of_decide_eq_true (by kernel_rfl)) k1 bel lt1) trodAll_mk0)), rfl, bel.frame _, fun h => by cases h⟩
theorem closed : joinedFacts Try.prog 7 Try.f7 (Rows.fnExactIntersectionOfSpec) Rows.fnExactIntersectionOfRow = true := by
  unfold joinedFacts
  exact (and2 (and2 (and2 (and2 (and2 (and2 (and2 (and2 (and2 (and2 (and2 (and2 (and2 (and2 (and2 (and2 (and2 (and2 (and2 (and2 (and2 (and2 (and2 (and2 (and2 (and2 (and2 (and2 (and2 (and2 (and2 (by kernel_rfl) fxLaid) fxMaps) (by kernel_rfl)) (by kernel_rfl)) (by kernel_rfl)) (by kernel_rfl)) (by kernel_rfl)) (by kernel_rfl)) (by kernel_rfl)) (by kernel_rfl)) (by kernel_rfl)) (by kernel_rfl)) (by kernel_rfl)) (by kernel_rfl)) (by kernel_rfl)) (by kernel_rfl)) (by kernel_rfl)) (by kernel_rfl)) (by kernel_rfl)) (by kernel_rfl)) (by kernel_rfl)) (by kernel_rfl)) (by kernel_rfl)) (by kernel_rfl)) fxEnter) (by rw [fxLifts]; kernel_rfl)) (by rw [fxMake]; kernel_rfl)) (by kernel_rfl)) (by kernel_rfl)) (by kernel_rfl)) (by kernel_rfl))
theorem over : Rows.fnExactIntersectionOfRow.holds Try.pinned (OpenSpec.ofChange Rows.fnExactIntersectionOfSpec) :=
  OpenClaim.holds_of_wide 7 Try.f7 rfl rfl rfl rfl rfl rfl rfl ⟨rfl, rfl, rfl, rfl, rfl⟩ rfl rfl rfl rfl rfl (by kernel_rfl) Try.func7 closed
    (of_decide_eq_true (by kernel_rfl)) (by unfold Func.isWrapper; first | (rw [if_pos (by decide +kernel)]; kernel_rfl) | (rw [if_neg (by decide +kernel)]; exact ⟨rfl, rfl⟩))
    (fun os started H enc _ => lifted os started H enc)
/-- the statement -/
theorem proved : Rows.FnExactIntersectionOfSaid := over
end fnExactIntersectionOf

end Go.Proofs.Ytdmkjcnppgfeoaa
