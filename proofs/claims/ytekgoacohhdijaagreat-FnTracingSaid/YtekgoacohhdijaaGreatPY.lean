/- Data of a fit size: no list in it is longer than 2^30. No program is named; no condition. -/
import Derived.Test.YtekgoacohhdijaaGreatPX
namespace Go.Proofs.YtekgoacohhdijaaGreat
open Go.RowKit
set_option linter.unusedVariables false
set_option linter.unusedSimpArgs false
def Sh.fit : (s : Sh) → s.D → Prop
 | .int _, _ => True
 | .bool _, _ => True
 | .u8 _, _ => True
 | .str _, _ => True
 | .pair a b, x => a.fit x.1 ∧ b.fit x.2
 | .st _ a, x => a.fit x
 | .sl _ a, xs => List.length (α := a.D) xs ≤ 1073741824 ∧ ∀ x : a.D, List.Mem x xs → a.fit x
 | .fn0 _, _ => True
 | .fn _ a, x => a.fit x
 | .pt a, x => a.fit x
theorem Sh.fit_z : ∀ (s : Sh), s.fit s.z
 | .int _ | .bool _ | .u8 _ | .str _ | .fn0 _ => trivial
 | .pair a b => ⟨a.fit_z, b.fit_z⟩
 | .st _ a => a.fit_z
 | .fn _ a => a.fit_z
 | .pt a => a.fit_z
 | .sl _ a => ⟨Nat.zero_le _, fun x h => nomatch h⟩
theorem Sh.fit_nil {t : Nat} {s : Sh} : (Sh.sl t s).fit ([] : List s.D) := ⟨Nat.zero_le _, fun x h => nomatch h⟩
theorem Sh.fit_getD {t : Nat} {s : Sh} {xs : List s.D} (h : (Sh.sl t s).fit xs) (i : Nat) : s.fit (xs.getD i s.z) := by
 rcases Nat.lt_or_ge i xs.length with hi | hi
 ·exact h.2 _ (getD_mem hi)
 ·have e : xs.getD i s.z = s.z := by simp [List.getD, hi]
  rw [e]; exact s.fit_z
theorem Sh.fit_sub {t : Nat} {s : Sh} {xs ys : List s.D} (h : (Sh.sl t s).fit xs) (hl : ys.length ≤ xs.length) (hm : ∀ x ∈ ys, x ∈ xs) : (Sh.sl t s).fit ys := ⟨Nat.le_trans hl h.1, fun x hx => h.2 x (hm x hx)⟩
theorem Sh.fit_take {t : Nat} {s : Sh} {xs : List s.D} (h : (Sh.sl t s).fit xs) (i : Nat) : (Sh.sl t s).fit (List.take i xs) := Sh.fit_sub h (by simp; omega) fun x hx => List.mem_of_mem_take hx
theorem Sh.fit_drop {t : Nat} {s : Sh} {xs : List s.D} (h : (Sh.sl t s).fit xs) (i : Nat) : (Sh.sl t s).fit (List.drop i xs) := Sh.fit_sub h (by simp) fun x hx => List.mem_of_mem_drop hx
theorem Sh.fit_flat : ∀ (s : Sh), s.plain = true → ∀ x : s.D, s.fit x
 | .int _, _, _ | .bool _, _, _ | .u8 _, _, _ | .str _, _, _ => trivial
 | .pair a b, h, x => by
  simp only [Sh.plain, Bool.and_eq_true] at h
  exact ⟨a.fit_flat h.1 x.1, b.fit_flat h.2 x.2⟩
 | .st _ a, h, x => a.fit_flat h x
 | .fn _ _, h, _ | .fn0 _, h, _ | .pt _, h, _ | .sl _ _, h, _ => by cases h
theorem Sh.fit_len {t : Nat} {s : Sh} (hs : s.plain = true) {xs : List s.D} (h : xs.length ≤ 1073741824) : (Sh.sl t s).fit xs := ⟨h, fun x _ => s.fit_flat hs x⟩
theorem ctL_mem {α : Type} {c : α → Nat} {x : α} : ∀ {xs : List α}, x ∈ xs → c x ≤ ctL c xs
 | y :: l, h => by
  rcases List.mem_cons.1 h with rfl | h
  ·simp [ctL]
  ·have := ctL_mem (c := c) h; simp only [ctL]; omega
theorem Sh.fit_of_sz : ∀ (s : Sh), s.data = true → ∀ {x : s.D}, s.sz x ≤ 1073741824 → s.fit x
 | .int _, _, _, _ | .bool _, _, _, _ | .u8 _, _, _, _ | .str _, _, _, _ => trivial
 | .pair a b, hd, x, h => by
  simp only [Sh.data, Bool.and_eq_true] at hd
  have h : a.sz x.1 + b.sz x.2 ≤ 1073741824 := h
  exact ⟨a.fit_of_sz hd.1 (by omega), b.fit_of_sz hd.2 (by omega)⟩
 | .st _ a, hd, x, h => a.fit_of_sz hd h
 | .fn _ a, hd, x, h | .pt a, hd, x, h => by cases hd
 | .fn0 _, hd, _, _ => by cases hd
 | .sl _ a, hd, xs, h => by
  have h : List.length (α := a.D) xs + ctL a.sz xs ≤ 1073741824 := h
  exact ⟨by omega, fun x hx => a.fit_of_sz hd (Nat.le_trans (ctL_mem (c := a.sz) hx) (by omega))⟩
theorem tmod_bd {p q : Int} (h : 0 < q) : -q < p.tmod q ∧ p.tmod q < q := ⟨Int.lt_tmod_of_pos p h, Int.tmod_lt_of_pos p h⟩
theorem tmod_f (p m : Int) : 0 < m → ((-m < p.tmod m ∧ p.tmod m < m) ∧ (0 ≤ p → p.tmod m = p % m)) := fun h =>
 ⟨tmod_bd h, fun hp => Int.tmod_eq_emod_of_nonneg hp⟩
theorem mul_f (a b : Int) : (0 ≤ a ∧ a ≤ 2147483647 ∧ 0 ≤ b ∧ b ≤ 2147483647) → (0 ≤ a * b ∧ a * b ≤ 4611686014132420609 ∧ (a ≤ 2039 ∧ b ≤ 2039 → a * b ≤ 4157521)) := fun ⟨h1, h2, h3, h4⟩ =>
 ⟨Int.mul_nonneg h1 h3, by have := Int.mul_le_mul h2 h4 h3 (by omega); omega, fun ⟨h5, h6⟩ => by have := Int.mul_le_mul h5 h6 h3 (by omega); omega⟩
theorem tmod_v (p m : Int) : 0 < m → ((-m < p.tmod m ∧ p.tmod m < m) ∧ (0 ≤ p → 0 ≤ p.tmod m ∧ p.tmod m ≤ p)) := fun h =>
 ⟨tmod_bd h, fun hp => ⟨Int.tmod_nonneg m hp, by
  rw [Int.tmod_eq_emod_of_nonneg hp]
  have h1 := Int.mul_ediv_add_emod p m
  have h2 := Int.mul_nonneg (Int.le_of_lt h) (Int.ediv_nonneg hp (Int.le_of_lt h))
  omega⟩⟩
end Go.Proofs.YtekgoacohhdijaaGreat
