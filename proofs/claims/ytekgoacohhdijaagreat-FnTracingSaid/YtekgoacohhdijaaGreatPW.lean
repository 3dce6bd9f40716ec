/- Plain data: equality, sizes, marks. No program is named; no condition. -/
import Derived.Test.YtekgoacohhdijaaGreatPS
namespace Go.Proofs.YtekgoacohhdijaaGreat
open Go.RowKit
set_option linter.unusedVariables false
set_option linter.unusedSimpArgs false
theorem notF {b : Bool} (h : (!b) = false) : b = true := by cases b <;> simp_all
theorem notT {b : Bool} (h : (!b) = true) : b = false := by cases b <;> simp_all
theorem neT {b : Bool} (h : b = false) : ¬ b = true := by rw [h]; decide
theorem ndT {p : Prop} [Decidable p] (h : p) : (!decide p) = false := by rw [decide_eq_true h]; rfl
theorem ndF {p : Prop} [Decidable p] (h : ¬ p) : (!decide p) = true := by rw [decide_eq_false h]; rfl
section
variable {α : Type}
def copyTo (z : α) (xs : List α) (i : Nat) : List α := xs.take i ++ List.replicate (xs.length - i) z
theorem copyTo_len {z : α} {xs : List α} {i : Nat} (h : i ≤ xs.length) : (copyTo z xs i).length = xs.length := by simp [copyTo]; omega
theorem copyTo_set {z : α} {xs : List α} {i : Nat} (h : i < xs.length) : (copyTo z xs i).set i (xs.getD i z) = copyTo z xs (i + 1) := by
 unfold copyTo
 rw [List.set_append_right _ _ (by simp; omega)]
 simp only [List.length_take, Nat.min_eq_left (Nat.le_of_lt h), Nat.sub_self]
 rw [show xs.length - i = xs.length - (i + 1) + 1 by omega, List.replicate_succ, List.set_cons_zero, List.take_succ_eq_append_getElem h, List.append_assoc, List.getD_eq_getElem?_getD, List.getElem?_eq_getElem h]
 rfl
theorem copyTo_zero {z : α} {xs : List α} : List.replicate xs.length z = copyTo z xs 0 := by simp [copyTo]
theorem copyTo_all {z : α} {xs : List α} {i : Nat} (h : xs.length ≤ i) : copyTo z xs i = xs := by simp [copyTo, List.take_of_length_le h, Nat.sub_eq_zero_of_le h]
theorem getD_of_lt {xs : List α} {i : Nat} {z : α} (h : i < xs.length) : xs.getD i z = xs[i] := by simp [List.getD, h]
theorem take_snoc {xs : List α} {i : Nat} {z : α} (h : i < xs.length) : xs.take (i + 1) = xs.take i ++ [xs.getD i z] := by rw [List.take_succ_eq_append_getElem h, getD_of_lt h]
theorem getD_mem {xs : List α} {i : Nat} {z : α} (h : i < xs.length) : xs.getD i z ∈ xs := by rw [getD_of_lt h]; exact List.getElem_mem h
theorem getD_set {xs : List α} {i : Nat} {a z : α} (h : i < xs.length) : (xs.set i a).getD i z = a := by simp [List.getD_eq_getElem?_getD, h]
theorem eqTo_step {z : α} {xs ys : List α} {i : Nat} (hl : xs.length = ys.length) (h : i < xs.length) (ht : xs.take i = ys.take i) (he : xs.getD i z = ys.getD i z) : xs.take (i + 1) = ys.take (i + 1) := by
 rw [take_snoc (z := z) h, take_snoc (z := z) (hl ▸ h), ht, he]
theorem take_all {xs : List α} {i : Nat} (h : xs.length ≤ i) : xs.take i = xs := List.take_of_length_le h
def ctL (c : α → Nat) : List α → Nat
 | [] => 0
 | x :: l => c x + ctL c l
def mkL (f : α → Int → α) (c : α → Nat) : Int → List α → List α
 | _, [] => []
 | k, x :: l => f x k :: mkL f c (k + c x) l
theorem ctL_append {c : α → Nat} : ∀ {xs ys : List α}, ctL c (xs ++ ys) = ctL c xs + ctL c ys
 | [], _ => by simp [ctL]
 | x :: l, ys => by simp only [List.cons_append, ctL, ctL_append (xs := l)]; omega
theorem ctL_take_succ {c : α → Nat} {xs : List α} {i : Nat} {z : α} (h : i < xs.length) : ctL c (xs.take (i + 1)) = ctL c (xs.take i) + c (xs.getD i z) := by
 rw [take_snoc (z := z) h, ctL_append]; simp [ctL]
theorem ctL_take_le {c : α → Nat} {xs : List α} (i : Nat) : ctL c (xs.take i) ≤ ctL c xs := by
 have : ctL c xs = ctL c (xs.take i) + ctL c (xs.drop i) := by rw [← ctL_append, List.take_append_drop]
 omega
theorem ctL_at_le {c : α → Nat} {xs : List α} {i : Nat} {z : α} (h : i < xs.length) : ctL c (xs.take i) + c (xs.getD i z) ≤ ctL c xs := by
 rw [← ctL_take_succ h]; exact ctL_take_le _
theorem mkL_len {f : α → Int → α} {c : α → Nat} : ∀ {xs : List α} {k : Int}, (mkL f c k xs).length = xs.length
 | [], _ => rfl
 | _ :: l, _ => by simp [mkL, mkL_len (xs := l)]
theorem mkL_append {f : α → Int → α} {c : α → Nat} : ∀ {xs ys : List α} {k : Int}, mkL f c k (xs ++ ys) = mkL f c k xs ++ mkL f c (k + ctL c xs) ys
 | [], _, _ => by simp [mkL, ctL]
 | x :: l, ys, k => by
  simp only [List.cons_append, mkL, ctL, mkL_append (xs := l)]
  rw [show k + (c x : Int) + (ctL c l : Int) = k + ((c x + ctL c l : Nat) : Int) by omega]
def mkAt (f : α → Int → α) (c : α → Nat) (k : Int) (xs : List α) (i : Nat) : List α := mkL f c k (xs.take i) ++ xs.drop i
theorem mkAt_len {f : α → Int → α} {c : α → Nat} {k : Int} {xs : List α} {i : Nat} : (mkAt f c k xs i).length = xs.length := by simp [mkAt, mkL_len]; omega
theorem mkAt_get {f : α → Int → α} {c : α → Nat} {k : Int} {xs : List α} {i : Nat} {z : α} (h : i < xs.length) : (mkAt f c k xs i).getD i z = xs.getD i z := by
 unfold mkAt
 rw [List.getD_eq_getElem?_getD, List.getElem?_append_right (by simp [mkL_len]; omega), List.getElem?_drop, List.getD_eq_getElem?_getD]
 simp only [mkL_len, List.length_take, Nat.min_eq_left (Nat.le_of_lt h), Nat.sub_self, Nat.add_zero]
theorem mkAt_set {f : α → Int → α} {c : α → Nat} {k : Int} {xs : List α} {i : Nat} {z : α} (h : i < xs.length) : (mkAt f c k xs i).set i (f (xs.getD i z) (k + ctL c (xs.take i))) = mkAt f c k xs (i + 1) := by
 unfold mkAt
 rw [List.set_append_right _ _ (by simp [mkL_len]; omega), take_snoc (z := z) h, mkL_append, List.append_assoc]
 congr 1
 simp only [mkL_len, List.length_take, Nat.min_eq_left (Nat.le_of_lt h), Nat.sub_self]
 rw [← List.getElem_cons_drop h, List.set_cons_zero]
 rfl
theorem mkAt_set' {f : α → Int → α} {c : α → Nat} {k : Int} {xs : List α} {i : Nat} {z y : α} (h : i < xs.length) (hy : y = f (xs.getD i z) (k + ctL c (xs.take i))) : (mkAt f c k xs i).set i y = mkAt f c k xs (i + 1) := by rw [hy]; exact mkAt_set h
theorem mkAt_zero {f : α → Int → α} {c : α → Nat} {k : Int} {xs : List α} : mkAt f c k xs 0 = xs := by simp [mkAt, mkL]
theorem mkAt_all {f : α → Int → α} {c : α → Nat} {k : Int} {xs : List α} {i : Nat} (h : xs.length ≤ i) : mkAt f c k xs i = mkL f c k xs := by simp [mkAt, List.take_of_length_le h, List.drop_eq_nil_of_le h]
theorem mkL_step {f : α → Int → α} {c : α → Nat} {k : Int} {xs : List α} {i : Nat} {z : α} (h : i < xs.length) (ht : mkL f c k (xs.take i) = xs.take i) (he : f (xs.getD i z) (k + ctL c (xs.take i)) = xs.getD i z) : mkL f c k (xs.take (i + 1)) = xs.take (i + 1) := by
 rw [take_snoc (z := z) h, mkL_append, ht]
 simp only [mkL, he]
theorem mkL_at {f : α → Int → α} {c : α → Nat} {z : α} : ∀ {xs : List α} {k : Int} {i : Nat}, i < xs.length → (mkL f c k xs).getD i z = f (xs.getD i z) (k + ctL c (xs.take i))
 | [], _, _, h => by simp at h
 | x :: l, k, 0, _ => by simp [mkL, ctL]
 | x :: l, k, i + 1, h => by
  simp only [mkL, List.getD_cons_succ, List.take_succ_cons, ctL]
  rw [mkL_at (by simpa using h)]
  rw [show k + (c x : Int) + (ctL c (l.take i) : Int) = k + ((c x + ctL c (l.take i) : Nat) : Int) by omega]
theorem mkL_get {f : α → Int → α} {c : α → Nat} {k : Int} {xs : List α} {i : Nat} {z : α} (e : mkL f c k xs = xs) (h : i < xs.length) : f (xs.getD i z) (k + ctL c (xs.take i)) = xs.getD i z := by
 have := mkL_at (f := f) (c := c) (k := k) (z := z) h
 rw [e] at this; exact this.symm
theorem ctL_mk {f : α → Int → α} {c : α → Nat} (h : ∀ x k, c (f x k) = c x) : ∀ {xs : List α} {k : Int}, ctL c (mkL f c k xs) = ctL c xs
 | [], _ => rfl
 | x :: l, k => by simp only [mkL, ctL, h, ctL_mk h (xs := l)]
theorem mkL_mk {f : α → Int → α} {c : α → Nat} (h : ∀ x k, c (f x k) = c x) (h' : ∀ x k, f (f x k) k = f x k) : ∀ {xs : List α} {k : Int}, mkL f c k (mkL f c k xs) = mkL f c k xs
 | [], _ => rfl
 | x :: l, k => by simp only [mkL, h, h', mkL_mk h h' (xs := l)]
def eqL (e : α → α → Bool) : List α → List α → Bool
 | [], [] => true
 | x :: l, y :: l' => e x y && eqL e l l'
 | _, _ => false
theorem eqL_iff {e : α → α → Bool} (h : ∀ x y, e x y = true ↔ x = y) : ∀ {xs ys : List α}, eqL e xs ys = true ↔ xs = ys
 | [], [] => by simp [eqL]
 | [], _ :: _ => by simp [eqL]
 | _ :: _, [] => by simp [eqL]
 | x :: l, y :: l' => by simp [eqL, h, eqL_iff h (xs := l)]
end
def Sh.ct : (s : Sh) → s.D → Nat
 | .pair a b, x => a.ct x.1 + b.ct x.2
 | .st _ a, x => a.ct x
 | .sl _ a, xs => ctL a.ct xs
 | .fn0 _, _ | .fn _ _, _ | .pt _, _ => 0
 | _, _ => 1
def Sh.mk : (s : Sh) → s.D → Int → s.D
 | .int _, _, k => k
 | .bool _, b, _ => b
 | .u8 _, _, k => IntKind.u8.wrap k
 | .str _, b, _ => b
 | .pair a b, x, k => (a.mk x.1 k, b.mk x.2 (k + a.ct x.1))
 | .st _ a, x, k => a.mk x k
 | .sl _ a, xs, k => mkL a.mk a.ct k xs
 | .fn0 _, x, _ | .fn _ _, x, _ | .pt _, x, _ => x
def Sh.ctT : (s : Sh) → s.D → Nat
 | .pair a b, x => a.ctT x.1 + b.ctT x.2
 | .st _ a, x => a.ctT x
 | .sl _ a, xs => ctL a.ct xs
 | _, _ => 0
def Sh.mkT : (s : Sh) → s.D → Int → s.D
 | .pair a b, x, k => (a.mkT x.1 k, b.mkT x.2 (k + a.ctT x.1))
 | .st _ a, x, k => a.mkT x k
 | .sl _ a, xs, k => mkL a.mk a.ct k xs
 | .int _, x, _ | .bool _, x, _ | .u8 _, x, _ | .str _, x, _ | .fn0 _, x, _ | .fn _ _, x, _ | .pt _, x, _ => x
def Sh.sz : (s : Sh) → s.D → Nat
 | .pair a b, x => a.sz x.1 + b.sz x.2
 | .st _ a, x => a.sz x
 | .sl _ a, xs => List.length (α := a.D) xs + ctL a.sz xs
 | _, _ => 0
def Sh.mx : Sh → Nat
 | .pair a b => a.mx + b.mx
 | .st _ a => a.mx
 | .sl _ a => a.mx
 | _ => 1
def Sh.eqB : (s : Sh) → s.D → s.D → Bool
 | .int _, (x : Int), (y : Int) => decide (x = y)
 | .bool _, (x : Bool), (y : Bool) => decide (x = y)
 | .u8 _, (x : Int), (y : Int) => decide (x = y)
 | .str _, (x : ByteArray), (y : ByteArray) => decide (x = y)
 | .pair a b, x, y => a.eqB x.1 y.1 && b.eqB x.2 y.2
 | .st _ a, x, y => a.eqB x y
 | .sl _ a, xs, ys => eqL a.eqB xs ys
 | .fn0 _, _, _ => true
 | .fn _ a, x, y => a.eqB x y
 | .pt a, x, y => a.eqB x y
theorem Sh.eqB_iff : ∀ (s : Sh) {x y : s.D}, s.eqB x y = true ↔ x = y
 | .int _, x, y => by show decide ((x : Int) = y) = true ↔ _; exact decide_eq_true_iff
 | .bool _, x, y => by show decide ((x : Bool) = y) = true ↔ _; exact decide_eq_true_iff
 | .u8 _, x, y => by show decide ((x : Int) = y) = true ↔ _; exact decide_eq_true_iff
 | .str _, x, y => by show decide ((x : ByteArray) = y) = true ↔ _; exact decide_eq_true_iff
 | .pair a b, (x1, x2), (y1, y2) => by
  show (a.eqB x1 y1 && b.eqB x2 y2) = true ↔ _
  rw [Bool.and_eq_true, a.eqB_iff, b.eqB_iff]
  exact ⟨fun h => by rw [h.1, h.2], fun h => by cases h; exact ⟨rfl, rfl⟩⟩
 | .st _ a, x, y => a.eqB_iff
 | .sl _ a, xs, ys => eqL_iff (fun _ _ => a.eqB_iff)
 | .fn0 _, x, y => by simp [Sh.eqB]
 | .fn _ a, x, y => a.eqB_iff
 | .pt a, x, y => a.eqB_iff
theorem Sh.eqB_self (s : Sh) (x : s.D) : s.eqB x x = true := s.eqB_iff.2 rfl
theorem Sh.eqB_ne {s : Sh} {x y : s.D} (h : x ≠ y) : s.eqB x y = false := by
 cases he : s.eqB x y with
 | false => rfl
 | true => exact absurd (s.eqB_iff.1 he) h
theorem Sh.of_eqB {s : Sh} {x y : s.D} (h : s.eqB x y = true) : x = y := s.eqB_iff.1 h
theorem Sh.of_eqB_ne {s : Sh} {x y : s.D} (h : s.eqB x y = false) : x ≠ y := fun e => by rw [e, s.eqB_self] at h; cases h
theorem Sh.ct_mk : ∀ (s : Sh) (x : s.D) (k : Int), s.ct (s.mk x k) = s.ct x
 | .int _, _, _ | .bool _, _, _ | .u8 _, _, _ | .str _, _, _ | .fn0 _, _, _ | .fn _ _, _, _ | .pt _, _, _ => rfl
 | .pair a b, x, k => by show a.ct (a.mk x.1 k) + b.ct (b.mk x.2 _) = _; rw [a.ct_mk, b.ct_mk]; rfl
 | .st _ a, x, k => a.ct_mk x k
 | .sl _ a, xs, k => ctL_mk a.ct_mk
theorem Sh.mk_mk : ∀ (s : Sh) (x : s.D) (k : Int), s.mk (s.mk x k) k = s.mk x k
 | .int _, _, _ | .bool _, _, _ | .str _, _, _ | .fn0 _, _, _ | .fn _ _, _, _ | .pt _, _, _ => rfl
 | .u8 _, _, k => rfl
 | .pair a b, x, k => by
  show (a.mk (a.mk x.1 k) k, b.mk (b.mk x.2 (k + a.ct x.1)) (k + a.ct (a.mk x.1 k))) = _
  rw [a.mk_mk, a.ct_mk, b.mk_mk]; rfl
 | .st _ a, x, k => a.mk_mk x k
 | .sl _ a, xs, k => mkL_mk a.ct_mk a.mk_mk
theorem Sh.ctT_mkT : ∀ (s : Sh) (x : s.D) (k : Int), s.ctT (s.mkT x k) = s.ctT x
 | .int _, _, _ | .bool _, _, _ | .u8 _, _, _ | .str _, _, _ | .fn0 _, _, _ | .fn _ _, _, _ | .pt _, _, _ => rfl
 | .pair a b, x, k => by show a.ctT (a.mkT x.1 k) + b.ctT (b.mkT x.2 _) = _; rw [a.ctT_mkT, b.ctT_mkT]; rfl
 | .st _ a, x, k => a.ctT_mkT x k
 | .sl _ a, xs, k => ctL_mk a.ct_mk
theorem Sh.mkT_mkT : ∀ (s : Sh) (x : s.D) (k : Int), s.mkT (s.mkT x k) k = s.mkT x k
 | .int _, _, _ | .bool _, _, _ | .u8 _, _, _ | .str _, _, _ | .fn0 _, _, _ | .fn _ _, _, _ | .pt _, _, _ => rfl
 | .pair a b, x, k => by
  show (a.mkT (a.mkT x.1 k) k, b.mkT (b.mkT x.2 (k + a.ctT x.1)) (k + a.ctT (a.mkT x.1 k))) = _
  rw [a.mkT_mkT, a.ctT_mkT, b.mkT_mkT]; rfl
 | .st _ a, x, k => a.mkT_mkT x k
 | .sl _ a, xs, k => mkL_mk a.ct_mk a.mk_mk
theorem ctL_le {α : Type} {c d : α → Nat} {m : Nat} (h : ∀ x, c x ≤ m * (1 + d x)) : ∀ {xs : List α}, ctL c xs ≤ m * (xs.length + ctL d xs)
 | [] => Nat.zero_le _
 | x :: l => by
  have h1 := h x
  have h2 := ctL_le h (xs := l)
  simp only [ctL, List.length_cons]
  rw [show l.length + 1 + (d x + ctL d l) = (1 + d x) + (l.length + ctL d l) by omega, Nat.mul_add]
  omega
theorem Sh.ct_le : ∀ (s : Sh) (x : s.D), s.ct x ≤ s.mx * (1 + s.sz x)
 | .int _, _ | .bool _, _ | .u8 _, _ | .str _, _ => by simp [Sh.ct, Sh.mx]
 | .fn0 _, _ | .fn _ _, _ | .pt _, _ => Nat.zero_le _
 | .pair a b, x => by
  have h1 := a.ct_le x.1
  have h2 := b.ct_le x.2
  show a.ct x.1 + b.ct x.2 ≤ (a.mx + b.mx) * (1 + (a.sz x.1 + b.sz x.2))
  have h3 : a.mx * (1 + a.sz x.1) ≤ a.mx * (1 + (a.sz x.1 + b.sz x.2)) := Nat.mul_le_mul_left _ (by omega)
  have h4 : b.mx * (1 + b.sz x.2) ≤ b.mx * (1 + (a.sz x.1 + b.sz x.2)) := Nat.mul_le_mul_left _ (by omega)
  rw [Nat.add_mul]; omega
 | .st _ a, x => a.ct_le x
 | .sl _ a, xs => by
  have h1 := ctL_le (m := a.mx) a.ct_le (xs := xs)
  exact Nat.le_trans h1 (Nat.mul_le_mul_left _ (by show _ ≤ 1 + (List.length (α := a.D) xs + ctL a.sz xs); omega))
theorem Sh.ctT_le2 : ∀ (s : Sh) (x : s.D), s.ctT x ≤ s.mx * s.sz x
 | .int _, _ | .bool _, _ | .u8 _, _ | .str _, _ => Nat.zero_le _
 | .fn0 _, _ | .fn _ _, _ | .pt _, _ => Nat.zero_le _
 | .pair a b, x => by
  have h1 := a.ctT_le2 x.1
  have h2 := b.ctT_le2 x.2
  show a.ctT x.1 + b.ctT x.2 ≤ (a.mx + b.mx) * (a.sz x.1 + b.sz x.2)
  have h3 : a.mx * a.sz x.1 ≤ a.mx * (a.sz x.1 + b.sz x.2) := Nat.mul_le_mul_left _ (by omega)
  have h4 : b.mx * b.sz x.2 ≤ b.mx * (a.sz x.1 + b.sz x.2) := Nat.mul_le_mul_left _ (by omega)
  rw [Nat.add_mul]; omega
 | .st _ a, x => a.ctT_le2 x
 | .sl _ a, xs => ctL_le (m := a.mx) a.ct_le (xs := xs)
def szD (s : Sh) (x : s.D) (n : Int) : Int := if n < (s.sz x : Int) then -1 else n - s.sz x
def mkK (s : Sh) (x : s.D) (k : Int) : Int := k + s.ct x
def mkKT (s : Sh) (x : s.D) (k : Int) : Int := k + s.ctT x
def heldD (s : Sh) (x : s.D) (k : Int) : Int := if s.eqB (s.mk x k) x = true then k + s.ct x else -1
def heldDT (s : Sh) (x : s.D) (k : Int) : Int := if s.eqB (s.mkT x k) x = true then k + s.ctT x else -1
def pMk (s : Sh) (x : s.D) (k : Int) : Prop := 0 ≤ k ∧ k + s.ct x ≤ 4611686018427387904
def pMkT (s : Sh) (x : s.D) (k : Int) : Prop := 0 ≤ k ∧ k + s.ctT x ≤ 4611686018427387904
def pSz (s : Sh) (_ : s.D) (n : Int) : Prop := 0 ≤ n ∧ n ≤ 9223372036854775807
def pTo (s : Sh) (x : s.D) : Prop := s.sz x ≤ 1048576
def idD (s : Sh) (x : s.D) : s.D := x
theorem heldD_val {s : Sh} {x : s.D} {k : Int} (h : ¬ heldD s x k < 0) : s.mk x k = x ∧ heldD s x k = k + s.ct x := by
 unfold heldD at h ⊢
 split at h
 ·rename_i he; rw [if_pos he]; exact ⟨s.of_eqB he, rfl⟩
 ·omega
theorem heldD_neg {s : Sh} {x : s.D} {k : Int} (hk : 0 ≤ k) (h : heldD s x k < 0) : s.mk x k ≠ x := fun e => by
 unfold heldD at h
 rw [if_pos (s.eqB_iff.2 e)] at h
 omega
theorem heldD_pos {s : Sh} {x : s.D} {k : Int} (e : s.mk x k = x) : heldD s x k = k + s.ct x := by unfold heldD; rw [if_pos (s.eqB_iff.2 e)]
theorem heldD_no {s : Sh} {x : s.D} {k : Int} (e : s.mk x k ≠ x) : heldD s x k = -1 := by unfold heldD; rw [if_neg (fun h => e (s.of_eqB h))]
theorem heldDT_pos {s : Sh} {x : s.D} {k : Int} (e : s.mkT x k = x) : heldDT s x k = k + s.ctT x := by unfold heldDT; rw [if_pos (s.eqB_iff.2 e)]
theorem heldDT_no {s : Sh} {x : s.D} {k : Int} (e : s.mkT x k ≠ x) : heldDT s x k = -1 := by unfold heldDT; rw [if_neg (fun h => e (s.of_eqB h))]
theorem heldDT_val {s : Sh} {x : s.D} {k : Int} (h : ¬ heldDT s x k < 0) : s.mkT x k = x ∧ heldDT s x k = k + s.ctT x := by
 unfold heldDT at h ⊢
 split at h
 ·rename_i he; rw [if_pos he]; exact ⟨s.of_eqB he, rfl⟩
 ·omega
theorem heldDT_neg {s : Sh} {x : s.D} {k : Int} (hk : 0 ≤ k) (h : heldDT s x k < 0) : s.mkT x k ≠ x := fun e => by
 unfold heldDT at h
 rw [if_pos (s.eqB_iff.2 e)] at h
 omega
def Sh.flatB : Sh → Bool
 | .pair a b => a.flatB && b.flatB
 | .st _ a => a.flatB
 | .sl _ _ => false
 | _ => true
theorem Sh.flat_sz : ∀ (s : Sh), s.flatB = true → ∀ x : s.D, s.sz x = 0
 | .int _, _, _ | .bool _, _, _ | .u8 _, _, _ | .str _, _, _ | .fn0 _, _, _ | .fn _ _, _, _ | .pt _, _, _ => rfl
 | .pair a b, h, x => by
  simp only [Sh.flatB, Bool.and_eq_true] at h
  show a.sz x.1 + b.sz x.2 = 0
  rw [a.flat_sz h.1, b.flat_sz h.2]
 | .st _ a, h, x => a.flat_sz h x
 | .sl _ _, h, _ => by cases h
theorem sz_flat {t : TypeId} {a : Sh} (h : a.flatB = true) (xs : List a.D) : (Sh.sl t a).sz xs = xs.length := by
 show xs.length + ctL a.sz xs = xs.length
 have : ∀ l : List a.D, ctL a.sz l = 0 := fun l => by
  induction l with
  | nil => rfl
  | cons x l ih => simp only [ctL, a.flat_sz h, ih]
 rw [this]; rfl
theorem held_marked (s : Sh) (x : s.D) (k : Int) : heldD s (s.mk x k) k = k + s.ct x := by rw [heldD_pos (s.mk_mk x k), s.ct_mk]
theorem held_markedT (s : Sh) (x : s.D) (k : Int) : heldDT s (s.mkT x k) k = k + s.ctT x := by rw [heldDT_pos (s.mkT_mkT x k), s.ctT_mkT]
theorem szD_val {s : Sh} {x : s.D} {n : Int} (h : ¬ szD s x n < 0) (hn : 0 ≤ n) : szD s x n = n - s.sz x ∧ (s.sz x : Int) ≤ n := by
 unfold szD at h ⊢
 split at h
 ·omega
 ·rename_i he; rw [if_neg he]; exact ⟨rfl, by omega⟩
theorem szD_neg {s : Sh} {x : s.D} {n : Int} (h : szD s x n < 0) (hn : 0 ≤ n) : n < (s.sz x : Int) := by
 unfold szD at h
 split at h
 ·assumption
 ·omega
theorem szD_no {s : Sh} {x : s.D} {n : Int} (h : n < (s.sz x : Int)) : szD s x n = -1 := by unfold szD; rw [if_pos h]
theorem szD_ok {s : Sh} {x : s.D} {n : Int} (h : ¬ n < (s.sz x : Int)) : szD s x n = n - s.sz x := by unfold szD; rw [if_neg h]
end Go.Proofs.YtekgoacohhdijaaGreat
