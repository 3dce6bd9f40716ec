/- The law FnExactSinkMessage returns true for every input and leaves its arguments as they were. No condition. -/
import Derived.Test.YtamibfjeldfphaaGreatSinkMessage3
import Derived.Test.YtamibfjeldfphaaGreatLA
import Derived.Test.YtamibfjeldfphaaGreatProg
import Derived.Test.YtamibfjeldfphaaGreatRows
import Derived.Test.YtamibfjeldfphaaGreatFX
namespace Go.Proofs.YtamibfjeldfphaaGreat
open Go.RowKit
set_option linter.unusedVariables false
set_option linter.unusedSimpArgs false
theorem shlw {a i : Nat} (ha : a < 128) (hi : i ≤ 5) : IntKind.i64.wrap ((a : Int) * 2 ^ (min (7 * ((i : Nat) : Int) : Int).toNat (IntKind.i64).bits)) = ((a * 128 ^ i : Nat) : Int) := by
 have e : (min (7 * ((i : Nat) : Int) : Int).toNat (IntKind.i64).bits) = 7 * i := by simp only [IntKind.bits]; omega
 have h1 := pow128 hi
 have h2 : a * 128 ^ i ≤ 127 * 128 ^ i := Nat.mul_le_mul_right _ (by omega)
 have e2 : (a : Int) * 2 ^ (7 * i) = ((a * 128 ^ i : Nat) : Int) := by rw [← two7]; push_cast; rfl
 rw [e, e2, IntKind.wrap_i64]; omega
theorem orw {n m i : Nat} (hn : n < 128 ^ i) (hi : i ≤ 5) (hm : m < 128) : IntKind.i64.wrap ((BitVec.ofInt (IntKind.i64).bits (n : Int) ||| BitVec.ofInt (IntKind.i64).bits ((m * 128 ^ i : Nat) : Int)).toNat : Int) = ((n + m * 128 ^ i : Nat) : Int) := by
 have h1 := pow128 hi
 have h2 : m * 128 ^ i ≤ 127 * 128 ^ i := Nat.mul_le_mul_right _ (by omega)
 have e : (BitVec.ofInt (IntKind.i64).bits (n : Int) ||| BitVec.ofInt (IntKind.i64).bits ((m * 128 ^ i : Nat) : Int)).toNat = n + m * 128 ^ i := by
  rw [BitVec.toNat_or]
  have a1 : (BitVec.ofInt (IntKind.i64).bits (n : Int)).toNat = n := by rw [BitVec.toNat_ofInt]; simp only [IntKind.bits]; omega
  have a2 : (BitVec.ofInt (IntKind.i64).bits ((m * 128 ^ i : Nat) : Int)).toNat = m * 128 ^ i := by rw [BitVec.toNat_ofInt]; simp only [IntKind.bits]; omega
  rw [a1, a2, Nat.or_comm, Nat.mul_comm m, ← two7, ← Nat.two_pow_add_eq_or_of_lt (by rw [two7]; exact hn)]; omega
 rw [e, IntKind.wrap_i64]; omega
theorem uvor {b : List Int} {i : Nat} (hi : i ≤ 5) : IntKind.i64.wrap ((BitVec.ofInt (IntKind.i64).bits ((uvN b i : Nat) : Int) ||| BitVec.ofInt (IntKind.i64).bits (((b.getD i 0).toNat % 128 * 128 ^ i : Nat) : Int)).toNat : Int) = ((uvN b (i + 1) : Nat) : Int) := orw (uvN_lt b i) hi (by omega)
theorem and127i {c : Int} (h : (0 : Int) ≤ c ∧ c < (256 : Int)) : IntKind.i64.wrap ((BitVec.ofInt (IntKind.i64).bits c &&& BitVec.ofInt (IntKind.i64).bits 127).toNat : Int) = ((c.toNat % 128 : Nat) : Int) := by
 have e : c = ((c.toNat : Nat) : Int) := by omega
 rw [e, and127 (by omega), Int.toNat_natCast]
theorem bv8 {c m : Int} (h : (0 : Int) ≤ c ∧ c < (256 : Int)) (hm : (0 : Int) ≤ m ∧ m < (256 : Int)) : (BitVec.ofInt (IntKind.u8).bits c &&& BitVec.ofInt (IntKind.u8).bits m).toNat = c.toNat &&& m.toNat := by
 rw [BitVec.toNat_and, BitVec.toNat_ofInt, BitVec.toNat_ofInt]
 have e1 : (c % ((2 ^ (IntKind.u8).bits : Nat) : Int)).toNat = c.toNat := by simp only [IntKind.bits]; omega
 have e2 : (m % ((2 ^ (IntKind.u8).bits : Nat) : Int)).toNat = m.toNat := by simp only [IntKind.bits]; omega
 rw [e1, e2]
theorem and127u {c : Int} (h : (0 : Int) ≤ c ∧ c < (256 : Int)) : IntKind.i64.wrap (IntKind.u8.wrap ((BitVec.ofInt (IntKind.u8).bits c &&& BitVec.ofInt (IntKind.u8).bits 127).toNat : Int)) = ((c.toNat % 128 : Nat) : Int) := by
 have e : c.toNat &&& (127 : Int).toNat = c.toNat % 128 := Nat.and_two_pow_sub_one_eq_mod c.toNat 7
 rw [bv8 h (by decide), e, u8w (by omega), IntKind.wrap_i64]; omega
theorem and128 {c : Int} (h : (0 : Int) ≤ c ∧ c < (256 : Int)) : IntKind.u8.wrap ((BitVec.ofInt (IntKind.u8).bits c &&& BitVec.ofInt (IntKind.u8).bits 128).toNat : Int) = 0 ↔ c < 128 := by
 have e : ∀ n : Fin 256, (n.val &&& 128 = 0 ↔ n.val < 128) ∧ n.val &&& 128 < 256 := by decide +kernel
 have e2 : (c.toNat &&& 128 = 0 ↔ c.toNat < 128) ∧ c.toNat &&& 128 < 256 := e ⟨c.toNat, by omega⟩
 have e3 : (128 : Int).toNat = 128 := rfl
 rw [bv8 h (by decide), e3, u8w e2.2]
 have := e2.1
 omega
def uvRF (b : List Int) : Nat → Nat → Int × Int × Bool
 | 0, _ => (0, 0, false)
 | f + 1, i => if b.length ≤ i then (0, 0, false) else if 128 ≤ b.getD i 0 then uvRF b f (i + 1) else if (0 < i ∧ b.getD i 0 = 0) ∨ (1000000000000 : Int) < ((uvN b (i + 1) : Nat) : Int) then (0, 0, false) else (((uvN b (i + 1) : Nat) : Int), ((i : Nat) : Int) + 1, true)
def readUv (b : List Int) : Int × Int × Bool := uvRF b 6 0
theorem uvRF_next {b : List Int} {i : Nat} (h : uvRF b (6 - i) i = readUv b) (h1 : i < 6) (h2 : i < b.length) (h3 : 128 ≤ b.getD i 0) : uvRF b (6 - (i + 1)) (i + 1) = readUv b := by
 rw [← h, show 6 - i = (6 - (i + 1)) + 1 by omega]
 conv => rhs; unfold uvRF
 rw [if_neg (by omega), if_pos h3]
theorem uvRF_six {b : List Int} {i : Nat} (h : uvRF b (6 - i) i = readUv b) (h1 : 6 ≤ i) : (0, 0, false) = readUv b := by
 rw [← h, show 6 - i = 0 by omega]; rfl
theorem uvRF_len {b : List Int} {i : Nat} (h : uvRF b (6 - i) i = readUv b) (h1 : b.length ≤ i) : (0, 0, false) = readUv b := by
 rw [← h]
 cases 6 - i with
 | zero => rfl
 | succ f => unfold uvRF; rw [if_pos h1]
theorem uvRF_bad {b : List Int} {i : Nat} (h : uvRF b (6 - i) i = readUv b) (h1 : i < 6) (h2 : i < b.length) (h3 : b.getD i 0 < 128) (h4 : (0 < i ∧ b.getD i 0 = 0) ∨ (1000000000000 : Int) < ((uvN b (i + 1) : Nat) : Int)) : (0, 0, false) = readUv b := by
 rw [← h, show 6 - i = (6 - (i + 1)) + 1 by omega]
 unfold uvRF; rw [if_neg (by omega), if_neg (by omega), if_pos h4]
theorem uvRF_good {b : List Int} {i : Nat} (h : uvRF b (6 - i) i = readUv b) (h1 : i < 6) (h2 : i < b.length) (h3 : b.getD i 0 < 128) (h4 : ¬ ((0 < i ∧ b.getD i 0 = 0) ∨ (1000000000000 : Int) < ((uvN b (i + 1) : Nat) : Int))) : (((uvN b (i + 1) : Nat) : Int), ((i : Nat) : Int) + 1, true) = readUv b := by
 rw [← h, show 6 - i = (6 - (i + 1)) + 1 by omega]
 unfold uvRF; rw [if_neg (by omega), if_neg (by omega), if_neg h4]
theorem uvRF_bd (b : List Int) : ∀ f i, 0 ≤ (uvRF b f i).1 ∧ (uvRF b f i).1 ≤ 1000000000000 ∧ 0 ≤ (uvRF b f i).2.1 ∧ (uvRF b f i).2.1 ≤ ((List.length b : Nat) : Int)
 | 0, i => by simp only [uvRF]; omega
 | f + 1, i => by
  unfold uvRF
  split
  ·dsimp only; omega
  ·split
   ·exact uvRF_bd b f (i + 1)
   ·split
    ·dsimp only; omega
    ·dsimp only; omega
theorem readUv_bd (b : List Int) : 0 ≤ (readUv b).1 ∧ (readUv b).1 ≤ 1000000000000 ∧ 0 ≤ (readUv b).2.1 ∧ (readUv b).2.1 ≤ ((List.length b : Nat) : Int) := uvRF_bd b 6 0
theorem wrap0 {a : Int} {b : Nat} (h : a = 0) (hb : b ≤ 4611686018427387904) : IntKind.i64.wrap (a + ((b : Nat) : Int)) = ((b : Nat) : Int) := by subst h; rw [IntKind.wrap_i64]; omega
def cutB (b : List Int) : List Int := List.drop ((readUv b).2.1).toNat (List.take ((readUv b).2.1 + (readUv b).1).toNat b)
abbrev readOK (b : List Int) (m : Int) : Prop := (readUv b).2.2 = true ∧ (readUv b).1 ≤ m ∧ (readUv b).1 ≤ ((List.length b : Nat) : Int) - (readUv b).2.1
def readB (b : List Int) (m : Int) : List Int × Int × Bool := if readOK b m then (cutB b, (readUv b).2.1 + (readUv b).1, true) else ([], 0, false)
theorem readB_y {b : List Int} {m : Int} (h1 : (readUv b).2.2 = true) (h2 : (readUv b).1 ≤ m) (h3 : (readUv b).1 ≤ ((List.length b : Nat) : Int) - (readUv b).2.1) : (cutB b, (readUv b).2.1 + (readUv b).1, true) = readB b m := (if_pos ⟨h1, h2, h3⟩).symm
theorem readB_n {b : List Int} {m : Int} (h : (readUv b).2.2 = false ∨ m < (readUv b).1 ∨ ((List.length b : Nat) : Int) - (readUv b).2.1 < (readUv b).1) : ([], 0, false) = readB b m := by
 unfold readB; rw [if_neg]; rintro ⟨h1, h2, h3⟩
 rcases h with h | h | h
 ·rw [h1] at h; cases h
 ·omega
 ·omega
theorem cutB_len {b : List Int} (h3 : (readUv b).1 ≤ ((List.length b : Nat) : Int) - (readUv b).2.1) : (((cutB b).length : Nat) : Int) = (readUv b).1 := by
 have := readUv_bd b
 unfold cutB; rw [List.length_drop, List.length_take]; omega
theorem cutB_u8 {b : List Int} (h : u8L b) : u8L (cutB b) := fun e he => h e (List.mem_of_mem_take (List.mem_of_mem_drop he))
theorem readB_u8 {b : List Int} {m : Int} (h : u8L b) : u8L (readB b m).1 := by
 unfold readB; split
 ·exact cutB_u8 h
 ·exact u8L_nil
theorem readB_len (b : List Int) (m : Int) (hm : 0 ≤ m) : (((readB b m).1.length : Nat) : Int) ≤ m := by
 unfold readB; split
 ·rename_i h; have := cutB_len h.2.2; have := h.2.1; dsimp only; omega
 ·simpa using hm
def wrL (r : List Int) : List Int := r.map IntKind.u8.wrap
theorem wrL_len (r : List Int) : (wrL r).length = r.length := by simp [wrL]
theorem wrL_u8 (r : List Int) : u8L (wrL r) := fun e he => by
 obtain ⟨x, _, rfl⟩ := List.mem_map.1 he
 exact u8_range x
theorem wrL_step {r : List Int} {k : Nat} (h : k < r.length) : wrL (List.take (k + 1) r) = wrL (List.take k r) ++ [IntKind.u8.wrap (r.getD k 0)] := map_snoc (z := 0) h
def catTo (m : List (List Int)) : Nat → List Int
 | 0 => []
 | i + 1 => catTo m i ++ wrL (m.getD i [])
def catA (m : List (List Int)) : List Int := catTo m m.length
theorem catTo_u8 (m : List (List Int)) : ∀ i, u8L (catTo m i)
 | 0 => u8L_nil
 | i + 1 => u8L_append (catTo_u8 m i) (wrL_u8 _)
theorem catTo_mono (m : List (List Int)) (i : Nat) : ∀ d, (catTo m i).length ≤ (catTo m (i + d)).length
 | 0 => Nat.le_refl _
 | d + 1 => by
  have := catTo_mono m i d
  show _ ≤ (catTo m (i + d) ++ wrL _).length
  rw [List.length_append]; omega
theorem catTo_le {m : List (List Int)} {c : Nat} (h : ∀ j, (m.getD j []).length ≤ c) : ∀ i, (catTo m i).length ≤ c * i
 | 0 => by simp [catTo]
 | i + 1 => by
  have h1 := catTo_le h i; have h2 := h i
  simp only [catTo, List.length_append, wrL_len]; rw [Nat.mul_add]; omega
def shortB (m : List (List Int)) : Bool := decide ((catA m).length ≤ 432)
theorem shortB_t {m : List (List Int)} {i : Nat} (h : m.length ≤ i) (h' : i ≤ m.length) (hl : (catTo m i).length ≤ 432) : shortB m = true := decide_eq_true (by unfold catA; rw [show m.length = i by omega]; exact hl)
theorem shortB_f {m : List (List Int)} {i : Nat} (h : i ≤ m.length) (hl : 432 < (catTo m i).length) : shortB m = false := decide_eq_false (by
 have := catTo_mono m i (m.length - i)
 rw [show i + (m.length - i) = m.length by omega] at this
 unfold catA; omega)
theorem catA_eq {m : List (List Int)} {i : Nat} (h : m.length ≤ i) (h' : i ≤ m.length) : catTo m i = catA m := by unfold catA; rw [show m.length = i by omega]
def byR (r : List Int) : Bool := r.all fun x => inR x 0 255
def toBy (m : List (List Int)) : List Int × Bool := if shortB m = true ∧ (readB (catA m) 400).2.2 = true ∧ symD (readB (catA m) 400).1 (colsOf m) = m then ((readB (catA m) 400).1, true) else ([], false)
theorem toBy_y {m : List (List Int)} (h1 : shortB m = true) (h2 : (readB (catA m) 400).2.2 = true) (h3 : symD (readB (catA m) 400).1 (colsOf m) = m) : ((readB (catA m) 400).1, true) = toBy m := (if_pos ⟨h1, h2, h3⟩).symm
theorem toBy_n {m : List (List Int)} (h : shortB m = false ∨ (readB (catA m) 400).2.2 = false ∨ symD (readB (catA m) 400).1 (colsOf m) ≠ m) : ([], false) = toBy m := by
 unfold toBy; rw [if_neg]; rintro ⟨h1, h2, h3⟩
 rcases h with h | h | h
 ·rw [h1] at h; cases h
 ·rw [h2] at h; cases h
 ·exact h h3
theorem toBy_len (m : List (List Int)) : (toBy m).1.length ≤ 400 := by
 unfold toBy; split
 ·have := readB_len (catA m) 400 (by decide); dsimp only; omega
 ·exact Nat.zero_le _
theorem symD_u8 {x : List Int} {w : Int} (h : u8L x) : ∀ r ∈ symD x w, byR r = true := by
 unfold symD
 split
 ·intro r hr
  obtain ⟨j, _, rfl⟩ := List.mem_map.1 hr
  rw [byR, List.all_eq_true]
  intro e he
  obtain ⟨k, _, rfl⟩ := List.mem_map.1 he
  have := getD_u8 (appBy_u8 u8L_nil h) (j * w.toNat + k)
  exact inR_true (by omega)
 ·intro r hr; cases hr
theorem toBy_r {m : List (List Int)} (h : (m.all byR) = false) : ([], false) = toBy m := toBy_n (by
 right; right; intro e
 rw [← e] at h
 have : (symD (readB (catA m) 400).1 (colsOf m)).all byR = true := List.all_eq_true.2 fun r hr => symD_u8 (readB_u8 (catTo_u8 m _)) r hr
 rw [this] at h; cases h)
theorem toBy_u {m : List (List Int)} (h : (readUv (catA m)).2.2 = false ∨ ((List.length (catA m) : Nat) : Int) - (readUv (catA m)).2.1 < (readUv (catA m)).1) : ([], false) = toBy m := toBy_n (by
 right; left
 rw [← readB_n (m := 400) (by rcases h with h | h; left; exact h; right; right; exact h)])
theorem toBy_e {m : List (List Int)} (h : ¬ symD (cutB (catA m)) (colsOf m) = m) : ([], false) = toBy m := by
 by_cases hr : readOK (catA m) 400
 ·refine toBy_n (Or.inr (Or.inr ?_))
  rw [← readB_y hr.1 hr.2.1 hr.2.2]; exact h
 ·refine toBy_n (Or.inr (Or.inl ?_))
  unfold readB; rw [if_neg hr]
theorem symRow_len (all : List Int) (w j : Nat) : (symRow all w j).length = w := by simp [symRow]
theorem cat_sym (all : List Int) (w n : Nat) : ∀ j, j ≤ n → (catTo (symTo all w n) j).length = j * w
 | 0, _ => by simp [catTo]
 | j + 1, h => by
  have ih := cat_sym all w n j (by omega)
  have e : (symTo all w n).getD j [] = symRow all w j := by
   rw [getD_of_lt (by rw [symTo_len]; omega)]; simp [symTo]
  simp only [catTo, List.length_append, wrL_len, ih]
  rw [e, symRow_len, Nat.succ_mul]
theorem cdiv_mul {n w : Nat} (hw : 1 ≤ w) : cdiv n w * w ≤ n + w - 1 := Nat.div_mul_le_self _ _
theorem catA_sym {x : List Int} {w : Int} : (catA (symD x w)).length ≤ 432 := by
 unfold symD
 split
 ·rename_i h
  have hw := inR_t h.1
  have h1 := appBy_le [] x
  have h2 := cat_sym (appBy [] x) w.toNat (cdiv (appBy [] x).length w.toNat) _ (Nat.le_refl _)
  have h3 := cdiv_mul (n := (appBy [] x).length) (w := w.toNat) (by omega)
  have h4 : ([] : List Int).length = 0 := rfl
  unfold catA symS; rw [symTo_len, h2]; omega
 ·exact Nat.zero_le _
theorem readUv_nil : (readUv []).2.2 = false := rfl
theorem toBy_z {m : List (List Int)} (h1 : (readUv (catA m)).2.2 = true) (h2 : (readUv (catA m)).1 ≤ ((List.length (catA m) : Nat) : Int) - (readUv (catA m)).2.1) (h3 : symD (cutB (catA m)) (colsOf m) = m) : (cutB (catA m), true) = toBy m := by
 have hl := cutB_len h2
 have h4 : (readUv (catA m)).1 ≤ 400 := by
  by_cases hc : (cutB (catA m)).length ≤ 400
  ·omega
  ·have e : symD (cutB (catA m)) (colsOf m) = [] := (symD_n (Or.inr (by omega))).symm
   have e2 : m = [] := h3.symm.trans e
   rw [e2] at h1
   have : (readUv (catA ([] : List (List Int)))).2.2 = false := readUv_nil
   rw [this] at h1; cases h1
 have e := readB_y (b := catA m) (m := 400) h1 h4 h2
 have hs : shortB m = true := decide_eq_true (by have := catA_sym (x := cutB (catA m)) (w := colsOf m); rw [h3] at this; exact this)
 have h5 := toBy_y (m := m) hs (by rw [← e]) (by rw [← e]; exact h3)
 rw [← e] at h5
 exact h5
def D_impl_ReadUvarint := (fun (b : List Int) (_ : Int) => readUv b)
abbrev Q_impl_ReadUvarint := (fun (x0 : (List Int)) (x1 : Int) => Sh.fit s28 x0 ∧ x1 = 0)
def S_impl_ReadUvarint : Sum := { fid := 89, dom := [s28, (.int 3)], cod := [(.int 3), (.int 3), (.bool 4)], dp := true, fz := false, pre := fun x => Q_impl_ReadUvarint x.1 x.2.1, g := fun x => ((D_impl_ReadUvarint x.1 x.2.1).1, ((D_impl_ReadUvarint x.1 x.2.1).2.1, ((D_impl_ReadUvarint x.1 x.2.1).2.2, ()))) }
def S_impl_ReadUvarint_tab : List (Nat × Sum) := []
theorem S_impl_ReadUvarint_ok : FnOK Tryz.prog 89 S_impl_ReadUvarint := by
 refine at_enter 56 (fun x => ⟨[(0, aF (.u8 5) x.1), (1, aI x.2.1)], []⟩) Tryz.func89 rfl (by kernel_rfl) (fun x => rfl) ?_
 rintro w0 Z0 ⟨x0, x1, u⟩ a w
 revert x0 x1
 intro (x0 : (List Int)) (x1 : Int) hpre hlens h
 replace hpre : Q_impl_ReadUvarint x0 x1 := hpre
 have hu0 : u8L x0 := hlens.1.2
 have hT : TabOK Tryz.prog S_impl_ReadUvarint_tab := .nil
 obtain ⟨hf0, hpx⟩ := hpre
 have hn0_1 : List.length x0 ≤ 1073741824 := hf0.1
 refine wp_seq ?_
 refine at_regq [] { ts := [0, 1, 4, 5, 6], os := [] } [] gamOK hT h (by kernel_rfl) trivial fun a w h => then_normal (wp_seq (wp_seq ?_))
 refine at_regq [] { ts := [0, 1, 4, 5, 6, 11], os := [] } [] gamOK hT h (by kernel_rfl) trivial fun a w h => then_normal ?_
 refine at_test (decide (x1 < 0)) h (by kernel_rfl) (fun h1 => ?_) (fun h1 => ?_)
 ·replace h1 : x1 < 0 := of_decide_eq_true h1
  refine wp_seq ?_
  refine at_regq [] { ts := [0, 1, 4, 5, 6], os := [] } [] gamOK hT h (by kernel_rfl) trivial fun a w h => then_normal (wp_ret (then_ret ?_))
  exact at_return (0, (0, (false, ()))) [] h (by kernel_rfl) trivial (congrArg (fun z => (z.1, z.2.1, z.2.2, ())) (show ((0, 0, false)) = D_impl_ReadUvarint x0 x1 from by unfold D_impl_ReadUvarint; first | (exfalso; omega) | (show (0, 0, false) = readUv x0; first | exact uvRF_six hok0.2 (by omega) | exact uvRF_len hok0.2 (by omega) | exact uvRF_bad hok0.2 (by omega) (by omega) (by omega) (by omega)) | exact uvRF_good hok0.2 (by omega) (by omega) (by omega) (by omega)))
 ·replace h1 : ¬ (x1 < 0) := of_decide_eq_false h1
  refine wp_skip (then_normal (wp_seq ?_))
  refine at_regq [] { ts := [0, 1, 4, 5, 6, 7], os := [] } [] gamOK hT h (by kernel_rfl) trivial fun a w h => then_normal (wp_seq (wp_seq ?_))
  refine at_regq [] { ts := [0, 1, 4, 5, 6, 7, 8], os := [] } [] gamOK hT h (by kernel_rfl) trivial fun a w h => then_normal (wp_block ?_)
  replace h := at_out (σ' := ⟨[(0, aF (.u8 5) x0), (1, aI x1), (4, aI 0), (5, aI 0), (6, aB false), (7, aI 0), (8, aI 0)], []⟩) { ts := [0, 1, 4, 5, 6, 7, 8], os := [] } h (by kernel_rfl)
  refine at_loop (fun i : Nat => (⟨[(0, aF (.u8 5) x0), (1, aI x1), (4, aI 0), (5, aI 0), (6, aB false), (7, aI ((uvN x0 i : Nat) : Int)), (8, aI ((i : Nat) : Int))], []⟩ : St)) (fun i => (i ≤ 6 ∧ uvRF x0 (6 - i) i = readUv x0)) (fun i => 6 - i) (0) h (st_congr2 (fun (d0 : Int) (d1 : Int) => (⟨[(0, aF (.u8 5) x0), (1, aI x1), (4, aI 0), (5, aI 0), (6, aB false), (7, aI d0), (8, aI d1)], []⟩ : St)) (show (0 : Int) = ((uvN x0 (0) : Nat) : Int) from by first | with_reducible rfl | (rfl) | rfl) (show (0 : Int) = (((0) : Nat) : Int) from by first | with_reducible rfl | (rfl) | rfl)) (by exact ⟨by omega, rfl⟩) ?_
  intro i a w hok0 h
  have hu1 := getD_u8 hu0 i
  have ha8 := and128 hu1
  refine wp_seq (wp_seq ?_)
  by_cases h2 : ((i : Nat) : Int) < 6
  ·refine at_regq [{}, { hint := some (aB true) }, {}, {}, {}, { hint := some (aI ((i : Nat) : Int)) }] { ts := [0, 1, 4, 5, 6, 7, 8, 15, 16, 17, 18, 19, 20, 21], os := [] } [(AV.p (.c (.v (.bool (decide (((i : Nat) : Int) < 6))))) = AV.p (.c (.v (.bool true)))), (AV.p (.c (.v (.int .i64 (IntKind.i64.wrap (x1 + ((i : Nat) : Int)))))) = AV.p (.c (.v (.int .i64 (((i : Nat) : Int))))))] gamOK hT h (by kernel_rfl) ⟨hint_bool (decide_eq_true h2), hint_int (by exact wrap0 hpx (by omega)), trivial⟩ fun a w h => then_normal ?_
   refine at_test (decide (((i : Nat) : Int) < ((List.length x0 : Nat) : Int))) h (by kernel_rfl) (fun h3 => ?_) (fun h3 => ?_)
   ·replace h3 : ((i : Nat) : Int) < ((List.length x0 : Nat) : Int) := of_decide_eq_true h3
    refine wp_skip (then_normal (wp_seq (wp_block (wp_seq ?_))))
    refine at_regq [{}, {}, {}, { hint := some (aI ((i : Nat) : Int)) }] { ts := [0, 1, 4, 5, 6, 7, 8, 9, 15, 16, 17, 18, 19, 20], os := [] } [(AV.p (.c (.v (.int .i64 (IntKind.i64.wrap (x1 + ((i : Nat) : Int)))))) = AV.p (.c (.v (.int .i64 (((i : Nat) : Int)))))), (0 : Int) ≤ ((i : Nat) : Int) ∧ ((i : Nat) : Int) < ((List.length x0 : Nat) : Int)] gamOK hT h (by kernel_rfl) ⟨hint_int (by exact wrap0 hpx (by omega)), (by refine ⟨?_, ?_⟩ <;> (first | omega | (simp only [lsA]; omega) | (simp <;> omega))), trivial⟩ fun a w h => then_normal (wp_seq ?_)
    refine at_regq [{}, {}, {}, { hint := some (aI (((x0.getD i 0).toNat % 128 : Nat) : Int)) }, {}, { nw := true }, { hint := some (aI (((x0.getD i 0).toNat % 128 * 128 ^ i : Nat) : Int)) }, { hint := some (aI ((uvN x0 (i + 1) : Nat) : Int)) }] { ts := [0, 1, 4, 5, 6, 7, 8, 9, 15, 16, 17, 18, 19, 20], os := [] } [(AV.p (.c (.v (.int .i64 (IntKind.i64.wrap (IntKind.u8.wrap ((BitVec.ofInt (IntKind.u8).bits (x0.getD i 0) &&& BitVec.ofInt (IntKind.u8).bits 127).toNat : Int)))))) = AV.p (.c (.v (.int .i64 ((((x0.getD i 0).toNat % 128 : Nat) : Int)))))), I64 (7 * ((i : Nat) : Int)), (0 : Int) ≤ (7 * ((i : Nat) : Int)), (AV.p (.c (.v (.int .i64 (IntKind.i64.wrap ((((x0.getD i 0).toNat % 128 : Nat) : Int) * 2 ^ (min (7 * ((i : Nat) : Int) : Int).toNat (IntKind.i64).bits)))))) = AV.p (.c (.v (.int .i64 ((((x0.getD i 0).toNat % 128 * 128 ^ i : Nat) : Int)))))), (AV.p (.c (.v (.int .i64 (IntKind.i64.wrap ((BitVec.ofInt (IntKind.i64).bits ((uvN x0 i : Nat) : Int) ||| BitVec.ofInt (IntKind.i64).bits (((x0.getD i 0).toNat % 128 * 128 ^ i : Nat) : Int)).toNat : Int))))) = AV.p (.c (.v (.int .i64 (((uvN x0 (i + 1) : Nat) : Int))))))] gamOK hT h (by kernel_rfl) ⟨hint_int (by exact and127u hu1), ⟨by first | omega | (simp only [lsA]; omega) | (simp <;> omega), by first | omega | (simp only [lsA]; omega) | (simp <;> omega)⟩, (by first | omega | (simp only [lsA]; omega) | (simp <;> omega)), hint_int (by exact shlw (by omega) (by omega)), hint_int (by exact uvor (by omega)), trivial⟩ fun a w h => then_normal (wp_seq (wp_seq ?_))
    refine at_regq [] { ts := [0, 1, 4, 5, 6, 7, 8, 9, 15, 16, 17, 18, 19, 20, 40], os := [] } [] gamOK hT h (by kernel_rfl) trivial fun a w h => then_normal ?_
    refine at_test (!decide (IntKind.u8.wrap ((BitVec.ofInt (IntKind.u8).bits (x0.getD i 0) &&& BitVec.ofInt (IntKind.u8).bits 128).toNat : Int) = 0)) h (by kernel_rfl) (fun h4 => ?_) (fun h4 => ?_)
    ·replace h4 : ¬ (IntKind.u8.wrap ((BitVec.ofInt (IntKind.u8).bits (x0.getD i 0) &&& BitVec.ofInt (IntKind.u8).bits 128).toNat : Int) = 0) := of_decide_eq_false (notT h4)
     refine wp_exit (then_exit (in_hit (then_normal ?_)))
     refine at_regq [{}, { nw := true }] { ts := [0, 1, 4, 5, 6, 7, 8, 15, 16, 17, 18, 19, 20], os := [] } [I64 (((i : Nat) : Int) + 1)] gamOK hT h (by kernel_rfl) ⟨⟨by first | omega | (simp only [lsA]; omega) | (simp <;> omega), by first | omega | (simp only [lsA]; omega) | (simp <;> omega)⟩, trivial⟩ fun a w h => ?_
     replace h := at_out (σ' := ⟨[(0, aF (.u8 5) x0), (1, aI x1), (4, aI 0), (5, aI 0), (6, aB false), (7, aI ((uvN x0 (i + 1) : Nat) : Int)), (8, aI (((i : Nat) : Int) + 1))], []⟩) { ts := [0, 1, 4, 5, 6, 7, 8], os := [] } h (by kernel_rfl)
     exact ⟨i + 1, at_eq h (st_congr2 (fun (d0 : Int) (d1 : Int) => (⟨[(0, aF (.u8 5) x0), (1, aI x1), (4, aI 0), (5, aI 0), (6, aB false), (7, aI d0), (8, aI d1)], []⟩ : St)) (show (((uvN x0 (i + 1) : Nat) : Int) : Int) = ((uvN x0 (i + 1) : Nat) : Int) from by first | with_reducible rfl | (rfl) | rfl) (show (((i : Nat) : Int) + 1 : Int) = (((i + 1) : Nat) : Int) from by first | with_reducible rfl | (omega) | rfl)), (by exact ⟨by omega, uvRF_next hok0.2 (by omega) (by omega) (by omega)⟩), (by omega)⟩
    ·replace h4 : IntKind.u8.wrap ((BitVec.ofInt (IntKind.u8).bits (x0.getD i 0) &&& BitVec.ofInt (IntKind.u8).bits 128).toNat : Int) = 0 := of_decide_eq_true (notF h4)
     refine wp_skip (then_normal (wp_seq (wp_seq ?_)))
     by_cases h5 : ((i : Nat) : Int) > 0
     ·by_cases h6 : (x0.getD i 0) = 0
      ·refine at_regq [{}, { hint := some (aB true) }, {}, {}, { hint := some (aB true) }] { ts := [0, 1, 4, 5, 6, 7, 8, 15, 16, 17, 18, 19, 20, 44, 45, 48, 49, 50], os := [] } [(AV.p (.c (.v (.bool (decide (((i : Nat) : Int) > 0))))) = AV.p (.c (.v (.bool true)))), (AV.p (.c (.v (.bool (decide ((x0.getD i 0) = 0))))) = AV.p (.c (.v (.bool true))))] gamOK hT h (by kernel_rfl) ⟨hint_bool (decide_eq_true h5), hint_bool (decide_eq_true h6), trivial⟩ fun a w h => then_normal ?_
       refine at_test true h (by kernel_rfl) (fun hh => ?_) (fun hh => nomatch hh)
       refine wp_seq ?_
       refine at_regq [] { ts := [0, 1, 4, 5, 6, 7, 8, 15, 16, 17, 18, 19, 20, 44, 45, 48, 49], os := [] } [] gamOK hT h (by kernel_rfl) trivial fun a w h => then_normal (wp_ret (then_ret (in_ret (then_ret (then_ret (in_ret (then_ret ?_)))))))
       exact at_return (0, (0, (false, ()))) [] h (by kernel_rfl) trivial (congrArg (fun z => (z.1, z.2.1, z.2.2, ())) (show ((0, 0, false)) = D_impl_ReadUvarint x0 x1 from by unfold D_impl_ReadUvarint; first | (exfalso; omega) | (show (0, 0, false) = readUv x0; first | exact uvRF_six hok0.2 (by omega) | exact uvRF_len hok0.2 (by omega) | exact uvRF_bad hok0.2 (by omega) (by omega) (by omega) (by omega)) | exact uvRF_good hok0.2 (by omega) (by omega) (by omega) (by omega)))
      ·refine at_regq [{}, { hint := some (aB true) }, {}, {}, { hint := some (aB false) }] { ts := [0, 1, 4, 5, 6, 7, 8, 15, 16, 17, 18, 19, 20, 44, 45, 48, 49, 50], os := [] } [(AV.p (.c (.v (.bool (decide (((i : Nat) : Int) > 0))))) = AV.p (.c (.v (.bool true)))), (AV.p (.c (.v (.bool (decide ((x0.getD i 0) = 0))))) = AV.p (.c (.v (.bool false))))] gamOK hT h (by kernel_rfl) ⟨hint_bool (decide_eq_true h5), hint_bool (decide_eq_false h6), trivial⟩ fun a w h => then_normal ?_
       refine at_test (decide (((uvN x0 (i + 1) : Nat) : Int) > 1000000000000)) h (by kernel_rfl) (fun h7 => ?_) (fun h7 => ?_)
       ·replace h7 : ((uvN x0 (i + 1) : Nat) : Int) > 1000000000000 := of_decide_eq_true h7
        refine wp_seq ?_
        refine at_regq [] { ts := [0, 1, 4, 5, 6, 7, 8, 15, 16, 17, 18, 19, 20, 44, 45, 48, 49], os := [] } [] gamOK hT h (by kernel_rfl) trivial fun a w h => then_normal (wp_ret (then_ret (in_ret (then_ret (then_ret (in_ret (then_ret ?_)))))))
        exact at_return (0, (0, (false, ()))) [] h (by kernel_rfl) trivial (congrArg (fun z => (z.1, z.2.1, z.2.2, ())) (show ((0, 0, false)) = D_impl_ReadUvarint x0 x1 from by unfold D_impl_ReadUvarint; first | (exfalso; omega) | (show (0, 0, false) = readUv x0; first | exact uvRF_six hok0.2 (by omega) | exact uvRF_len hok0.2 (by omega) | exact uvRF_bad hok0.2 (by omega) (by omega) (by omega) (by omega)) | exact uvRF_good hok0.2 (by omega) (by omega) (by omega) (by omega)))
       ·replace h7 : ¬ (((uvN x0 (i + 1) : Nat) : Int) > 1000000000000) := of_decide_eq_false h7
        refine wp_skip (then_normal (wp_seq ?_))
        refine at_regq [{}, {}, {}, { hint := some (aI ((i : Nat) : Int)) }, { nw := true }] { ts := [0, 1, 4, 5, 6, 7, 8, 15, 16, 17, 18, 19, 20, 44, 45, 48, 49], os := [] } [(AV.p (.c (.v (.int .i64 (IntKind.i64.wrap (x1 + ((i : Nat) : Int)))))) = AV.p (.c (.v (.int .i64 (((i : Nat) : Int)))))), I64 (((i : Nat) : Int) + 1)] gamOK hT h (by kernel_rfl) ⟨hint_int (by exact wrap0 hpx (by omega)), ⟨by first | omega | (simp only [lsA]; omega) | (simp <;> omega), by first | omega | (simp only [lsA]; omega) | (simp <;> omega)⟩, trivial⟩ fun a w h => then_normal (wp_ret (in_ret (then_ret (then_ret (in_ret (then_ret ?_))))))
        exact at_return (((uvN x0 (i + 1) : Nat) : Int), (((i : Nat) : Int) + 1, (true, ()))) [] h (by kernel_rfl) trivial (congrArg (fun z => (z.1, z.2.1, z.2.2, ())) (show ((((uvN x0 (i + 1) : Nat) : Int), ((i : Nat) : Int) + 1, true)) = D_impl_ReadUvarint x0 x1 from by unfold D_impl_ReadUvarint; first | (exfalso; omega) | (show (0, 0, false) = readUv x0; first | exact uvRF_six hok0.2 (by omega) | exact uvRF_len hok0.2 (by omega) | exact uvRF_bad hok0.2 (by omega) (by omega) (by omega) (by omega)) | exact uvRF_good hok0.2 (by omega) (by omega) (by omega) (by omega)))
     ·refine at_regq [{}, { hint := some (aB false) }] { ts := [0, 1, 4, 5, 6, 7, 8, 15, 16, 17, 18, 19, 20, 44, 45, 48, 49, 50], os := [] } [(AV.p (.c (.v (.bool (decide (((i : Nat) : Int) > 0))))) = AV.p (.c (.v (.bool false))))] gamOK hT h (by kernel_rfl) ⟨hint_bool (decide_eq_false h5), trivial⟩ fun a w h => then_normal ?_
      refine at_test (decide (((uvN x0 (i + 1) : Nat) : Int) > 1000000000000)) h (by kernel_rfl) (fun h8 => ?_) (fun h8 => ?_)
      ·replace h8 : ((uvN x0 (i + 1) : Nat) : Int) > 1000000000000 := of_decide_eq_true h8
       refine wp_seq ?_
       refine at_regq [] { ts := [0, 1, 4, 5, 6, 7, 8, 15, 16, 17, 18, 19, 20, 44, 45, 48, 49], os := [] } [] gamOK hT h (by kernel_rfl) trivial fun a w h => then_normal (wp_ret (then_ret (in_ret (then_ret (then_ret (in_ret (then_ret ?_)))))))
       exact at_return (0, (0, (false, ()))) [] h (by kernel_rfl) trivial (congrArg (fun z => (z.1, z.2.1, z.2.2, ())) (show ((0, 0, false)) = D_impl_ReadUvarint x0 x1 from by unfold D_impl_ReadUvarint; first | (exfalso; omega) | (show (0, 0, false) = readUv x0; first | exact uvRF_six hok0.2 (by omega) | exact uvRF_len hok0.2 (by omega) | exact uvRF_bad hok0.2 (by omega) (by omega) (by omega) (by omega)) | exact uvRF_good hok0.2 (by omega) (by omega) (by omega) (by omega)))
      ·replace h8 : ¬ (((uvN x0 (i + 1) : Nat) : Int) > 1000000000000) := of_decide_eq_false h8
       refine wp_skip (then_normal (wp_seq ?_))
       refine at_regq [{}, {}, {}, { hint := some (aI ((i : Nat) : Int)) }, { nw := true }] { ts := [0, 1, 4, 5, 6, 7, 8, 15, 16, 17, 18, 19, 20, 44, 45, 48, 49], os := [] } [(AV.p (.c (.v (.int .i64 (IntKind.i64.wrap (x1 + ((i : Nat) : Int)))))) = AV.p (.c (.v (.int .i64 (((i : Nat) : Int)))))), I64 (((i : Nat) : Int) + 1)] gamOK hT h (by kernel_rfl) ⟨hint_int (by exact wrap0 hpx (by omega)), ⟨by first | omega | (simp only [lsA]; omega) | (simp <;> omega), by first | omega | (simp only [lsA]; omega) | (simp <;> omega)⟩, trivial⟩ fun a w h => then_normal (wp_ret (in_ret (then_ret (then_ret (in_ret (then_ret ?_))))))
       exact at_return (((uvN x0 (i + 1) : Nat) : Int), (((i : Nat) : Int) + 1, (true, ()))) [] h (by kernel_rfl) trivial (congrArg (fun z => (z.1, z.2.1, z.2.2, ())) (show ((((uvN x0 (i + 1) : Nat) : Int), ((i : Nat) : Int) + 1, true)) = D_impl_ReadUvarint x0 x1 from by unfold D_impl_ReadUvarint; first | (exfalso; omega) | (show (0, 0, false) = readUv x0; first | exact uvRF_six hok0.2 (by omega) | exact uvRF_len hok0.2 (by omega) | exact uvRF_bad hok0.2 (by omega) (by omega) (by omega) (by omega)) | exact uvRF_good hok0.2 (by omega) (by omega) (by omega) (by omega)))
   ·replace h3 : ¬ (((i : Nat) : Int) < ((List.length x0 : Nat) : Int)) := of_decide_eq_false h3
    refine wp_exit (then_exit (then_exit (in_hit (then_normal (wp_seq ?_)))))
    refine at_regq [] { ts := [4, 5, 6], os := [] } [] gamOK hT h (by kernel_rfl) trivial fun a w h => then_normal (wp_ret ?_)
    exact at_return (0, (0, (false, ()))) [] h (by kernel_rfl) trivial (congrArg (fun z => (z.1, z.2.1, z.2.2, ())) (show ((0, 0, false)) = D_impl_ReadUvarint x0 x1 from by unfold D_impl_ReadUvarint; first | (exfalso; omega) | (show (0, 0, false) = readUv x0; first | exact uvRF_six hok0.2 (by omega) | exact uvRF_len hok0.2 (by omega) | exact uvRF_bad hok0.2 (by omega) (by omega) (by omega) (by omega)) | exact uvRF_good hok0.2 (by omega) (by omega) (by omega) (by omega)))
  ·refine at_regq [{}, { hint := some (aB false) }] { ts := [0, 1, 4, 5, 6, 7, 8, 15, 16, 17, 18, 19, 20, 21], os := [] } [(AV.p (.c (.v (.bool (decide (((i : Nat) : Int) < 6))))) = AV.p (.c (.v (.bool false))))] gamOK hT h (by kernel_rfl) ⟨hint_bool (decide_eq_false h2), trivial⟩ fun a w h => then_normal ?_
   refine at_test false h (by kernel_rfl) (fun hh => nomatch hh) (fun hh => ?_)
   refine wp_exit (then_exit (then_exit (in_hit (then_normal (wp_seq ?_)))))
   refine at_regq [] { ts := [4, 5, 6], os := [] } [] gamOK hT h (by kernel_rfl) trivial fun a w h => then_normal (wp_ret ?_)
   exact at_return (0, (0, (false, ()))) [] h (by kernel_rfl) trivial (congrArg (fun z => (z.1, z.2.1, z.2.2, ())) (show ((0, 0, false)) = D_impl_ReadUvarint x0 x1 from by unfold D_impl_ReadUvarint; first | (exfalso; omega) | (show (0, 0, false) = readUv x0; first | exact uvRF_six hok0.2 (by omega) | exact uvRF_len hok0.2 (by omega) | exact uvRF_bad hok0.2 (by omega) (by omega) (by omega) (by omega)) | exact uvRF_good hok0.2 (by omega) (by omega) (by omega) (by omega)))

def D_spec_ReadUvarint := (fun (b : List Int) (_ : Int) => readUv b)
abbrev Q_spec_ReadUvarint := (fun (x0 : (List Int)) (x1 : Int) => Sh.fit s28 x0 ∧ x1 = 0)
def S_spec_ReadUvarint : Sum := { fid := 53, dom := [s28, (.int 3)], cod := [(.int 3), (.int 3), (.bool 4)], dp := true, fz := false, pre := fun x => Q_spec_ReadUvarint x.1 x.2.1, g := fun x => ((D_spec_ReadUvarint x.1 x.2.1).1, ((D_spec_ReadUvarint x.1 x.2.1).2.1, ((D_spec_ReadUvarint x.1 x.2.1).2.2, ()))) }
def S_spec_ReadUvarint_tab : List (Nat × Sum) := []
theorem S_spec_ReadUvarint_ok : FnOK Tryz.prog 53 S_spec_ReadUvarint := by
 refine at_enter 55 (fun x => ⟨[(0, aF (.u8 5) x.1), (1, aI x.2.1)], []⟩) Tryz.func53 rfl (by kernel_rfl) (fun x => rfl) ?_
 rintro w0 Z0 ⟨x0, x1, u⟩ a w
 revert x0 x1
 intro (x0 : (List Int)) (x1 : Int) hpre hlens h
 replace hpre : Q_spec_ReadUvarint x0 x1 := hpre
 have hu0 : u8L x0 := hlens.1.2
 have hT : TabOK Tryz.prog S_spec_ReadUvarint_tab := .nil
 obtain ⟨hf0, hpx⟩ := hpre
 have hn0_1 : List.length x0 ≤ 1073741824 := hf0.1
 refine wp_seq ?_
 refine at_regq [] { ts := [0, 1, 4, 5, 6], os := [] } [] gamOK hT h (by kernel_rfl) trivial fun a w h => then_normal (wp_seq ?_)
 refine at_regq [] { ts := [0, 1, 4, 5, 6, 7], os := [] } [] gamOK hT h (by kernel_rfl) trivial fun a w h => then_normal (wp_seq (wp_seq ?_))
 refine at_regq [] { ts := [0, 1, 4, 5, 6, 7, 8], os := [] } [] gamOK hT h (by kernel_rfl) trivial fun a w h => then_normal (wp_block ?_)
 replace h := at_out (σ' := ⟨[(0, aF (.u8 5) x0), (1, aI x1), (4, aI 0), (5, aI 0), (6, aB false), (7, aI 0), (8, aI 0)], []⟩) { ts := [0, 1, 4, 5, 6, 7, 8], os := [] } h (by kernel_rfl)
 refine at_loop (fun i : Nat => (⟨[(0, aF (.u8 5) x0), (1, aI x1), (4, aI 0), (5, aI 0), (6, aB false), (7, aI ((uvN x0 i : Nat) : Int)), (8, aI ((i : Nat) : Int))], []⟩ : St)) (fun i => (i ≤ 6 ∧ uvRF x0 (6 - i) i = readUv x0)) (fun i => 6 - i) (0) h (st_congr2 (fun (d0 : Int) (d1 : Int) => (⟨[(0, aF (.u8 5) x0), (1, aI x1), (4, aI 0), (5, aI 0), (6, aB false), (7, aI d0), (8, aI d1)], []⟩ : St)) (show (0 : Int) = ((uvN x0 (0) : Nat) : Int) from by first | with_reducible rfl | (rfl) | rfl) (show (0 : Int) = (((0) : Nat) : Int) from by first | with_reducible rfl | (rfl) | rfl)) (by exact ⟨by omega, rfl⟩) ?_
 intro i a w hok0 h
 have hu1 := getD_u8 hu0 i
 have ha8 := and128 hu1
 refine wp_seq (wp_seq ?_)
 refine at_regq [] { ts := [0, 1, 4, 5, 6, 7, 8, 11], os := [] } [] gamOK hT h (by kernel_rfl) trivial fun a w h => then_normal ?_
 refine at_test (decide (((i : Nat) : Int) < 6)) h (by kernel_rfl) (fun h1 => ?_) (fun h1 => ?_)
 ·replace h1 : ((i : Nat) : Int) < 6 := of_decide_eq_true h1
  refine wp_skip (then_normal (wp_seq (wp_block (wp_seq (wp_seq ?_)))))
  by_cases h2 : x1 < 0
  ·refine at_regq [{}, { hint := some (aB true) }] { ts := [0, 1, 4, 5, 6, 7, 8, 17, 18, 19, 20, 21, 22, 23], os := [] } [(AV.p (.c (.v (.bool (decide (x1 < 0))))) = AV.p (.c (.v (.bool true))))] gamOK hT h (by kernel_rfl) ⟨hint_bool (decide_eq_true h2), trivial⟩ fun a w h => then_normal ?_
   refine at_test true h (by kernel_rfl) (fun hh => ?_) (fun hh => nomatch hh)
   refine wp_seq ?_
   refine at_regq [] { ts := [0, 1, 4, 5, 6, 7, 8, 17, 18, 19, 20, 21, 22], os := [] } [] gamOK hT h (by kernel_rfl) trivial fun a w h => then_normal (wp_ret (then_ret (in_ret (then_ret (then_ret (in_ret (then_ret ?_)))))))
   exact at_return (0, (0, (false, ()))) [] h (by kernel_rfl) trivial (congrArg (fun z => (z.1, z.2.1, z.2.2, ())) (show ((0, 0, false)) = D_spec_ReadUvarint x0 x1 from by unfold D_spec_ReadUvarint; first | (exfalso; omega) | (show (0, 0, false) = readUv x0; first | exact uvRF_six hok0.2 (by omega) | exact uvRF_len hok0.2 (by omega) | exact uvRF_bad hok0.2 (by omega) (by omega) (by omega) (by omega)) | exact uvRF_good hok0.2 (by omega) (by omega) (by omega) (by omega)))
  ·refine at_regq [{}, { hint := some (aB false) }, {}, {}, {}, {}, {}, { nw := true }] { ts := [0, 1, 4, 5, 6, 7, 8, 17, 18, 19, 20, 21, 22, 23], os := [] } [(AV.p (.c (.v (.bool (decide (x1 < 0))))) = AV.p (.c (.v (.bool false)))), I64 (((List.length x0 : Nat) : Int) - ((i : Nat) : Int))] gamOK hT h (by kernel_rfl) ⟨hint_bool (decide_eq_false h2), ⟨by first | omega | (simp only [lsA]; omega) | (simp <;> omega), by first | omega | (simp only [lsA]; omega) | (simp <;> omega)⟩, trivial⟩ fun a w h => then_normal ?_
   refine at_test (decide (x1 ≥ ((List.length x0 : Nat) : Int) - ((i : Nat) : Int))) h (by kernel_rfl) (fun h3 => ?_) (fun h3 => ?_)
   ·replace h3 : x1 ≥ ((List.length x0 : Nat) : Int) - ((i : Nat) : Int) := of_decide_eq_true h3
    refine wp_seq ?_
    refine at_regq [] { ts := [0, 1, 4, 5, 6, 7, 8, 17, 18, 19, 20, 21, 22], os := [] } [] gamOK hT h (by kernel_rfl) trivial fun a w h => then_normal (wp_ret (then_ret (in_ret (then_ret (then_ret (in_ret (then_ret ?_)))))))
    exact at_return (0, (0, (false, ()))) [] h (by kernel_rfl) trivial (congrArg (fun z => (z.1, z.2.1, z.2.2, ())) (show ((0, 0, false)) = D_spec_ReadUvarint x0 x1 from by unfold D_spec_ReadUvarint; first | (exfalso; omega) | (show (0, 0, false) = readUv x0; first | exact uvRF_six hok0.2 (by omega) | exact uvRF_len hok0.2 (by omega) | exact uvRF_bad hok0.2 (by omega) (by omega) (by omega) (by omega)) | exact uvRF_good hok0.2 (by omega) (by omega) (by omega) (by omega)))
   ·replace h3 : ¬ (x1 ≥ ((List.length x0 : Nat) : Int) - ((i : Nat) : Int)) := of_decide_eq_false h3
    refine wp_skip (then_normal (wp_seq ?_))
    refine at_regq [{}, {}, {}, { hint := some (aI ((i : Nat) : Int)) }, {}, {}, { hint := some (aI (x0.getD i 0)) }] { ts := [0, 1, 4, 5, 6, 7, 8, 9, 17, 18, 19, 20, 21, 22], os := [] } [(AV.p (.c (.v (.int .i64 (IntKind.i64.wrap (x1 + ((i : Nat) : Int)))))) = AV.p (.c (.v (.int .i64 (((i : Nat) : Int)))))), (0 : Int) ≤ ((i : Nat) : Int) ∧ ((i : Nat) : Int) < ((List.length x0 : Nat) : Int), (AV.p (.c (.v (.int .i64 (IntKind.i64.wrap ((x0.getD i 0)))))) = AV.p (.c (.v (.int .i64 ((x0.getD i 0))))))] gamOK hT h (by kernel_rfl) ⟨hint_int (by exact wrap0 hpx (by omega)), (by refine ⟨?_, ?_⟩ <;> (first | omega | (simp only [lsA]; omega) | (simp <;> omega))), hint_int (wrap_id ⟨by first | omega | (simp only [lsA]; omega) | (simp <;> omega), by first | omega | (simp only [lsA]; omega) | (simp <;> omega)⟩), trivial⟩ fun a w h => then_normal (wp_seq ?_)
    refine at_regq [{}, {}, { hint := some (aI (((x0.getD i 0).toNat % 128 : Nat) : Int)) }, {}, { nw := true }, { hint := some (aI (((x0.getD i 0).toNat % 128 * 128 ^ i : Nat) : Int)) }, { hint := some (aI ((uvN x0 (i + 1) : Nat) : Int)) }] { ts := [0, 1, 4, 5, 6, 7, 8, 9, 17, 18, 19, 20, 21, 22], os := [] } [(AV.p (.c (.v (.int .i64 (IntKind.i64.wrap ((BitVec.ofInt (IntKind.i64).bits (x0.getD i 0) &&& BitVec.ofInt (IntKind.i64).bits 127).toNat : Int))))) = AV.p (.c (.v (.int .i64 ((((x0.getD i 0).toNat % 128 : Nat) : Int)))))), I64 (7 * ((i : Nat) : Int)), (0 : Int) ≤ (7 * ((i : Nat) : Int)), (AV.p (.c (.v (.int .i64 (IntKind.i64.wrap ((((x0.getD i 0).toNat % 128 : Nat) : Int) * 2 ^ (min (7 * ((i : Nat) : Int) : Int).toNat (IntKind.i64).bits)))))) = AV.p (.c (.v (.int .i64 ((((x0.getD i 0).toNat % 128 * 128 ^ i : Nat) : Int)))))), (AV.p (.c (.v (.int .i64 (IntKind.i64.wrap ((BitVec.ofInt (IntKind.i64).bits ((uvN x0 i : Nat) : Int) ||| BitVec.ofInt (IntKind.i64).bits (((x0.getD i 0).toNat % 128 * 128 ^ i : Nat) : Int)).toNat : Int))))) = AV.p (.c (.v (.int .i64 (((uvN x0 (i + 1) : Nat) : Int))))))] gamOK hT h (by kernel_rfl) ⟨hint_int (by exact and127i hu1), ⟨by first | omega | (simp only [lsA]; omega) | (simp <;> omega), by first | omega | (simp only [lsA]; omega) | (simp <;> omega)⟩, (by first | omega | (simp only [lsA]; omega) | (simp <;> omega)), hint_int (by exact shlw (by omega) (by omega)), hint_int (by exact uvor (by omega)), trivial⟩ fun a w h => then_normal (wp_seq ?_)
    refine at_regq [] { ts := [0, 1, 4, 5, 6, 7, 8, 9, 17, 18, 19, 20, 21, 22, 39], os := [] } [] gamOK hT h (by kernel_rfl) trivial fun a w h => then_normal ?_
    refine at_test (decide ((x0.getD i 0) < 128)) h (by kernel_rfl) (fun h4 => ?_) (fun h4 => ?_)
    ·replace h4 : (x0.getD i 0) < 128 := of_decide_eq_true h4
     refine wp_seq (wp_seq ?_)
     by_cases h5 : (x0.getD i 0) = 0
     ·by_cases h6 : ((i : Nat) : Int) > 0
      ·refine at_regq [{}, { hint := some (aB true) }, {}, {}, { hint := some (aB true) }] { ts := [0, 1, 4, 5, 6, 7, 8, 17, 18, 19, 20, 21, 22, 43, 44, 47, 48, 49], os := [] } [(AV.p (.c (.v (.bool (decide ((x0.getD i 0) = 0))))) = AV.p (.c (.v (.bool true)))), (AV.p (.c (.v (.bool (decide (((i : Nat) : Int) > 0))))) = AV.p (.c (.v (.bool true))))] gamOK hT h (by kernel_rfl) ⟨hint_bool (decide_eq_true h5), hint_bool (decide_eq_true h6), trivial⟩ fun a w h => then_normal ?_
       refine at_test true h (by kernel_rfl) (fun hh => ?_) (fun hh => nomatch hh)
       refine wp_seq ?_
       refine at_regq [] { ts := [0, 1, 4, 5, 6, 7, 8, 17, 18, 19, 20, 21, 22, 43, 44, 47, 48], os := [] } [] gamOK hT h (by kernel_rfl) trivial fun a w h => then_normal (wp_ret (then_ret (in_ret (then_ret (then_ret (in_ret (then_ret ?_)))))))
       exact at_return (0, (0, (false, ()))) [] h (by kernel_rfl) trivial (congrArg (fun z => (z.1, z.2.1, z.2.2, ())) (show ((0, 0, false)) = D_spec_ReadUvarint x0 x1 from by unfold D_spec_ReadUvarint; first | (exfalso; omega) | (show (0, 0, false) = readUv x0; first | exact uvRF_six hok0.2 (by omega) | exact uvRF_len hok0.2 (by omega) | exact uvRF_bad hok0.2 (by omega) (by omega) (by omega) (by omega)) | exact uvRF_good hok0.2 (by omega) (by omega) (by omega) (by omega)))
      ·refine at_regq [{}, { hint := some (aB true) }, {}, {}, { hint := some (aB false) }] { ts := [0, 1, 4, 5, 6, 7, 8, 17, 18, 19, 20, 21, 22, 43, 44, 47, 48, 49], os := [] } [(AV.p (.c (.v (.bool (decide ((x0.getD i 0) = 0))))) = AV.p (.c (.v (.bool true)))), (AV.p (.c (.v (.bool (decide (((i : Nat) : Int) > 0))))) = AV.p (.c (.v (.bool false))))] gamOK hT h (by kernel_rfl) ⟨hint_bool (decide_eq_true h5), hint_bool (decide_eq_false h6), trivial⟩ fun a w h => then_normal ?_
       refine at_test (decide (((uvN x0 (i + 1) : Nat) : Int) > 1000000000000)) h (by kernel_rfl) (fun h7 => ?_) (fun h7 => ?_)
       ·replace h7 : ((uvN x0 (i + 1) : Nat) : Int) > 1000000000000 := of_decide_eq_true h7
        refine wp_seq ?_
        refine at_regq [] { ts := [0, 1, 4, 5, 6, 7, 8, 17, 18, 19, 20, 21, 22, 43, 44, 47, 48], os := [] } [] gamOK hT h (by kernel_rfl) trivial fun a w h => then_normal (wp_ret (then_ret (in_ret (then_ret (then_ret (in_ret (then_ret ?_)))))))
        exact at_return (0, (0, (false, ()))) [] h (by kernel_rfl) trivial (congrArg (fun z => (z.1, z.2.1, z.2.2, ())) (show ((0, 0, false)) = D_spec_ReadUvarint x0 x1 from by unfold D_spec_ReadUvarint; first | (exfalso; omega) | (show (0, 0, false) = readUv x0; first | exact uvRF_six hok0.2 (by omega) | exact uvRF_len hok0.2 (by omega) | exact uvRF_bad hok0.2 (by omega) (by omega) (by omega) (by omega)) | exact uvRF_good hok0.2 (by omega) (by omega) (by omega) (by omega)))
       ·replace h7 : ¬ (((uvN x0 (i + 1) : Nat) : Int) > 1000000000000) := of_decide_eq_false h7
        refine wp_skip (then_normal (wp_seq ?_))
        refine at_regq [{}, {}, {}, { hint := some (aI ((i : Nat) : Int)) }, { nw := true }] { ts := [0, 1, 4, 5, 6, 7, 8, 17, 18, 19, 20, 21, 22, 43, 44, 47, 48], os := [] } [(AV.p (.c (.v (.int .i64 (IntKind.i64.wrap (x1 + ((i : Nat) : Int)))))) = AV.p (.c (.v (.int .i64 (((i : Nat) : Int)))))), I64 (((i : Nat) : Int) + 1)] gamOK hT h (by kernel_rfl) ⟨hint_int (by exact wrap0 hpx (by omega)), ⟨by first | omega | (simp only [lsA]; omega) | (simp <;> omega), by first | omega | (simp only [lsA]; omega) | (simp <;> omega)⟩, trivial⟩ fun a w h => then_normal (wp_ret (in_ret (then_ret (then_ret (in_ret (then_ret ?_))))))
        exact at_return (((uvN x0 (i + 1) : Nat) : Int), (((i : Nat) : Int) + 1, (true, ()))) [] h (by kernel_rfl) trivial (congrArg (fun z => (z.1, z.2.1, z.2.2, ())) (show ((((uvN x0 (i + 1) : Nat) : Int), ((i : Nat) : Int) + 1, true)) = D_spec_ReadUvarint x0 x1 from by unfold D_spec_ReadUvarint; first | (exfalso; omega) | (show (0, 0, false) = readUv x0; first | exact uvRF_six hok0.2 (by omega) | exact uvRF_len hok0.2 (by omega) | exact uvRF_bad hok0.2 (by omega) (by omega) (by omega) (by omega)) | exact uvRF_good hok0.2 (by omega) (by omega) (by omega) (by omega)))
     ·refine at_regq [{}, { hint := some (aB false) }] { ts := [0, 1, 4, 5, 6, 7, 8, 17, 18, 19, 20, 21, 22, 43, 44, 47, 48, 49], os := [] } [(AV.p (.c (.v (.bool (decide ((x0.getD i 0) = 0))))) = AV.p (.c (.v (.bool false))))] gamOK hT h (by kernel_rfl) ⟨hint_bool (decide_eq_false h5), trivial⟩ fun a w h => then_normal ?_
      refine at_test (decide (((uvN x0 (i + 1) : Nat) : Int) > 1000000000000)) h (by kernel_rfl) (fun h8 => ?_) (fun h8 => ?_)
      ·replace h8 : ((uvN x0 (i + 1) : Nat) : Int) > 1000000000000 := of_decide_eq_true h8
       refine wp_seq ?_
       refine at_regq [] { ts := [0, 1, 4, 5, 6, 7, 8, 17, 18, 19, 20, 21, 22, 43, 44, 47, 48], os := [] } [] gamOK hT h (by kernel_rfl) trivial fun a w h => then_normal (wp_ret (then_ret (in_ret (then_ret (then_ret (in_ret (then_ret ?_)))))))
       exact at_return (0, (0, (false, ()))) [] h (by kernel_rfl) trivial (congrArg (fun z => (z.1, z.2.1, z.2.2, ())) (show ((0, 0, false)) = D_spec_ReadUvarint x0 x1 from by unfold D_spec_ReadUvarint; first | (exfalso; omega) | (show (0, 0, false) = readUv x0; first | exact uvRF_six hok0.2 (by omega) | exact uvRF_len hok0.2 (by omega) | exact uvRF_bad hok0.2 (by omega) (by omega) (by omega) (by omega)) | exact uvRF_good hok0.2 (by omega) (by omega) (by omega) (by omega)))
      ·replace h8 : ¬ (((uvN x0 (i + 1) : Nat) : Int) > 1000000000000) := of_decide_eq_false h8
       refine wp_skip (then_normal (wp_seq ?_))
       refine at_regq [{}, {}, {}, { hint := some (aI ((i : Nat) : Int)) }, { nw := true }] { ts := [0, 1, 4, 5, 6, 7, 8, 17, 18, 19, 20, 21, 22, 43, 44, 47, 48], os := [] } [(AV.p (.c (.v (.int .i64 (IntKind.i64.wrap (x1 + ((i : Nat) : Int)))))) = AV.p (.c (.v (.int .i64 (((i : Nat) : Int)))))), I64 (((i : Nat) : Int) + 1)] gamOK hT h (by kernel_rfl) ⟨hint_int (by exact wrap0 hpx (by omega)), ⟨by first | omega | (simp only [lsA]; omega) | (simp <;> omega), by first | omega | (simp only [lsA]; omega) | (simp <;> omega)⟩, trivial⟩ fun a w h => then_normal (wp_ret (in_ret (then_ret (then_ret (in_ret (then_ret ?_))))))
       exact at_return (((uvN x0 (i + 1) : Nat) : Int), (((i : Nat) : Int) + 1, (true, ()))) [] h (by kernel_rfl) trivial (congrArg (fun z => (z.1, z.2.1, z.2.2, ())) (show ((((uvN x0 (i + 1) : Nat) : Int), ((i : Nat) : Int) + 1, true)) = D_spec_ReadUvarint x0 x1 from by unfold D_spec_ReadUvarint; first | (exfalso; omega) | (show (0, 0, false) = readUv x0; first | exact uvRF_six hok0.2 (by omega) | exact uvRF_len hok0.2 (by omega) | exact uvRF_bad hok0.2 (by omega) (by omega) (by omega) (by omega)) | exact uvRF_good hok0.2 (by omega) (by omega) (by omega) (by omega)))
    ·replace h4 : ¬ ((x0.getD i 0) < 128) := of_decide_eq_false h4
     refine wp_skip (in_normal (then_normal ?_))
     refine at_regq [{}, { nw := true }] { ts := [0, 1, 4, 5, 6, 7, 8, 17, 18, 19, 20, 21, 22], os := [] } [I64 (((i : Nat) : Int) + 1)] gamOK hT h (by kernel_rfl) ⟨⟨by first | omega | (simp only [lsA]; omega) | (simp <;> omega), by first | omega | (simp only [lsA]; omega) | (simp <;> omega)⟩, trivial⟩ fun a w h => ?_
     replace h := at_out (σ' := ⟨[(0, aF (.u8 5) x0), (1, aI x1), (4, aI 0), (5, aI 0), (6, aB false), (7, aI ((uvN x0 (i + 1) : Nat) : Int)), (8, aI (((i : Nat) : Int) + 1))], []⟩) { ts := [0, 1, 4, 5, 6, 7, 8], os := [] } h (by kernel_rfl)
     exact ⟨i + 1, at_eq h (st_congr2 (fun (d0 : Int) (d1 : Int) => (⟨[(0, aF (.u8 5) x0), (1, aI x1), (4, aI 0), (5, aI 0), (6, aB false), (7, aI d0), (8, aI d1)], []⟩ : St)) (show (((uvN x0 (i + 1) : Nat) : Int) : Int) = ((uvN x0 (i + 1) : Nat) : Int) from by first | with_reducible rfl | (rfl) | rfl) (show (((i : Nat) : Int) + 1 : Int) = (((i + 1) : Nat) : Int) from by first | with_reducible rfl | (omega) | rfl)), (by exact ⟨by omega, uvRF_next hok0.2 (by omega) (by omega) (by omega)⟩), (by omega)⟩
 ·replace h1 : ¬ (((i : Nat) : Int) < 6) := of_decide_eq_false h1
  refine wp_exit (then_exit (then_exit (in_hit (then_normal (wp_seq ?_)))))
  refine at_regq [] { ts := [4, 5, 6], os := [] } [] gamOK hT h (by kernel_rfl) trivial fun a w h => then_normal (wp_ret ?_)
  exact at_return (0, (0, (false, ()))) [] h (by kernel_rfl) trivial (congrArg (fun z => (z.1, z.2.1, z.2.2, ())) (show ((0, 0, false)) = D_spec_ReadUvarint x0 x1 from by unfold D_spec_ReadUvarint; first | (exfalso; omega) | (show (0, 0, false) = readUv x0; first | exact uvRF_six hok0.2 (by omega) | exact uvRF_len hok0.2 (by omega) | exact uvRF_bad hok0.2 (by omega) (by omega) (by omega) (by omega)) | exact uvRF_good hok0.2 (by omega) (by omega) (by omega) (by omega)))

def D_impl_ReadBytes := (fun (b : List Int) (_ : Int) (m : Int) => readB b m)
abbrev Q_impl_ReadBytes := (fun (x0 : (List Int)) (x1 : Int) (x2 : Int) => Sh.fit s28 x0 ∧ x1 = 0)
def S_impl_ReadBytes : Sum := { fid := 66, dom := [s28, (.int 3), (.int 3)], cod := [s28, (.int 3), (.bool 4)], dp := true, fz := false, pre := fun x => Q_impl_ReadBytes x.1 x.2.1 x.2.2.1, g := fun x => ((D_impl_ReadBytes x.1 x.2.1 x.2.2.1).1, ((D_impl_ReadBytes x.1 x.2.1 x.2.2.1).2.1, ((D_impl_ReadBytes x.1 x.2.1 x.2.2.1).2.2, ()))) }
def S_impl_ReadBytes_tab : List (Nat × Sum) := [(89, S_impl_ReadUvarint), (90, S_slices_Clone_S_byte_byte_)]
theorem S_impl_ReadBytes_ok : FnOK Tryz.prog 66 S_impl_ReadBytes := by
 refine at_enter 44 (fun x => ⟨[(0, aF (.u8 5) x.1), (1, aI x.2.1), (2, aI x.2.2.1)], []⟩) Tryz.func66 rfl (by kernel_rfl) (fun x => rfl) ?_
 rintro w0 Z0 ⟨x0, x1, x2, u⟩ a w
 revert x0 x1 x2
 intro (x0 : (List Int)) (x1 : Int) (x2 : Int) hpre hlens h
 replace hpre : Q_impl_ReadBytes x0 x1 x2 := hpre
 have hu0 : u8L x0 := hlens.1.2
 have hT : TabOK Tryz.prog S_impl_ReadBytes_tab := (.cons S_impl_ReadUvarint_ok (.cons S_slices_Clone_S_byte_byte__ok .nil))
 obtain ⟨hf0, hpx⟩ := hpre
 have hn0_1 : List.length x0 ≤ 1073741824 := hf0.1
 have hrb := readUv_bd x0
 refine wp_seq ?_
 refine at_regq [] { ts := [0, 1, 2, 6, 7, 8], os := [] } [] gamOK hT h (by kernel_rfl) trivial fun a w h => then_normal (wp_seq ?_)
 refine at_regq [] { ts := [0, 2, 6, 7, 8, 9, 10, 11], os := [] } [Q_impl_ReadUvarint x0 x1] gamOK hT h (by kernel_rfl) ⟨(by exact ⟨hf0, by assumption⟩), trivial⟩ fun a w h => then_normal (wp_seq (wp_seq ?_))
 rcases Bool.eq_false_or_eq_true (!(readUv x0).2.2) with h1 | h1
 ·have hzh1 : (readUv x0).2.2 = false := notT h1
  refine at_regq [{}, { hint := some (aB true) }] { ts := [0, 6, 7, 8, 9, 10, 33], os := [] } [(AV.p (.c (.v (.bool (!(readUv x0).2.2)))) = AV.p (.c (.v (.bool true))))] gamOK hT h (by kernel_rfl) ⟨hint_bool (h1), trivial⟩ fun a w h => then_normal ?_
  refine at_test true h (by kernel_rfl) (fun hh => ?_) (fun hh => nomatch hh)
  refine wp_seq ?_
  refine at_regq [] { ts := [0, 6, 7, 8, 9, 10], os := [] } [] gamOK hT h (by kernel_rfl) trivial fun a w h => then_normal (wp_ret (then_ret ?_))
  exact at_return (([] : List Int), (0, (false, ()))) [] h (by kernel_rfl) trivial (congrArg (fun z => (z.1, z.2.1, z.2.2, ())) (show ((([] : List Int), 0, false)) = D_impl_ReadBytes x0 x1 x2 from by unfold D_impl_ReadBytes; first | exact readB_n (by first | (left; assumption) | (right; left; omega) | (right; right; omega)) | exact readB_y (by assumption) (by omega) (by omega)))
 ·have hzh1 : (readUv x0).2.2 = true := notF h1
  by_cases h2 : (readUv x0).1 > x2
  ·refine at_regq [{}, { hint := some (aB false) }, {}, {}, {}, { hint := some (aB true) }] { ts := [0, 6, 7, 8, 9, 10, 33], os := [] } [(AV.p (.c (.v (.bool (!(readUv x0).2.2)))) = AV.p (.c (.v (.bool false)))), (AV.p (.c (.v (.bool (decide ((readUv x0).1 > x2))))) = AV.p (.c (.v (.bool true))))] gamOK hT h (by kernel_rfl) ⟨hint_bool (h1), hint_bool (decide_eq_true h2), trivial⟩ fun a w h => then_normal ?_
   refine at_test true h (by kernel_rfl) (fun hh => ?_) (fun hh => nomatch hh)
   refine wp_seq ?_
   refine at_regq [] { ts := [0, 6, 7, 8, 9, 10], os := [] } [] gamOK hT h (by kernel_rfl) trivial fun a w h => then_normal (wp_ret (then_ret ?_))
   exact at_return (([] : List Int), (0, (false, ()))) [] h (by kernel_rfl) trivial (congrArg (fun z => (z.1, z.2.1, z.2.2, ())) (show ((([] : List Int), 0, false)) = D_impl_ReadBytes x0 x1 x2 from by unfold D_impl_ReadBytes; first | exact readB_n (by first | (left; assumption) | (right; left; omega) | (right; right; omega)) | exact readB_y (by assumption) (by omega) (by omega)))
  ·refine at_regq [{}, { hint := some (aB false) }, {}, {}, {}, { hint := some (aB false) }, {}, {}, {}, {}, {}, {}, { nw := true }] { ts := [0, 6, 7, 8, 9, 10, 33], os := [] } [(AV.p (.c (.v (.bool (!(readUv x0).2.2)))) = AV.p (.c (.v (.bool false)))), (AV.p (.c (.v (.bool (decide ((readUv x0).1 > x2))))) = AV.p (.c (.v (.bool false)))), I64 (((List.length x0 : Nat) : Int) - (readUv x0).2.1)] gamOK hT h (by kernel_rfl) ⟨hint_bool (h1), hint_bool (decide_eq_false h2), ⟨by first | omega | (simp only [lsA]; omega) | (simp <;> omega), by first | omega | (simp only [lsA]; omega) | (simp <;> omega)⟩, trivial⟩ fun a w h => then_normal ?_
   refine at_test (decide ((readUv x0).1 > ((List.length x0 : Nat) : Int) - (readUv x0).2.1)) h (by kernel_rfl) (fun h3 => ?_) (fun h3 => ?_)
   ·replace h3 : (readUv x0).1 > ((List.length x0 : Nat) : Int) - (readUv x0).2.1 := of_decide_eq_true h3
    refine wp_seq ?_
    refine at_regq [] { ts := [0, 6, 7, 8, 9, 10], os := [] } [] gamOK hT h (by kernel_rfl) trivial fun a w h => then_normal (wp_ret (then_ret ?_))
    exact at_return (([] : List Int), (0, (false, ()))) [] h (by kernel_rfl) trivial (congrArg (fun z => (z.1, z.2.1, z.2.2, ())) (show ((([] : List Int), 0, false)) = D_impl_ReadBytes x0 x1 x2 from by unfold D_impl_ReadBytes; first | exact readB_n (by first | (left; assumption) | (right; left; omega) | (right; right; omega)) | exact readB_y (by assumption) (by omega) (by omega)))
   ·replace h3 : ¬ ((readUv x0).1 > ((List.length x0 : Nat) : Int) - (readUv x0).2.1) := of_decide_eq_false h3
    refine wp_skip (then_normal (wp_seq ?_))
    refine at_regq [{}, {}, {}, {}, { nw := true }, {}, { ids := [1] }, {}, {}, { nw := true }] { ts := [6, 7, 8], os := [1] } [I64 ((readUv x0).2.1 + (readUv x0).1), (0 : Int) ≤ (readUv x0).2.1 ∧ (readUv x0).2.1 ≤ (readUv x0).2.1 + (readUv x0).1 ∧ (readUv x0).2.1 + (readUv x0).1 ≤ ((List.length x0 : Nat) : Int), (lenOK (α := Int)) (List.drop (((readUv x0).2.1).toNat) (List.take (((readUv x0).2.1 + (readUv x0).1).toNat) x0)), I64 ((readUv x0).2.1 + (readUv x0).1)] gamOK hT h (by kernel_rfl) ⟨⟨by first | omega | (simp only [lsA]; omega) | (simp <;> omega), by first | omega | (simp only [lsA]; omega) | (simp <;> omega)⟩, (by refine ⟨?_, ?_, ?_⟩ <;> (first | omega | (simp only [lsA]; omega) | (simp <;> omega))), (by (show List.length _ ≤ 1073741824; rw [List.length_drop, List.length_take]; omega)), ⟨by first | omega | (simp only [lsA]; omega) | (simp <;> omega), by first | omega | (simp only [lsA]; omega) | (simp <;> omega)⟩, trivial⟩ fun a w h => then_normal (wp_ret ?_)
    exact at_return ((List.drop (((readUv x0).2.1).toNat) (List.take (((readUv x0).2.1 + (readUv x0).1).toNat) x0)), ((readUv x0).2.1 + (readUv x0).1, (true, ()))) [] h (by kernel_rfl) trivial (congrArg (fun z => (z.1, z.2.1, z.2.2, ())) (show (((List.drop (((readUv x0).2.1).toNat) (List.take (((readUv x0).2.1 + (readUv x0).1).toNat) x0)), (readUv x0).2.1 + (readUv x0).1, true)) = D_impl_ReadBytes x0 x1 x2 from by unfold D_impl_ReadBytes; first | exact readB_n (by first | (left; assumption) | (right; left; omega) | (right; right; omega)) | exact readB_y (by assumption) (by omega) (by omega)))

abbrev Q_impl_SymbolsToBytes := (fun (x0 : (List (List Int))) => Sh.fit s55 x0 ∧ (List.length x0 ≤ 10000 ∧ ∀ j, List.length (x0.getD j []) ≤ 40))
def S_impl_SymbolsToBytes : Sum := { fid := 39, dom := [s55], cod := [s28, (.bool 4)], dp := true, fz := false, pre := fun x => Q_impl_SymbolsToBytes x.1, g := fun x => ((toBy x.1).1, ((toBy x.1).2, ())) }
def S_impl_SymbolsToBytes_tab : List (Nat × Sum) := [(66, S_impl_ReadBytes), (69, S_impl_ColumnsOf), (68, S_impl_BytesToSymbols), (67, S_impl_EqualMatrices)]
theorem S_impl_SymbolsToBytes_ok : FnOK Tryz.prog 39 S_impl_SymbolsToBytes := by
 refine at_enter 52 (fun x => ⟨[(0, aF s22 x.1)], []⟩) Tryz.func39 rfl (by kernel_rfl) (fun x => rfl) ?_
 rintro w0 Z0 ⟨x0, u⟩ a w
 revert x0
 intro (x0 : (List (List Int))) hpre hlens h
 replace hpre : Q_impl_SymbolsToBytes x0 := hpre
 have hT : TabOK Tryz.prog S_impl_SymbolsToBytes_tab := (.cons S_impl_ReadBytes_ok (.cons S_impl_ColumnsOf_ok (.cons S_impl_BytesToSymbols_ok (.cons S_impl_EqualMatrices_ok .nil))))
 obtain ⟨hf0, hpx⟩ := hpre
 have hn0_1 : List.length x0 ≤ 1073741824 := hf0.1
 have hrd := readB_len (catA x0) 400 (by decide)
 refine wp_seq ?_
 refine at_regq [] { ts := [0, 2, 3], os := [] } [] gamOK hT h (by kernel_rfl) trivial fun a w h => then_normal (wp_seq ?_)
 refine at_regq [] { ts := [0, 2, 3, 4], os := [] } [] gamOK hT h (by kernel_rfl) trivial fun a w h => then_normal (wp_seq (wp_seq ?_))
 refine at_regq [] { ts := [0, 2, 3, 4, 12, 13, 14], os := [] } [] gamOK hT h (by kernel_rfl) trivial fun a w h => then_normal (wp_block ?_)
 replace h := at_out (σ' := ⟨[(0, aF s22 x0), (2, .p (.c (cN))), (3, aB false), (4, aS 1), (12, aF s22 x0), (13, aI ((List.length x0 : Nat) : Int)), (14, aI 0)], [(1, oR (.u8 5) ([] : List Int))]⟩) { mt := [⟨none, 4, 1, true, (.u8 5)⟩], ts := [0, 2, 3, 4, 12, 13, 14], os := [1] } h (by kernel_rfl)
 refine at_loop (fun i : Nat => (⟨[(0, aF s22 x0), (2, .p (.c (cN))), (3, aB false), (4, aS 1), (12, aF s22 x0), (13, aI ((List.length x0 : Nat) : Int)), (14, aI ((i : Nat) : Int))], [(1, oR (.u8 5) (catTo x0 i))]⟩ : St)) (fun i => (i ≤ List.length x0 ∧ List.length (catTo x0 i) ≤ 432)) (fun i => List.length x0 - i) (0) h (st_congr2 (fun (d0 : List Int) (d1 : Int) => (⟨[(0, aF s22 x0), (2, .p (.c (cN))), (3, aB false), (4, aS 1), (12, aF s22 x0), (13, aI ((List.length x0 : Nat) : Int)), (14, aI d1)], [(1, oR (.u8 5) d0)]⟩ : St)) (show (([] : List Int) : List Int) = (catTo x0 (0)) from by first | with_reducible rfl | (rfl) | rfl) (show (0 : Int) = (((0) : Nat) : Int) from by first | with_reducible rfl | (rfl) | rfl)) (by exact ⟨Nat.zero_le _, Nat.zero_le _⟩) ?_
 intro i a w hok0 h
 have hrw : List.length (x0.getD i []) ≤ 1073741824 := (Sh.fit_getD hf0 i).1
 refine wp_seq ?_
 refine at_regq [] { ts := [0, 2, 3, 4, 12, 13, 14, 15], os := [1] } [] gamOK hT h (by kernel_rfl) trivial fun a w h => then_normal (wp_seq ?_)
 refine at_test (decide (((i : Nat) : Int) < ((List.length x0 : Nat) : Int))) h (by kernel_rfl) (fun h1 => ?_) (fun h1 => ?_)
 ·replace h1 : ((i : Nat) : Int) < ((List.length x0 : Nat) : Int) := of_decide_eq_true h1
  refine wp_skip (then_normal (wp_seq (wp_block (wp_seq ?_))))
  refine at_regq [] { ts := [0, 2, 3, 4, 6, 12, 13, 14], os := [1] } [(0 : Int) ≤ ((i : Nat) : Int) ∧ ((i : Nat) : Int) < ((List.length x0 : Nat) : Int)] gamOK hT h (by kernel_rfl) ⟨(by refine ⟨?_, ?_⟩ <;> (first | omega | (simp only [lsA, wrL_len]; omega) | (simp <;> omega))), trivial⟩ fun a w h => then_normal (wp_seq (wp_seq ?_))
  refine at_regq [] { ts := [0, 2, 3, 4, 12, 13, 14, 18, 19, 20], os := [1] } [] gamOK hT h (by kernel_rfl) trivial fun a w h => then_normal (wp_block ?_)
  replace h := at_out (σ' := ⟨[(0, aF s22 x0), (2, .p (.c (cN))), (3, aB false), (4, aS 1), (12, aF s22 x0), (13, aI ((List.length x0 : Nat) : Int)), (14, aI ((i : Nat) : Int)), (18, aF (.int 3) (x0.getD i [])), (19, aI ((List.length (x0.getD i []) : Nat) : Int)), (20, aI 0)], [(1, oR (.u8 5) (catTo x0 i))]⟩) { ts := [0, 2, 3, 4, 12, 13, 14, 18, 19, 20], os := [1] } h (by kernel_rfl)
  refine at_loop (fun k : Nat => (⟨[(0, aF s22 x0), (2, .p (.c (cN))), (3, aB false), (4, aS 1), (12, aF s22 x0), (13, aI ((List.length x0 : Nat) : Int)), (14, aI ((i : Nat) : Int)), (18, aF (.int 3) (x0.getD i [])), (19, aI ((List.length (x0.getD i []) : Nat) : Int)), (20, aI ((k : Nat) : Int))], [(1, oR (.u8 5) (catTo x0 i ++ wrL (List.take k (x0.getD i []))))]⟩ : St)) (fun k => k ≤ List.length (x0.getD i [])) (fun k => List.length (x0.getD i []) - k) (0) h (st_congr2 (fun (d0 : List Int) (d1 : Int) => (⟨[(0, aF s22 x0), (2, .p (.c (cN))), (3, aB false), (4, aS 1), (12, aF s22 x0), (13, aI ((List.length x0 : Nat) : Int)), (14, aI ((i : Nat) : Int)), (18, aF (.int 3) (x0.getD i [])), (19, aI ((List.length (x0.getD i []) : Nat) : Int)), (20, aI d1)], [(1, oR (.u8 5) d0)]⟩ : St)) (show ((catTo x0 i) : List Int) = (catTo x0 i ++ wrL (List.take (0) (x0.getD i []))) from by first | with_reducible rfl | ((simp [wrL]; done)) | rfl) (show (0 : Int) = (((0) : Nat) : Int) from by first | with_reducible rfl | ((simp [wrL]; done)) | rfl)) (by omega) ?_
  intro k a w hok1 h
  have hwl := wrL_len (List.take k (x0.getD i []))
  have htl := len_take_le (xs := (x0.getD i [])) k
  refine wp_seq ?_
  refine at_regq [] { ts := [0, 2, 3, 4, 12, 13, 14, 18, 19, 20, 21], os := [1] } [] gamOK hT h (by kernel_rfl) trivial fun a w h => then_normal (wp_seq ?_)
  refine at_test (decide (((k : Nat) : Int) < ((List.length (x0.getD i []) : Nat) : Int))) h (by kernel_rfl) (fun h2 => ?_) (fun h2 => ?_)
  ·replace h2 : ((k : Nat) : Int) < ((List.length (x0.getD i []) : Nat) : Int) := of_decide_eq_true h2
   refine wp_skip (then_normal (wp_seq (wp_block (wp_seq ?_))))
   refine at_regq [] { ts := [0, 2, 3, 4, 8, 12, 13, 14, 18, 19, 20], os := [1] } [(0 : Int) ≤ ((k : Nat) : Int) ∧ ((k : Nat) : Int) < ((List.length (x0.getD i []) : Nat) : Int)] gamOK hT h (by kernel_rfl) ⟨(by refine ⟨?_, ?_⟩ <;> ((have hL0 := (show List.length (x0.getD i []) ≤ 1073741824 from ((Sh.fit_getD hf0 i)).1); first | omega | (simp only [lsA, wrL_len]; omega) | (simp <;> omega)))), trivial⟩ fun a w h => then_normal ?_
   refine at_regq [{}, {}, {}, { ids := [2] }, { ids := [3] }] { ts := [0, 2, 3, 4, 12, 13, 14, 18, 19, 20], os := [3] } [(0 : Int) ≤ IntKind.u8.wrap (((x0.getD i []).getD k 0)) ∧ IntKind.u8.wrap (((x0.getD i []).getD k 0)) < (256 : Int), (List.length (catTo x0 i ++ wrL (List.take k (x0.getD i []))) + List.length ([IntKind.u8.wrap (((x0.getD i []).getD k 0))])) * 1 ≤ 140737488355328] gamOK hT h (by kernel_rfl) ⟨(by first | exact u8_range _ | exact getD_u8 (by assumption) _ | (refine ⟨?_, ?_⟩ <;> (first | omega | (simp only [lsA, wrL_len]; omega) | (simp <;> omega)))), (by first | omega | (simp only [lsA, wrL_len]; omega) | (simp <;> omega)), trivial⟩ fun a w h => in_normal (then_normal ?_)
   refine at_regq [{ nw := true }] { ts := [0, 2, 3, 4, 12, 13, 14, 18, 19, 20], os := [3] } [I64 (((k : Nat) : Int) + 1)] gamOK hT h (by kernel_rfl) ⟨⟨by first | omega | (simp only [lsA, wrL_len]; omega) | (simp <;> omega), by first | omega | (simp only [lsA, wrL_len]; omega) | (simp <;> omega)⟩, trivial⟩ fun a w h => ?_
   replace h := at_out (σ' := ⟨[(0, aF s22 x0), (2, .p (.c (cN))), (3, aB false), (4, aS 1), (12, aF s22 x0), (13, aI ((List.length x0 : Nat) : Int)), (14, aI ((i : Nat) : Int)), (18, aF (.int 3) (x0.getD i [])), (19, aI ((List.length (x0.getD i []) : Nat) : Int)), (20, aI (((k : Nat) : Int) + 1))], [(1, oR (.u8 5) ((catTo x0 i ++ wrL (List.take k (x0.getD i []))) ++ ([IntKind.u8.wrap (((x0.getD i []).getD k 0))])))]⟩) { ts := [0, 2, 3, 4, 12, 13, 14, 18, 19, 20], os := [3], rn := [(3, 1)] } h (by kernel_rfl)
   exact ⟨k + 1, at_eq h (st_congr2 (fun (d0 : List Int) (d1 : Int) => (⟨[(0, aF s22 x0), (2, .p (.c (cN))), (3, aB false), (4, aS 1), (12, aF s22 x0), (13, aI ((List.length x0 : Nat) : Int)), (14, aI ((i : Nat) : Int)), (18, aF (.int 3) (x0.getD i [])), (19, aI ((List.length (x0.getD i []) : Nat) : Int)), (20, aI d1)], [(1, oR (.u8 5) d0)]⟩ : St)) (show (((catTo x0 i ++ wrL (List.take k (x0.getD i []))) ++ ([IntKind.u8.wrap (((x0.getD i []).getD k 0))])) : List Int) = (catTo x0 i ++ wrL (List.take (k + 1) (x0.getD i []))) from by first | with_reducible rfl | ((rw [wrL_step (by omega), List.append_assoc])) | rfl) (show (((k : Nat) : Int) + 1 : Int) = (((k + 1) : Nat) : Int) from by first | with_reducible rfl | (omega) | rfl)), (by omega), (by omega)⟩
  ·replace h2 : ¬ (((k : Nat) : Int) < ((List.length (x0.getD i []) : Nat) : Int)) := of_decide_eq_false h2
   refine wp_exit (then_exit ?_)
   replace h := at_out (σ' := ⟨[(0, aF s22 x0), (2, .p (.c (cN))), (3, aB false), (4, aS 1), (12, aF s22 x0), (13, aI ((List.length x0 : Nat) : Int)), (14, aI ((i : Nat) : Int))], [(1, oR (.u8 5) (catTo x0 i ++ wrL (List.take k (x0.getD i []))))]⟩) { ts := [0, 2, 3, 4, 12, 13, 14], os := [1] } h (by kernel_rfl)
   replace h := at_eq (σ' := ⟨[(0, aF s22 x0), (2, .p (.c (cN))), (3, aB false), (4, aS 1), (12, aF s22 x0), (13, aI ((List.length x0 : Nat) : Int)), (14, aI ((i : Nat) : Int))], [(1, oR (.u8 5) (catTo x0 (i + 1)))]⟩) h (st_congr1 (fun (d0 : List Int) => (⟨[(0, aF s22 x0), (2, .p (.c (cN))), (3, aB false), (4, aS 1), (12, aF s22 x0), (13, aI ((List.length x0 : Nat) : Int)), (14, aI ((i : Nat) : Int))], [(1, oR (.u8 5) d0)]⟩ : St)) (show ((catTo x0 i ++ wrL (List.take k (x0.getD i []))) : List Int) = (catTo x0 (i + 1)) from by first | with_reducible rfl | ((rw [take_all (by omega)]; rfl)) | rfl))
   refine then_exit (in_hit (then_normal (wp_seq ?_)))
   refine at_regq [] { ts := [0, 2, 3, 4, 12, 13, 14, 32], os := [1] } [] gamOK hT h (by kernel_rfl) trivial fun a w h => then_normal ?_
   refine at_test (decide (((List.length (catTo x0 (i + 1)) : Nat) : Int) > 432)) h (by kernel_rfl) (fun h3 => ?_) (fun h3 => ?_)
   ·replace h3 : ((List.length (catTo x0 (i + 1)) : Nat) : Int) > 432 := of_decide_eq_true h3
    refine wp_seq ?_
    refine at_regq [] { ts := [0, 2, 3, 4, 12, 13, 14], os := [1] } [] gamOK hT h (by kernel_rfl) trivial fun a w h => then_normal (wp_ret (in_ret (then_ret ?_)))
    have hs4 : (shortB x0) = false := by exact shortB_f (i := i + 1) (by omega) (by omega)
    refine then_ret (in_ret (then_ret ?_))
    exact at_return (([] : List Int), (false, ())) [] h (by kernel_rfl) trivial (congrArg (fun z => (z.1, z.2, ())) (show ((([] : List Int), false)) = toBy x0 from by first | exact toBy_n (by first | (left; assumption) | (right; left; assumption) | (right; right; exact Sh.of_eqB_ne (by assumption))) | exact toBy_y (by assumption) (by assumption) (Sh.of_eqB (by assumption))))
   ·replace h3 : ¬ (((List.length (catTo x0 (i + 1)) : Nat) : Int) > 432) := of_decide_eq_false h3
    refine wp_skip (in_normal (then_normal ?_))
    refine at_regq [{ nw := true }] { ts := [0, 2, 3, 4, 12, 13, 14], os := [1] } [I64 (((i : Nat) : Int) + 1)] gamOK hT h (by kernel_rfl) ⟨⟨by first | omega | (simp only [lsA, wrL_len]; omega) | (simp <;> omega), by first | omega | (simp only [lsA, wrL_len]; omega) | (simp <;> omega)⟩, trivial⟩ fun a w h => ?_
    replace h := at_out (σ' := ⟨[(0, aF s22 x0), (2, .p (.c (cN))), (3, aB false), (4, aS 1), (12, aF s22 x0), (13, aI ((List.length x0 : Nat) : Int)), (14, aI (((i : Nat) : Int) + 1))], [(1, oR (.u8 5) (catTo x0 (i + 1)))]⟩) { ts := [0, 2, 3, 4, 12, 13, 14], os := [1] } h (by kernel_rfl)
    exact ⟨i + 1, at_eq h (st_congr2 (fun (d0 : List Int) (d1 : Int) => (⟨[(0, aF s22 x0), (2, .p (.c (cN))), (3, aB false), (4, aS 1), (12, aF s22 x0), (13, aI ((List.length x0 : Nat) : Int)), (14, aI d1)], [(1, oR (.u8 5) d0)]⟩ : St)) (show ((catTo x0 (i + 1)) : List Int) = (catTo x0 (i + 1)) from by first | with_reducible rfl | (rfl) | rfl) (show (((i : Nat) : Int) + 1 : Int) = (((i + 1) : Nat) : Int) from by first | with_reducible rfl | (omega) | rfl)), (by constructor <;> omega), (by omega)⟩
 ·replace h1 : ¬ (((i : Nat) : Int) < ((List.length x0 : Nat) : Int)) := of_decide_eq_false h1
  refine wp_exit (then_exit ?_)
  have hs5 : (shortB x0) = true := by exact shortB_t (by omega) hok0.1 hok0.2
  replace h := at_out (σ' := ⟨[(0, aF s22 x0), (2, .p (.c (cN))), (3, aB false), (4, aS 1)], [(1, oR (.u8 5) (catTo x0 i))]⟩) { ts := [0, 2, 3, 4], os := [1] } h (by kernel_rfl)
  replace h := at_eq (σ' := ⟨[(0, aF s22 x0), (2, .p (.c (cN))), (3, aB false), (4, aS 1)], [(1, oR (.u8 5) (catA x0))]⟩) h (st_congr1 (fun (d0 : List Int) => (⟨[(0, aF s22 x0), (2, .p (.c (cN))), (3, aB false), (4, aS 1)], [(1, oR (.u8 5) d0)]⟩ : St)) (show ((catTo x0 i) : List Int) = (catA x0) from by first | with_reducible rfl | (exact catA_eq (by omega) hok0.1) | rfl))
  have hcl : List.length (catA x0) ≤ 432 := of_decide_eq_true (show shortB x0 = true by assumption)
  refine then_exit (in_hit (then_normal (wp_seq ?_)))
  refine at_regq [{}, { ids := [4] }] { ts := [0, 2, 3, 9, 11], os := [4] } [Q_impl_ReadBytes (catA x0) 0 400] gamOK hT h (by kernel_rfl) ⟨(by exact ⟨(Sh.fit_len (t := 28) (s := (.u8 5)) rfl (by omega)), rfl⟩), trivial⟩ fun a w h => then_normal (wp_seq (wp_seq ?_))
  rcases Bool.eq_false_or_eq_true (!(readB (catA x0) 400).2.2) with h6 | h6
  ·have hzh6 : (readB (catA x0) 400).2.2 = false := notT h6
   refine at_regq [{}, { hint := some (aB true) }] { ts := [2, 3, 9, 50], os := [4] } [(AV.p (.c (.v (.bool (!(readB (catA x0) 400).2.2)))) = AV.p (.c (.v (.bool true))))] gamOK hT h (by kernel_rfl) ⟨hint_bool (h6), trivial⟩ fun a w h => then_normal ?_
   refine at_test true h (by kernel_rfl) (fun hh => ?_) (fun hh => nomatch hh)
   refine wp_seq ?_
   refine at_regq [] { ts := [2, 3, 9], os := [4] } [] gamOK hT h (by kernel_rfl) trivial fun a w h => then_normal (wp_ret (then_ret ?_))
   exact at_return (([] : List Int), (false, ())) [] h (by kernel_rfl) trivial (congrArg (fun z => (z.1, z.2, ())) (show ((([] : List Int), false)) = toBy x0 from by first | exact toBy_n (by first | (left; assumption) | (right; left; assumption) | (right; right; exact Sh.of_eqB_ne (by assumption))) | exact toBy_y (by assumption) (by assumption) (Sh.of_eqB (by assumption))))
  ·have hzh6 : (readB (catA x0) 400).2.2 = true := notF h6
   refine at_regq [{}, { hint := some (aB false) }, {}, {}, {}, {}, { ids := [5] }] { ts := [2, 3, 9, 50], os := [4] } [(AV.p (.c (.v (.bool (!(readB (catA x0) 400).2.2)))) = AV.p (.c (.v (.bool false)))), Q_impl_ColumnsOf x0, Q_impl_BytesToSymbols (readB (catA x0) 400).1 (colsOf x0), True] gamOK hT h (by kernel_rfl) ⟨hint_bool (h6), (by exact hf0), (by exact (Sh.fit_len (t := 28) (s := (.u8 5)) rfl (by omega))), trivial, trivial⟩ fun a w h => then_normal ?_
   refine at_test (!((Sh.eqB s55) (symD (readB (catA x0) 400).1 (colsOf x0)) x0)) h (by kernel_rfl) (fun h7 => ?_) (fun h7 => ?_)
   ·replace h7 : ((Sh.eqB s55) (symD (readB (catA x0) 400).1 (colsOf x0)) x0) = false := notT h7
    refine wp_seq ?_
    refine at_regq [] { ts := [2, 3, 9], os := [4] } [] gamOK hT h (by kernel_rfl) trivial fun a w h => then_normal (wp_ret (then_ret ?_))
    exact at_return (([] : List Int), (false, ())) [] h (by kernel_rfl) trivial (congrArg (fun z => (z.1, z.2, ())) (show ((([] : List Int), false)) = toBy x0 from by first | exact toBy_n (by first | (left; assumption) | (right; left; assumption) | (right; right; exact Sh.of_eqB_ne (by assumption))) | exact toBy_y (by assumption) (by assumption) (Sh.of_eqB (by assumption))))
   ·replace h7 : ((Sh.eqB s55) (symD (readB (catA x0) 400).1 (colsOf x0)) x0) = true := notF h7
    refine wp_skip (then_normal (wp_seq ?_))
    refine at_regq [] { ts := [2, 3], os := [4] } [] gamOK hT h (by kernel_rfl) trivial fun a w h => then_normal (wp_ret ?_)
    exact at_return ((readB (catA x0) 400).1, (true, ())) [] h (by kernel_rfl) trivial (congrArg (fun z => (z.1, z.2, ())) (show (((readB (catA x0) 400).1, true)) = toBy x0 from by first | exact toBy_n (by first | (left; assumption) | (right; left; assumption) | (right; right; exact Sh.of_eqB_ne (by assumption))) | exact toBy_y (by assumption) (by assumption) (Sh.of_eqB (by assumption))))

abbrev Q_spec_SymbolsToBytes := (fun (x0 : (List (List Int))) => Sh.fit s55 x0 ∧ (List.length x0 ≤ 10000 ∧ ∀ j, List.length (x0.getD j []) ≤ 40))
def S_spec_SymbolsToBytes : Sum := { fid := 34, dom := [s55], cod := [s28, (.bool 4)], dp := true, fz := false, pre := fun x => Q_spec_SymbolsToBytes x.1, g := fun x => ((toBy x.1).1, ((toBy x.1).2, ())) }
def S_spec_SymbolsToBytes_tab : List (Nat × Sum) := [(45, S_spec_l1In), (53, S_spec_ReadUvarint), (51, S_spec_ColumnsOf), (55, S_spec_BytesToSymbols), (54, S_spec_EqualMatrices)]
theorem S_spec_SymbolsToBytes_ok : FnOK Tryz.prog 34 S_spec_SymbolsToBytes := by
 refine at_enter 82 (fun x => ⟨[(0, aF s22 x.1)], []⟩) Tryz.func34 rfl (by kernel_rfl) (fun x => rfl) ?_
 rintro w0 Z0 ⟨x0, u⟩ a w
 revert x0
 intro (x0 : (List (List Int))) hpre hlens h
 replace hpre : Q_spec_SymbolsToBytes x0 := hpre
 have hT : TabOK Tryz.prog S_spec_SymbolsToBytes_tab := (.cons S_spec_l1In_ok (.cons S_spec_ReadUvarint_ok (.cons S_spec_ColumnsOf_ok (.cons S_spec_BytesToSymbols_ok (.cons S_spec_EqualMatrices_ok .nil)))))
 obtain ⟨hf0, hpx⟩ := hpre
 have hn0_1 : List.length x0 ≤ 1073741824 := hf0.1
 refine wp_seq ?_
 refine at_regq [] { ts := [0, 2, 3], os := [] } [] gamOK hT h (by kernel_rfl) trivial fun a w h => then_normal (wp_seq ?_)
 refine at_regq [{ ids := [1] }] { ts := [0, 2, 3, 4], os := [1] } [] gamOK hT h (by kernel_rfl) trivial fun a w h => then_normal (wp_seq (wp_seq ?_))
 refine at_regq [] { ts := [0, 2, 3, 4, 5], os := [1] } [] gamOK hT h (by kernel_rfl) trivial fun a w h => then_normal (wp_block ?_)
 replace h := at_out (σ' := ⟨[(0, aF s22 x0), (2, .p (.c (cN))), (3, aB false), (4, aS 1), (5, aI 0)], [(1, oR (.u8 5) ([] : List Int))]⟩) { ts := [0, 2, 3, 4, 5], os := [1] } h (by kernel_rfl)
 refine at_loop (fun i : Nat => (⟨[(0, aF s22 x0), (2, .p (.c (cN))), (3, aB false), (4, aS 1), (5, aI ((i : Nat) : Int))], [(1, oR (.u8 5) (catTo x0 i))]⟩ : St)) (fun i => (i ≤ List.length x0 ∧ allTo1 byR x0 [] i)) (fun i => List.length x0 - i) (0) h (st_congr2 (fun (d0 : List Int) (d1 : Int) => (⟨[(0, aF s22 x0), (2, .p (.c (cN))), (3, aB false), (4, aS 1), (5, aI d1)], [(1, oR (.u8 5) d0)]⟩ : St)) (show (([] : List Int) : List Int) = (catTo x0 (0)) from by first | with_reducible rfl | (rfl) | rfl) (show (0 : Int) = (((0) : Nat) : Int) from by first | with_reducible rfl | (rfl) | rfl)) (by exact ⟨Nat.zero_le _, allTo1_zero⟩) ?_
 intro i a w hok0 h
 have hrw : List.length (x0.getD i []) ≤ 1073741824 := (Sh.fit_getD hf0 i).1
 have hcl := catTo_le hpx.2 i
 refine wp_seq (wp_seq ?_)
 refine at_regq [] { ts := [0, 2, 3, 4, 5, 15], os := [1] } [] gamOK hT h (by kernel_rfl) trivial fun a w h => then_normal ?_
 refine at_test (decide (((i : Nat) : Int) < ((List.length x0 : Nat) : Int))) h (by kernel_rfl) (fun h1 => ?_) (fun h1 => ?_)
 ·replace h1 : ((i : Nat) : Int) < ((List.length x0 : Nat) : Int) := of_decide_eq_true h1
  refine wp_skip (then_normal (wp_seq (wp_block (wp_seq ?_))))
  refine at_regq [] { ts := [0, 2, 3, 4, 5, 6], os := [1] } [] gamOK hT h (by kernel_rfl) trivial fun a w h => then_normal (wp_block ?_)
  replace h := at_out (σ' := ⟨[(0, aF s22 x0), (2, .p (.c (cN))), (3, aB false), (4, aS 1), (5, aI ((i : Nat) : Int)), (6, aI 0)], [(1, oR (.u8 5) (catTo x0 i))]⟩) { ts := [0, 2, 3, 4, 5, 6], os := [1] } h (by kernel_rfl)
  refine at_loop (fun k : Nat => (⟨[(0, aF s22 x0), (2, .p (.c (cN))), (3, aB false), (4, aS 1), (5, aI ((i : Nat) : Int)), (6, aI ((k : Nat) : Int))], [(1, oR (.u8 5) (catTo x0 i ++ wrL (List.take k (x0.getD i []))))]⟩ : St)) (fun k => (k ≤ List.length (x0.getD i []) ∧ allTo1 (fun x => inR x 0 255) (x0.getD i []) 0 k)) (fun k => List.length (x0.getD i []) - k) (0) h (st_congr2 (fun (d0 : List Int) (d1 : Int) => (⟨[(0, aF s22 x0), (2, .p (.c (cN))), (3, aB false), (4, aS 1), (5, aI ((i : Nat) : Int)), (6, aI d1)], [(1, oR (.u8 5) d0)]⟩ : St)) (show ((catTo x0 i) : List Int) = (catTo x0 i ++ wrL (List.take (0) (x0.getD i []))) from by first | with_reducible rfl | ((simp [wrL]; done)) | rfl) (show (0 : Int) = (((0) : Nat) : Int) from by first | with_reducible rfl | ((simp [wrL]; done)) | rfl)) (by exact ⟨Nat.zero_le _, allTo1_zero⟩) ?_
  intro k a w hok1 h
  have hwl := wrL_len (List.take k (x0.getD i []))
  have htl := len_take_le (xs := (x0.getD i [])) k
  refine wp_seq (wp_seq ?_)
  refine at_regq [] { ts := [0, 2, 3, 4, 5, 6, 24], os := [1] } [(0 : Int) ≤ ((i : Nat) : Int) ∧ ((i : Nat) : Int) < ((List.length x0 : Nat) : Int)] gamOK hT h (by kernel_rfl) ⟨(by refine ⟨?_, ?_⟩ <;> (first | omega | (simp only [lsA, wrL_len]; omega) | (simp <;> omega))), trivial⟩ fun a w h => then_normal ?_
  refine at_test (decide (((k : Nat) : Int) < ((List.length (x0.getD i []) : Nat) : Int))) h (by kernel_rfl) (fun h2 => ?_) (fun h2 => ?_)
  ·replace h2 : ((k : Nat) : Int) < ((List.length (x0.getD i []) : Nat) : Int) := of_decide_eq_true h2
   refine wp_skip (then_normal (wp_seq (wp_block (wp_seq (wp_seq ?_)))))
   refine at_regq [] { ts := [0, 2, 3, 4, 5, 6, 35], os := [1] } [(0 : Int) ≤ ((i : Nat) : Int) ∧ ((i : Nat) : Int) < ((List.length x0 : Nat) : Int), (0 : Int) ≤ ((k : Nat) : Int) ∧ ((k : Nat) : Int) < ((List.length (x0.getD i []) : Nat) : Int), True] gamOK hT h (by kernel_rfl) ⟨(by refine ⟨?_, ?_⟩ <;> (first | omega | (simp only [lsA, wrL_len]; omega) | (simp <;> omega))), (by refine ⟨?_, ?_⟩ <;> ((have hL0 := (show List.length (x0.getD i []) ≤ 1073741824 from ((Sh.fit_getD hf0 i)).1); first | omega | (simp only [lsA, wrL_len]; omega) | (simp <;> omega)))), trivial, trivial⟩ fun a w h => then_normal ?_
   refine at_test (!(inR ((x0.getD i []).getD k 0) 0 255)) h (by kernel_rfl) (fun h3 => ?_) (fun h3 => ?_)
   ·replace h3 : (inR ((x0.getD i []).getD k 0) 0 255) = false := notT h3
    have hvh3 := inR_f h3
    refine wp_seq ?_
    refine at_regq [{ ids := [2] }] { ts := [0, 2, 3, 4, 5, 6], os := [1, 2] } [] gamOK hT h (by kernel_rfl) trivial fun a w h => then_normal (wp_ret (then_ret (in_ret (then_ret ?_))))
    have hs4 : (List.all (x0.getD i []) (fun x => inR x 0 255)) = false := by exact all_at (z := 0) (i := k) (by omega) (by first | assumption | (simp_all; done))
    refine then_ret (in_ret (in_ret (then_ret ?_)))
    have hs5 : (List.all x0 byR) = false := by exact all_at (z := []) (i := i) (by omega) (by show List.all _ _ = false; assumption)
    refine then_ret (in_ret (then_ret ?_))
    exact at_return (([] : List Int), (false, ())) [] h (by kernel_rfl) trivial (congrArg (fun z => (z.1, z.2, ())) (show ((([] : List Int), false)) = toBy x0 from by first | exact toBy_r (by assumption) | exact toBy_u (by first | (left; assumption) | (right; omega)) | exact toBy_e (Sh.of_eqB_ne (by assumption)) | exact toBy_z (by assumption) (by omega) (Sh.of_eqB (by assumption))))
   ·replace h3 : (inR ((x0.getD i []).getD k 0) 0 255) = true := notF h3
    have hvh3 := inR_t h3
    refine wp_skip (then_normal ?_)
    refine at_regq [{}, {}, {}, {}, {}, {}, {}, {}, {}, { ids := [3] }, { ids := [4] }] { ts := [0, 2, 3, 4, 5, 6], os := [4] } [(0 : Int) ≤ ((i : Nat) : Int) ∧ ((i : Nat) : Int) < ((List.length x0 : Nat) : Int), (0 : Int) ≤ ((k : Nat) : Int) ∧ ((k : Nat) : Int) < ((List.length (x0.getD i []) : Nat) : Int), (0 : Int) ≤ IntKind.u8.wrap (((x0.getD i []).getD k 0)) ∧ IntKind.u8.wrap (((x0.getD i []).getD k 0)) < (256 : Int), (List.length (catTo x0 i ++ wrL (List.take k (x0.getD i []))) + List.length ([IntKind.u8.wrap (((x0.getD i []).getD k 0))])) * 1 ≤ 140737488355328] gamOK hT h (by kernel_rfl) ⟨(by refine ⟨?_, ?_⟩ <;> (first | omega | (simp only [lsA, wrL_len]; omega) | (simp <;> omega))), (by refine ⟨?_, ?_⟩ <;> ((have hL0 := (show List.length (x0.getD i []) ≤ 1073741824 from ((Sh.fit_getD hf0 i)).1); first | omega | (simp only [lsA, wrL_len]; omega) | (simp <;> omega)))), (by first | exact u8_range _ | exact getD_u8 (by assumption) _ | (refine ⟨?_, ?_⟩ <;> (first | omega | (simp only [lsA, wrL_len]; omega) | (simp <;> omega)))), (by first | omega | (simp only [lsA, wrL_len]; omega) | (simp <;> omega)), trivial⟩ fun a w h => in_normal (then_normal ?_)
    refine at_regq [{}, { nw := true }] { ts := [0, 2, 3, 4, 5, 6], os := [4] } [I64 (((k : Nat) : Int) + 1)] gamOK hT h (by kernel_rfl) ⟨⟨by first | omega | (simp only [lsA, wrL_len]; omega) | (simp <;> omega), by first | omega | (simp only [lsA, wrL_len]; omega) | (simp <;> omega)⟩, trivial⟩ fun a w h => ?_
    replace h := at_out (σ' := ⟨[(0, aF s22 x0), (2, .p (.c (cN))), (3, aB false), (4, aS 1), (5, aI ((i : Nat) : Int)), (6, aI (((k : Nat) : Int) + 1))], [(1, oR (.u8 5) ((catTo x0 i ++ wrL (List.take k (x0.getD i []))) ++ ([IntKind.u8.wrap (((x0.getD i []).getD k 0))])))]⟩) { ts := [0, 2, 3, 4, 5, 6], os := [4], rn := [(4, 1)] } h (by kernel_rfl)
    exact ⟨k + 1, at_eq h (st_congr2 (fun (d0 : List Int) (d1 : Int) => (⟨[(0, aF s22 x0), (2, .p (.c (cN))), (3, aB false), (4, aS 1), (5, aI ((i : Nat) : Int)), (6, aI d1)], [(1, oR (.u8 5) d0)]⟩ : St)) (show (((catTo x0 i ++ wrL (List.take k (x0.getD i []))) ++ ([IntKind.u8.wrap (((x0.getD i []).getD k 0))])) : List Int) = (catTo x0 i ++ wrL (List.take (k + 1) (x0.getD i []))) from by first | with_reducible rfl | ((rw [wrL_step (by omega), List.append_assoc])) | rfl) (show (((k : Nat) : Int) + 1 : Int) = (((k + 1) : Nat) : Int) from by first | with_reducible rfl | (omega) | rfl)), (by exact ⟨by omega, allTo1_succ hok1.2 (by first | assumption | (simp_all; done))⟩), (by omega)⟩
  ·replace h2 : ¬ (((k : Nat) : Int) < ((List.length (x0.getD i []) : Nat) : Int)) := of_decide_eq_false h2
   refine wp_exit (then_exit ?_)
   have hs6 : (List.all (x0.getD i []) (fun x => inR x 0 255)) = true := by exact all_of (z := 0) (i := k) (by omega) hok1.2
   replace h := at_out (σ' := ⟨[(0, aF s22 x0), (2, .p (.c (cN))), (3, aB false), (4, aS 1), (5, aI ((i : Nat) : Int))], [(1, oR (.u8 5) (catTo x0 i ++ wrL (List.take k (x0.getD i []))))]⟩) { ts := [0, 2, 3, 4, 5], os := [1] } h (by kernel_rfl)
   replace h := at_eq (σ' := ⟨[(0, aF s22 x0), (2, .p (.c (cN))), (3, aB false), (4, aS 1), (5, aI ((i : Nat) : Int))], [(1, oR (.u8 5) (catTo x0 (i + 1)))]⟩) h (st_congr1 (fun (d0 : List Int) => (⟨[(0, aF s22 x0), (2, .p (.c (cN))), (3, aB false), (4, aS 1), (5, aI ((i : Nat) : Int))], [(1, oR (.u8 5) d0)]⟩ : St)) (show ((catTo x0 i ++ wrL (List.take k (x0.getD i []))) : List Int) = (catTo x0 (i + 1)) from by first | with_reducible rfl | ((rw [take_all (by omega)]; rfl)) | rfl))
   refine then_exit (in_hit (in_normal (then_normal ?_)))
   refine at_regq [{}, { nw := true }] { ts := [0, 2, 3, 4, 5], os := [1] } [I64 (((i : Nat) : Int) + 1)] gamOK hT h (by kernel_rfl) ⟨⟨by first | omega | (simp only [lsA, wrL_len]; omega) | (simp <;> omega), by first | omega | (simp only [lsA, wrL_len]; omega) | (simp <;> omega)⟩, trivial⟩ fun a w h => ?_
   replace h := at_out (σ' := ⟨[(0, aF s22 x0), (2, .p (.c (cN))), (3, aB false), (4, aS 1), (5, aI (((i : Nat) : Int) + 1))], [(1, oR (.u8 5) (catTo x0 (i + 1)))]⟩) { ts := [0, 2, 3, 4, 5], os := [1] } h (by kernel_rfl)
   exact ⟨i + 1, at_eq h (st_congr2 (fun (d0 : List Int) (d1 : Int) => (⟨[(0, aF s22 x0), (2, .p (.c (cN))), (3, aB false), (4, aS 1), (5, aI d1)], [(1, oR (.u8 5) d0)]⟩ : St)) (show ((catTo x0 (i + 1)) : List Int) = (catTo x0 (i + 1)) from by first | with_reducible rfl | (rfl) | rfl) (show (((i : Nat) : Int) + 1 : Int) = (((i + 1) : Nat) : Int) from by first | with_reducible rfl | (omega) | rfl)), (by exact ⟨by omega, allTo1_succ hok0.2 (by show List.all _ _ = true; assumption)⟩), (by omega)⟩
 ·replace h1 : ¬ (((i : Nat) : Int) < ((List.length x0 : Nat) : Int)) := of_decide_eq_false h1
  refine wp_exit (then_exit ?_)
  have hs7 : (List.all x0 byR) = true := by exact all_of (z := []) (i := i) (by omega) hok0.2
  replace h := at_out (σ' := ⟨[(0, aF s22 x0), (2, .p (.c (cN))), (3, aB false), (4, aS 1)], [(1, oR (.u8 5) (catTo x0 i))]⟩) { ts := [0, 2, 3, 4], os := [1] } h (by kernel_rfl)
  replace h := at_eq (σ' := ⟨[(0, aF s22 x0), (2, .p (.c (cN))), (3, aB false), (4, aS 1)], [(1, oR (.u8 5) (catA x0))]⟩) h (st_congr1 (fun (d0 : List Int) => (⟨[(0, aF s22 x0), (2, .p (.c (cN))), (3, aB false), (4, aS 1)], [(1, oR (.u8 5) d0)]⟩ : St)) (show ((catTo x0 i) : List Int) = (catA x0) from by first | with_reducible rfl | (exact catA_eq (by omega) hok0.1) | rfl))
  have hcl : List.length (catA x0) ≤ 40 * _ := catTo_le hpx.2 _
  have hrb := readUv_bd (catA x0)
  refine then_exit (in_hit (then_normal (wp_seq ?_)))
  refine at_regq [] { ts := [0, 2, 3, 4, 7, 8, 9], os := [1] } [Q_spec_ReadUvarint (catA x0) 0] gamOK hT h (by kernel_rfl) ⟨(by exact ⟨(Sh.fit_len (t := 28) (s := (.u8 5)) rfl (by omega)), rfl⟩), trivial⟩ fun a w h => then_normal (wp_seq (wp_seq ?_))
  rcases Bool.eq_false_or_eq_true (!(readUv (catA x0)).2.2) with h8 | h8
  ·have hzh8 : (readUv (catA x0)).2.2 = false := notT h8
   refine at_regq [{}, { hint := some (aB true) }] { ts := [0, 2, 3, 4, 7, 8, 63], os := [1] } [(AV.p (.c (.v (.bool (!(readUv (catA x0)).2.2)))) = AV.p (.c (.v (.bool true))))] gamOK hT h (by kernel_rfl) ⟨hint_bool (h8), trivial⟩ fun a w h => then_normal ?_
   refine at_test true h (by kernel_rfl) (fun hh => ?_) (fun hh => nomatch hh)
   refine wp_seq ?_
   refine at_regq [{ ids := [5] }] { ts := [0, 2, 3, 4, 7, 8], os := [1, 5] } [] gamOK hT h (by kernel_rfl) trivial fun a w h => then_normal (wp_ret (then_ret ?_))
   exact at_return (([] : List Int), (false, ())) [] h (by kernel_rfl) trivial (congrArg (fun z => (z.1, z.2, ())) (show ((([] : List Int), false)) = toBy x0 from by first | exact toBy_r (by assumption) | exact toBy_u (by first | (left; assumption) | (right; omega)) | exact toBy_e (Sh.of_eqB_ne (by assumption)) | exact toBy_z (by assumption) (by omega) (Sh.of_eqB (by assumption))))
  ·have hzh8 : (readUv (catA x0)).2.2 = true := notF h8
   refine at_regq [{}, { hint := some (aB false) }, {}, {}, {}, {}, {}, { nw := true }] { ts := [0, 2, 3, 4, 7, 8, 63], os := [1] } [(AV.p (.c (.v (.bool (!(readUv (catA x0)).2.2)))) = AV.p (.c (.v (.bool false)))), I64 (((List.length (catA x0) : Nat) : Int) - (readUv (catA x0)).2.1)] gamOK hT h (by kernel_rfl) ⟨hint_bool (h8), ⟨by first | omega | (simp only [lsA, wrL_len]; omega) | (simp <;> omega), by first | omega | (simp only [lsA, wrL_len]; omega) | (simp <;> omega)⟩, trivial⟩ fun a w h => then_normal ?_
   refine at_test (decide ((readUv (catA x0)).1 > ((List.length (catA x0) : Nat) : Int) - (readUv (catA x0)).2.1)) h (by kernel_rfl) (fun h9 => ?_) (fun h9 => ?_)
   ·replace h9 : (readUv (catA x0)).1 > ((List.length (catA x0) : Nat) : Int) - (readUv (catA x0)).2.1 := of_decide_eq_true h9
    refine wp_seq ?_
    refine at_regq [{ ids := [5] }] { ts := [0, 2, 3, 4, 7, 8], os := [1, 5] } [] gamOK hT h (by kernel_rfl) trivial fun a w h => then_normal (wp_ret (then_ret ?_))
    exact at_return (([] : List Int), (false, ())) [] h (by kernel_rfl) trivial (congrArg (fun z => (z.1, z.2, ())) (show ((([] : List Int), false)) = toBy x0 from by first | exact toBy_r (by assumption) | exact toBy_u (by first | (left; assumption) | (right; omega)) | exact toBy_e (Sh.of_eqB_ne (by assumption)) | exact toBy_z (by assumption) (by omega) (Sh.of_eqB (by assumption))))
   ·replace h9 : ¬ ((readUv (catA x0)).1 > ((List.length (catA x0) : Nat) : Int) - (readUv (catA x0)).2.1) := of_decide_eq_false h9
    refine wp_skip (then_normal (wp_seq ?_))
    replace h := at_out (σ' := ⟨[(0, aF s22 x0), (2, .p (.c (cN))), (3, aB false), (4, aF (.u8 5) (catA x0)), (7, aI (readUv (catA x0)).1), (8, aI (readUv (catA x0)).2.1)], []⟩) { fz := [1], ts := [0, 2, 3, 4, 7, 8], os := [] } h (by kernel_rfl)
    refine at_regq [{ ids := [6] }, {}, {}, {}, {}, { nw := true }, {}, { ids := [7] }] { ts := [0, 2, 3, 10], os := [7] } [I64 ((readUv (catA x0)).2.1 + (readUv (catA x0)).1), (0 : Int) ≤ (readUv (catA x0)).2.1 ∧ (readUv (catA x0)).2.1 ≤ (readUv (catA x0)).2.1 + (readUv (catA x0)).1 ∧ (readUv (catA x0)).2.1 + (readUv (catA x0)).1 ≤ ((List.length (catA x0) : Nat) : Int), (List.length ([] : List Int) + List.length (List.drop (((readUv (catA x0)).2.1).toNat) (List.take (((readUv (catA x0)).2.1 + (readUv (catA x0)).1).toNat) (catA x0)))) * 1 ≤ 140737488355328] gamOK hT h (by kernel_rfl) ⟨⟨by first | omega | (simp only [lsA, wrL_len]; omega) | (simp <;> omega), by first | omega | (simp only [lsA, wrL_len]; omega) | (simp <;> omega)⟩, (by refine ⟨?_, ?_, ?_⟩ <;> (first | omega | (simp only [lsA, wrL_len]; omega) | (simp <;> omega))), (by first | omega | (simp only [lsA, wrL_len]; omega) | (simp <;> omega)), trivial⟩ fun a w h => then_normal (wp_seq (wp_seq ?_))
    refine at_regq [{}, {}, {}, { ids := [8] }] { ts := [2, 3, 10, 79], os := [7] } [Q_spec_ColumnsOf x0, Q_spec_BytesToSymbols (([] : List Int) ++ (List.drop (((readUv (catA x0)).2.1).toNat) (List.take (((readUv (catA x0)).2.1 + (readUv (catA x0)).1).toNat) (catA x0)))) (colsOf x0), True] gamOK hT h (by kernel_rfl) ⟨(by exact hf0), (by (exact (Sh.fit_len (t := 28) (s := (.u8 5)) rfl (by rw [List.nil_append, List.length_drop, List.length_take]; omega)))), trivial, trivial⟩ fun a w h => then_normal ?_
    refine at_test (!((Sh.eqB s55) (symD (([] : List Int) ++ (List.drop (((readUv (catA x0)).2.1).toNat) (List.take (((readUv (catA x0)).2.1 + (readUv (catA x0)).1).toNat) (catA x0)))) (colsOf x0)) x0)) h (by kernel_rfl) (fun h10 => ?_) (fun h10 => ?_)
    ·replace h10 : ((Sh.eqB s55) (symD (([] : List Int) ++ (List.drop (((readUv (catA x0)).2.1).toNat) (List.take (((readUv (catA x0)).2.1 + (readUv (catA x0)).1).toNat) (catA x0)))) (colsOf x0)) x0) = false := notT h10
     refine wp_seq ?_
     refine at_regq [{ ids := [9] }] { ts := [2, 3, 10], os := [7, 9] } [] gamOK hT h (by kernel_rfl) trivial fun a w h => then_normal (wp_ret (then_ret ?_))
     exact at_return (([] : List Int), (false, ())) [] h (by kernel_rfl) trivial (congrArg (fun z => (z.1, z.2, ())) (show ((([] : List Int), false)) = toBy x0 from by first | exact toBy_r (by assumption) | exact toBy_u (by first | (left; assumption) | (right; omega)) | exact toBy_e (Sh.of_eqB_ne (by assumption)) | exact toBy_z (by assumption) (by omega) (Sh.of_eqB (by assumption))))
    ·replace h10 : ((Sh.eqB s55) (symD (([] : List Int) ++ (List.drop (((readUv (catA x0)).2.1).toNat) (List.take (((readUv (catA x0)).2.1 + (readUv (catA x0)).1).toNat) (catA x0)))) (colsOf x0)) x0) = true := notF h10
     refine wp_skip (then_normal (wp_seq ?_))
     refine at_regq [] { ts := [2, 3], os := [7] } [] gamOK hT h (by kernel_rfl) trivial fun a w h => then_normal (wp_ret ?_)
     exact at_return ((([] : List Int) ++ (List.drop (((readUv (catA x0)).2.1).toNat) (List.take (((readUv (catA x0)).2.1 + (readUv (catA x0)).1).toNat) (catA x0)))), (true, ())) [] h (by kernel_rfl) trivial (congrArg (fun z => (z.1, z.2, ())) (show (((([] : List Int) ++ (List.drop (((readUv (catA x0)).2.1).toNat) (List.take (((readUv (catA x0)).2.1 + (readUv (catA x0)).1).toNat) (catA x0)))), true)) = toBy x0 from by first | exact toBy_r (by assumption) | exact toBy_u (by first | (left; assumption) | (right; omega)) | exact toBy_e (Sh.of_eqB_ne (by assumption)) | exact toBy_z (by assumption) (by omega) (Sh.of_eqB (by assumption))))
def joinB (l : List T64) (i : Nat) : Bool := validG (l.getD i (0, [])) && (decide (i = 0) || decide ((l.getD i (0, [])).1 = (l.getD (((i : Nat) : Int) - 1).toNat (0, [])).1 + 1))
theorem joinB_t {l : List T64} {i : Nat} (h : validG (l.getD i (0, [])) = true) (h2 : i = 0 ∨ (l.getD i (0, [])).1 = (l.getD (((i : Nat) : Int) - 1).toNat (0, [])).1 + 1) : joinB l i = true := by
 unfold joinB; rw [h, Bool.true_and, Bool.or_eq_true, decide_eq_true_iff, decide_eq_true_iff]; exact h2
theorem joinB_f {l : List T64} {i : Nat} (h : validG (l.getD i (0, [])) = false ∨ (0 < i ∧ ¬ (l.getD i (0, [])).1 = (l.getD (((i : Nat) : Int) - 1).toNat (0, [])).1 + 1)) : joinB l i = false := by
 unfold joinB
 rcases h with h | h
 ·rw [h]; rfl
 ·rw [decide_eq_false h.2, decide_eq_false (by omega)]; simp
theorem joinB_v {l : List T64} {n i : Nat} (h : allN (joinB l) n = true) (hi : i < n) : validG (l.getD i (0, [])) = true := by
 have := allN_iff.1 h i hi
 unfold joinB at this
 rw [Bool.and_eq_true] at this
 exact this.1
theorem joinB_prev {l : List T64} {i : Nat} (h : allN (joinB l) i = true) : 0 < i → 0 ≤ (l.getD (((i : Nat) : Int) - 1).toNat (0, [])).1 ∧ (l.getD (((i : Nat) : Int) - 1).toNat (0, [])).1 ≤ 1000000000000 := fun hi => (validG_t (joinB_v h (by omega))).1
def joinTo (l : List T64) : Nat → List (List Int)
 | 0 => []
 | i + 1 => joinTo l i ++ (l.getD i (0, [])).2
theorem joinTo_len {l : List T64} {n : Nat} (h : allN (joinB l) n = true) : ∀ i, i ≤ n → (joinTo l i).length ≤ 8 * i
 | 0, _ => Nat.le_refl _
 | i + 1, hi => by
  have h1 := joinTo_len h i (by omega)
  have h2 := (validG_t (joinB_v h (i := i) (by omega))).2.1
  simp only [joinTo, List.length_append]; omega
theorem joinTo_row {l : List T64} {n : Nat} (h : allN (joinB l) n = true) : ∀ i, i ≤ n → ∀ r ∈ joinTo l i, r.length ≤ 16
 | 0, _ => fun r hr => by cases hr
 | i + 1, hi => fun r hr => by
  rcases List.mem_append.1 hr with h1 | h1
  ·exact joinTo_row h i (by omega) r h1
  ·have hv := validG_t (joinB_v h (i := i) (by omega))
   have h2 := ((validM_t hv.2.2.1).2 r h1).2
   have h3 := colsOf_at (m := (l.getD i (0, [])).2) (by omega)
   omega
theorem join_pre {l : List T64} {i : Nat} (h : allN (joinB l) (List.length l) = true) (hl : List.length l ≤ 1000) : (List.length (joinTo l (List.length l)) ≤ 10000 ∧ ∀ j, List.length ((joinTo l (List.length l)).getD j []) ≤ 40) := by
 have h1 := joinTo_len h _ (Nat.le_refl _)
 refine ⟨by omega, fun j => ?_⟩
 by_cases hj : j < (joinTo l (List.length l)).length
 ·have := joinTo_row h _ (Nat.le_refl _) _ (getD_mem (z := []) hj); omega
 ·rw [List.getD_eq_getElem?_getD, List.getElem?_eq_none (by omega)]; exact Nat.zero_le _
theorem join_fit {l : List T64} (h : allN (joinB l) (List.length l) = true) (hl : List.length l ≤ 1000) : Sh.fit s55 (joinTo l (List.length l)) :=
 ⟨by have := joinTo_len h _ (Nat.le_refl _); omega, fun r hr => ⟨by have := joinTo_row h _ (Nat.le_refl _) r hr; omega, fun _ _ => trivial⟩⟩
def joinD (l : List T64) : List Int × Bool := if allN (joinB l) (List.length l) = true then toBy (joinTo l (List.length l)) else ([], false)
theorem joinD_y {l : List T64} (h : allN (joinB l) (List.length l) = true) : toBy (joinTo l (List.length l)) = joinD l := (if_pos h).symm
theorem joinD_n {l : List T64} (h : allN (joinB l) (List.length l) = false) : ([], false) = joinD l := (if_neg (by rw [h]; decide)).symm
theorem joinD_len (l : List T64) : (joinD l).1.length ≤ 400 := by
 unfold joinD; split
 ·exact toBy_len _
 ·exact Nat.zero_le _

abbrev Q_impl_JoinGenerations := (fun (x0 : (List T64)) => Sh.fit s32 x0 ∧ List.length x0 ≤ 1000)
def S_impl_JoinGenerations : Sum := { fid := 22, dom := [s32], cod := [s28, (.bool 4)], dp := true, fz := false, pre := fun x => Q_impl_JoinGenerations x.1, g := fun x => ((joinD x.1).1, ((joinD x.1).2, ())) }
def S_impl_JoinGenerations_tab : List (Nat × Sum) := [(38, S_impl_IsValidGeneration), (39, S_impl_SymbolsToBytes)]
theorem S_impl_JoinGenerations_ok : FnOK Tryz.prog 22 S_impl_JoinGenerations := by
 refine at_enter 42 (fun x => ⟨[(0, aF s64 x.1)], []⟩) Tryz.func22 rfl (by kernel_rfl) (fun x => rfl) ?_
 rintro w0 Z0 ⟨x0, u⟩ a w
 revert x0
 intro (x0 : (List T64)) hpre hlens h
 replace hpre : Q_impl_JoinGenerations x0 := hpre
 have hT : TabOK Tryz.prog S_impl_JoinGenerations_tab := (.cons S_impl_IsValidGeneration_ok (.cons S_impl_SymbolsToBytes_ok .nil))
 obtain ⟨hf0, hpx⟩ := hpre
 have hn0_1 : List.length x0 ≤ 1073741824 := hf0.1
 refine wp_seq ?_
 refine at_regq [] { ts := [0, 2, 3], os := [] } [] gamOK hT h (by kernel_rfl) trivial fun a w h => then_normal (wp_seq ?_)
 refine at_regq [] { ts := [0, 2, 3, 4], os := [] } [] gamOK hT h (by kernel_rfl) trivial fun a w h => then_normal (wp_seq (wp_seq ?_))
 refine at_regq [] { ts := [0, 2, 3, 4, 7, 8, 9], os := [] } [] gamOK hT h (by kernel_rfl) trivial fun a w h => then_normal (wp_block ?_)
 replace h := at_out (σ' := ⟨[(0, aF s64 x0), (2, .p (.c (cN))), (3, aB false), (4, aS 1), (7, aF s64 x0), (8, aI ((List.length x0 : Nat) : Int)), (9, aI 0)], [(1, oF s22 ([] : List (List Int)))]⟩) { mt := [⟨none, 4, 1, false, s22⟩], ts := [0, 2, 3, 4, 7, 8, 9], os := [1] } h (by kernel_rfl)
 refine at_loop (fun i : Nat => (⟨[(0, aF s64 x0), (2, .p (.c (cN))), (3, aB false), (4, aS 1), (7, aF s64 x0), (8, aI ((List.length x0 : Nat) : Int)), (9, aI ((i : Nat) : Int))], [(1, oF s22 (joinTo x0 i))]⟩ : St)) (fun i => (i ≤ (List.length x0) ∧ allN (joinB x0) i = true)) (fun i => (List.length x0) - i) (0) h (st_congr2 (fun (d0 : List (List Int)) (d1 : Int) => (⟨[(0, aF s64 x0), (2, .p (.c (cN))), (3, aB false), (4, aS 1), (7, aF s64 x0), (8, aI ((List.length x0 : Nat) : Int)), (9, aI d1)], [(1, oF s22 d0)]⟩ : St)) (show (([] : List (List Int)) : List (List Int)) = (joinTo x0 (0)) from by first | with_reducible rfl | (rfl) | rfl) (show (0 : Int) = (((0) : Nat) : Int) from by first | with_reducible rfl | (rfl) | rfl)) (by exact ⟨Nat.zero_le _, rfl⟩) ?_
 intro i a w hok0 h
 have hjl := joinTo_len hok0.2 i (Nat.le_refl _)
 have hjp := joinB_prev hok0.2
 refine wp_seq ?_
 refine at_regq [] { ts := [0, 2, 3, 4, 7, 8, 9, 10], os := [1] } [] gamOK hT h (by kernel_rfl) trivial fun a w h => then_normal (wp_seq ?_)
 refine at_test (decide (((i : Nat) : Int) < ((List.length x0 : Nat) : Int))) h (by kernel_rfl) (fun h1 => ?_) (fun h1 => ?_)
 ·replace h1 : ((i : Nat) : Int) < ((List.length x0 : Nat) : Int) := of_decide_eq_true h1
  refine wp_skip (then_normal (wp_seq (wp_block (wp_seq ?_))))
  refine at_regq [{}, {}, {}, { ids := [2] }] { ts := [0, 2, 3, 4, 5, 6, 7, 8, 9], os := [1, 2] } [(0 : Int) ≤ ((i : Nat) : Int) ∧ ((i : Nat) : Int) < ((List.length x0 : Nat) : Int)] gamOK hT h (by kernel_rfl) ⟨(by refine ⟨?_, ?_⟩ <;> (first | omega | (simp only [lsA]; omega) | (simp <;> omega))), trivial⟩ fun a w h => then_normal (wp_seq (wp_seq ?_))
  rcases Bool.eq_false_or_eq_true (!(validG (x0.getD i (0, [])))) with h2 | h2
  ·have hzh2 : (validG (x0.getD i (0, []))) = false := notT h2
   refine at_anyq [{}, {}, { hint := some (aB true) }, {}, {}, {}, {}, {}, {}, {}, {}, {}, {}, {}, {}, {}, {}, {}, {}] { ts := [0, 2, 3, 4, 6, 7, 8, 9, 18, 19, 20, 21, 22, 23, 24, 25, 26, 27, 28, 29, 30, 31, 32], os := [1, 2] } [Q_impl_IsValidGeneration (x0.getD i (0, [])), (AV.p (.c (.v (.bool (!(validG (x0.getD i (0, []))))))) = AV.p (.c (.v (.bool true))))] gamOK hT mixed h (by kernel_rfl) ⟨(by exact (Sh.fit_getD hf0 i)), hint_bool (h2), trivial⟩ fun a w h => then_normal ?_
   refine at_test true h (by kernel_rfl) (fun hh => ?_) (fun hh => nomatch hh)
   refine wp_seq ?_
   refine at_regq [] { ts := [0, 2, 3, 4, 6, 7, 8, 9, 18, 19, 20, 21, 22, 23, 24, 25, 26, 27, 28, 29, 30, 31], os := [1, 2] } [] gamOK hT h (by kernel_rfl) trivial fun a w h => then_normal (wp_ret (then_ret (in_ret (then_ret ?_))))
   have hs3 : (allN (joinB x0) (List.length x0)) = false := by exact allN_at (i := i) (by omega) (by exact joinB_f (by first | (left; assumption) | (right; exact ⟨by omega, by omega⟩)))
   refine then_ret (in_ret (then_ret ?_))
   exact at_return (([] : List Int), (false, ())) [] h (by kernel_rfl) trivial (congrArg (fun z => (z.1, z.2, ())) (show ((([] : List Int), false)) = joinD x0 from by first | exact joinD_n (by assumption) | exact joinD_y (by assumption)))
  ·have hzh2 : (validG (x0.getD i (0, []))) = true := notF h2
   have hvh2 := validG_t (notF h2)
   have hgl := (validG_t (g := x0.getD i (0, [])) (by first | assumption | exact notF h2)).2.1
   by_cases h4 : ((i : Nat) : Int) > 0
   ·refine at_anyq [{}, {}, { hint := some (aB false) }, {}, {}, { hint := some (aB true) }, {}, {}, {}, {}, {}, { nw := true }, {}, {}, {}, { nw := true }, {}, {}, {}] { ts := [0, 2, 3, 4, 6, 7, 8, 9, 18, 19, 20, 21, 22, 23, 24, 25, 26, 27, 28, 29, 30, 31, 32], os := [1, 2] } [Q_impl_IsValidGeneration (x0.getD i (0, [])), (AV.p (.c (.v (.bool (!(validG (x0.getD i (0, []))))))) = AV.p (.c (.v (.bool false)))), (AV.p (.c (.v (.bool (decide (((i : Nat) : Int) > 0))))) = AV.p (.c (.v (.bool true)))), I64 (((i : Nat) : Int) - 1), (0 : Int) ≤ ((i : Nat) : Int) - 1 ∧ ((i : Nat) : Int) - 1 < ((List.length x0 : Nat) : Int), I64 ((x0.getD ((((i : Nat) : Int) - 1).toNat) (0, [])).1 + 1)] gamOK hT mixed h (by kernel_rfl) ⟨(by exact (Sh.fit_getD hf0 i)), hint_bool (h2), hint_bool (decide_eq_true h4), ⟨by first | omega | (simp only [lsA]; omega) | (simp <;> omega), by first | omega | (simp only [lsA]; omega) | (simp <;> omega)⟩, (by refine ⟨?_, ?_⟩ <;> (first | omega | (simp only [lsA]; omega) | (simp <;> omega))), ⟨by first | omega | (simp only [lsA]; omega) | (simp <;> omega), by first | omega | (simp only [lsA]; omega) | (simp <;> omega)⟩, trivial⟩ fun a w h => then_normal ?_
    refine at_test (!decide ((x0.getD i (0, [])).1 = (x0.getD ((((i : Nat) : Int) - 1).toNat) (0, [])).1 + 1)) h (by kernel_rfl) (fun h5 => ?_) (fun h5 => ?_)
    ·replace h5 : ¬ ((x0.getD i (0, [])).1 = (x0.getD ((((i : Nat) : Int) - 1).toNat) (0, [])).1 + 1) := of_decide_eq_false (notT h5)
     refine wp_seq ?_
     refine at_regq [] { ts := [0, 2, 3, 4, 6, 7, 8, 9, 18, 19, 20, 21, 22, 23, 24, 25, 26, 27, 28, 29, 30, 31], os := [1, 2] } [] gamOK hT h (by kernel_rfl) trivial fun a w h => then_normal (wp_ret (then_ret (in_ret (then_ret ?_))))
     have hs6 : (allN (joinB x0) (List.length x0)) = false := by exact allN_at (i := i) (by omega) (by exact joinB_f (by first | (left; assumption) | (right; exact ⟨by omega, by omega⟩)))
     refine then_ret (in_ret (then_ret ?_))
     exact at_return (([] : List Int), (false, ())) [] h (by kernel_rfl) trivial (congrArg (fun z => (z.1, z.2, ())) (show ((([] : List Int), false)) = joinD x0 from by first | exact joinD_n (by assumption) | exact joinD_y (by assumption)))
    ·replace h5 : (x0.getD i (0, [])).1 = (x0.getD ((((i : Nat) : Int) - 1).toNat) (0, [])).1 + 1 := of_decide_eq_true (notF h5)
     refine wp_skip (then_normal ?_)
     refine at_regq [{}, {}, {}, { ids := [3] }] { ts := [0, 2, 3, 4, 7, 8, 9, 18, 19, 20, 21, 22, 23, 24, 25, 26, 27, 28, 29, 30, 31], os := [2, 3] } [(List.length (joinTo x0 i) + List.length (x0.getD i (0, [])).2) * 24 ≤ 140737488355328] gamOK hT h (by kernel_rfl) ⟨(by (have hL0 := (show List.length (x0.getD i (0, [])).2 ≤ 1073741824 from ((Sh.fit_getD hf0 i).2).1); first | omega | (simp only [lsA]; omega) | (simp <;> omega))), trivial⟩ fun a w h => in_normal (then_normal ?_)
     refine at_regq [{ nw := true }] { ts := [0, 2, 3, 4, 7, 8, 9, 18, 19, 20, 21, 22, 23, 24, 25, 26, 27, 28, 29, 30, 31], os := [2, 3] } [I64 (((i : Nat) : Int) + 1)] gamOK hT h (by kernel_rfl) ⟨⟨by first | omega | (simp only [lsA]; omega) | (simp <;> omega), by first | omega | (simp only [lsA]; omega) | (simp <;> omega)⟩, trivial⟩ fun a w h => ?_
     replace h := at_out (σ' := ⟨[(0, aF s64 x0), (2, .p (.c (cN))), (3, aB false), (4, aS 1), (7, aF s64 x0), (8, aI ((List.length x0 : Nat) : Int)), (9, aI (((i : Nat) : Int) + 1))], [(1, oF s22 ((joinTo x0 i) ++ (x0.getD i (0, [])).2))]⟩) { ts := [0, 2, 3, 4, 7, 8, 9], os := [3], rn := [(3, 1)] } h (by kernel_rfl)
     exact ⟨i + 1, at_eq h (st_congr2 (fun (d0 : List (List Int)) (d1 : Int) => (⟨[(0, aF s64 x0), (2, .p (.c (cN))), (3, aB false), (4, aS 1), (7, aF s64 x0), (8, aI ((List.length x0 : Nat) : Int)), (9, aI d1)], [(1, oF s22 d0)]⟩ : St)) (show (((joinTo x0 i) ++ (x0.getD i (0, [])).2) : List (List Int)) = (joinTo x0 (i + 1)) from by first | with_reducible rfl | (rfl) | rfl) (show (((i : Nat) : Int) + 1 : Int) = (((i + 1) : Nat) : Int) from by first | with_reducible rfl | (omega) | rfl)), (by exact ⟨by omega, allN_succ hok0.2 (by exact joinB_t (by assumption) (by first | (left; omega) | (right; omega)))⟩), (by omega)⟩
   ·refine at_anyq [{}, {}, { hint := some (aB false) }, {}, {}, { hint := some (aB false) }, {}, {}, {}, {}, {}, {}, {}, {}, {}, {}, {}, {}, {}] { ts := [0, 2, 3, 4, 6, 7, 8, 9, 18, 19, 20, 21, 22, 23, 24, 25, 26, 27, 28, 29, 30, 31, 32], os := [1, 2] } [Q_impl_IsValidGeneration (x0.getD i (0, [])), (AV.p (.c (.v (.bool (!(validG (x0.getD i (0, []))))))) = AV.p (.c (.v (.bool false)))), (AV.p (.c (.v (.bool (decide (((i : Nat) : Int) > 0))))) = AV.p (.c (.v (.bool false))))] gamOK hT mixed h (by kernel_rfl) ⟨(by exact (Sh.fit_getD hf0 i)), hint_bool (h2), hint_bool (decide_eq_false h4), trivial⟩ fun a w h => then_normal ?_
    refine at_test false h (by kernel_rfl) (fun hh => nomatch hh) (fun hh => ?_)
    refine wp_skip (then_normal ?_)
    refine at_regq [{}, {}, {}, { ids := [3] }] { ts := [0, 2, 3, 4, 7, 8, 9, 18, 19, 20, 21, 22, 23, 24, 25, 26, 27, 28, 29, 30, 31], os := [3] } [(List.length (joinTo x0 i) + List.length (x0.getD i (0, [])).2) * 24 ≤ 140737488355328] gamOK hT h (by kernel_rfl) ⟨(by (have hL0 := (show List.length (x0.getD i (0, [])).2 ≤ 1073741824 from ((Sh.fit_getD hf0 i).2).1); first | omega | (simp only [lsA]; omega) | (simp <;> omega))), trivial⟩ fun a w h => in_normal (then_normal ?_)
    refine at_regq [{ nw := true }] { ts := [0, 2, 3, 4, 7, 8, 9, 18, 19, 20, 21, 22, 23, 24, 25, 26, 27, 28, 29, 30, 31], os := [3] } [I64 (((i : Nat) : Int) + 1)] gamOK hT h (by kernel_rfl) ⟨⟨by first | omega | (simp only [lsA]; omega) | (simp <;> omega), by first | omega | (simp only [lsA]; omega) | (simp <;> omega)⟩, trivial⟩ fun a w h => ?_
    replace h := at_out (σ' := ⟨[(0, aF s64 x0), (2, .p (.c (cN))), (3, aB false), (4, aS 1), (7, aF s64 x0), (8, aI ((List.length x0 : Nat) : Int)), (9, aI (((i : Nat) : Int) + 1))], [(1, oF s22 ((joinTo x0 i) ++ (x0.getD i (0, [])).2))]⟩) { ts := [0, 2, 3, 4, 7, 8, 9], os := [3], rn := [(3, 1)] } h (by kernel_rfl)
    exact ⟨i + 1, at_eq h (st_congr2 (fun (d0 : List (List Int)) (d1 : Int) => (⟨[(0, aF s64 x0), (2, .p (.c (cN))), (3, aB false), (4, aS 1), (7, aF s64 x0), (8, aI ((List.length x0 : Nat) : Int)), (9, aI d1)], [(1, oF s22 d0)]⟩ : St)) (show (((joinTo x0 i) ++ (x0.getD i (0, [])).2) : List (List Int)) = (joinTo x0 (i + 1)) from by first | with_reducible rfl | (rfl) | rfl) (show (((i : Nat) : Int) + 1 : Int) = (((i + 1) : Nat) : Int) from by first | with_reducible rfl | (omega) | rfl)), (by exact ⟨by omega, allN_succ hok0.2 (by exact joinB_t (by assumption) (by first | (left; omega) | (right; omega)))⟩), (by omega)⟩
 ·replace h1 : ¬ (((i : Nat) : Int) < ((List.length x0 : Nat) : Int)) := of_decide_eq_false h1
  refine wp_exit (then_exit ?_)
  have hs7 : (allN (joinB x0) (List.length x0)) = true := by exact allN_eq (by omega) hok0.1 hok0.2
  replace h := at_out (σ' := ⟨[(2, .p (.c (cN))), (3, aB false), (4, aS 1)], [(1, oF s22 (joinTo x0 i))]⟩) { ts := [2, 3, 4], os := [1] } h (by kernel_rfl)
  replace h := at_eq (σ' := ⟨[(2, .p (.c (cN))), (3, aB false), (4, aS 1)], [(1, oF s22 (joinTo x0 (List.length x0)))]⟩) h (st_congr1 (fun (d0 : List (List Int)) => (⟨[(2, .p (.c (cN))), (3, aB false), (4, aS 1)], [(1, oF s22 d0)]⟩ : St)) (show ((joinTo x0 i) : List (List Int)) = (joinTo x0 (List.length x0)) from by first | with_reducible rfl | (rw [show List.length x0 = i by omega]) | rfl))
  refine then_exit (in_hit (then_normal (wp_seq ?_)))
  refine at_regq [{}, { ids := [3] }] { ts := [2, 3], os := [3] } [Q_impl_SymbolsToBytes (joinTo x0 (List.length x0))] gamOK hT h (by kernel_rfl) ⟨(by exact ⟨join_fit (by assumption) hpx, join_pre (i := 0) (by assumption) hpx⟩), trivial⟩ fun a w h => then_normal (wp_ret ?_)
  exact at_return ((toBy (joinTo x0 (List.length x0))).1, ((toBy (joinTo x0 (List.length x0))).2, ())) [] h (by kernel_rfl) trivial (congrArg (fun z => (z.1, z.2, ())) (show (((toBy (joinTo x0 (List.length x0))).1, (toBy (joinTo x0 (List.length x0))).2)) = joinD x0 from by first | exact joinD_n (by assumption) | exact joinD_y (by assumption)))

abbrev Q_spec_JoinGenerations := (fun (x0 : (List T64)) => Sh.fit s32 x0 ∧ List.length x0 ≤ 1000)
def S_spec_JoinGenerations : Sum := { fid := 17, dom := [s32], cod := [s28, (.bool 4)], dp := true, fz := false, pre := fun x => Q_spec_JoinGenerations x.1, g := fun x => ((joinD x.1).1, ((joinD x.1).2, ())) }
def S_spec_JoinGenerations_tab : List (Nat × Sum) := [(32, S_spec_IsValidGeneration), (33, S_spec_l6Copy), (34, S_spec_SymbolsToBytes)]
theorem S_spec_JoinGenerations_ok : FnOK Tryz.prog 17 S_spec_JoinGenerations := by
 refine at_enter 51 (fun x => ⟨[(0, aF s64 x.1)], []⟩) Tryz.func17 rfl (by kernel_rfl) (fun x => rfl) ?_
 rintro w0 Z0 ⟨x0, u⟩ a w
 revert x0
 intro (x0 : (List T64)) hpre hlens h
 replace hpre : Q_spec_JoinGenerations x0 := hpre
 have hT : TabOK Tryz.prog S_spec_JoinGenerations_tab := (.cons S_spec_IsValidGeneration_ok (.cons S_spec_l6Copy_ok (.cons S_spec_SymbolsToBytes_ok .nil)))
 obtain ⟨hf0, hpx⟩ := hpre
 have hn0_1 : List.length x0 ≤ 1073741824 := hf0.1
 refine wp_seq ?_
 refine at_regq [] { ts := [0, 2, 3], os := [] } [] gamOK hT h (by kernel_rfl) trivial fun a w h => then_normal (wp_seq ?_)
 refine at_regq [{ ids := [1], dp := false }] { ts := [0, 2, 3, 4], os := [1] } [] gamOK hT h (by kernel_rfl) trivial fun a w h => then_normal (wp_seq (wp_seq ?_))
 refine at_regq [] { ts := [0, 2, 3, 4, 5], os := [1] } [] gamOK hT h (by kernel_rfl) trivial fun a w h => then_normal (wp_block ?_)
 replace h := at_out (σ' := ⟨[(0, aF s64 x0), (2, .p (.c (cN))), (3, aB false), (4, aS 1), (5, aI 0)], [(1, oF s22 ([] : List (List Int)))]⟩) { ts := [0, 2, 3, 4, 5], os := [1] } h (by kernel_rfl)
 refine at_loop (fun i : Nat => (⟨[(0, aF s64 x0), (2, .p (.c (cN))), (3, aB false), (4, aS 1), (5, aI ((i : Nat) : Int))], [(1, oF s22 (joinTo x0 i))]⟩ : St)) (fun i => (i ≤ (List.length x0) ∧ allN (joinB x0) i = true)) (fun i => (List.length x0) - i) (0) h (st_congr2 (fun (d0 : List (List Int)) (d1 : Int) => (⟨[(0, aF s64 x0), (2, .p (.c (cN))), (3, aB false), (4, aS 1), (5, aI d1)], [(1, oF s22 d0)]⟩ : St)) (show (([] : List (List Int)) : List (List Int)) = (joinTo x0 (0)) from by first | with_reducible rfl | (rfl) | rfl) (show (0 : Int) = (((0) : Nat) : Int) from by first | with_reducible rfl | (rfl) | rfl)) (by exact ⟨Nat.zero_le _, rfl⟩) ?_
 intro i a w hok0 h
 have hjl := joinTo_len hok0.2 i (Nat.le_refl _)
 have hjp := joinB_prev hok0.2
 refine wp_seq (wp_seq ?_)
 refine at_regq [] { ts := [0, 2, 3, 4, 5, 10], os := [1] } [] gamOK hT h (by kernel_rfl) trivial fun a w h => then_normal ?_
 refine at_test (decide (((i : Nat) : Int) < ((List.length x0 : Nat) : Int))) h (by kernel_rfl) (fun h1 => ?_) (fun h1 => ?_)
 ·replace h1 : ((i : Nat) : Int) < ((List.length x0 : Nat) : Int) := of_decide_eq_true h1
  refine wp_skip (then_normal (wp_seq (wp_block (wp_seq (wp_seq ?_)))))
  rcases Bool.eq_false_or_eq_true (!(validG (x0.getD i (0, [])))) with h2 | h2
  ·have hzh2 : (validG (x0.getD i (0, []))) = false := notT h2
   refine at_anyq [{}, {}, {}, {}, {}, { hint := some (aB true) }, {}, {}, {}, {}, {}, {}, {}, {}, {}, {}, {}, {}, {}, {}, {}, {}, {}, {}, {}] { ts := [0, 2, 3, 4, 5, 20, 21, 22, 23, 24, 25, 26, 27, 28, 29, 30, 31, 32, 33, 34, 35, 36, 37], os := [1] } [(0 : Int) ≤ ((i : Nat) : Int) ∧ ((i : Nat) : Int) < ((List.length x0 : Nat) : Int), Q_spec_IsValidGeneration (x0.getD i (0, [])), (AV.p (.c (.v (.bool (!(validG (x0.getD i (0, []))))))) = AV.p (.c (.v (.bool true))))] gamOK hT mixed h (by kernel_rfl) ⟨(by refine ⟨?_, ?_⟩ <;> (first | omega | (simp only [lsA]; omega) | (simp <;> omega))), (by exact (Sh.fit_getD hf0 i)), hint_bool (h2), trivial⟩ fun a w h => then_normal ?_
   refine at_test true h (by kernel_rfl) (fun hh => ?_) (fun hh => nomatch hh)
   refine wp_seq ?_
   refine at_regq [{ ids := [2] }] { ts := [0, 2, 3, 4, 5, 20, 21, 22, 23, 24, 25, 26, 27, 28, 29, 30, 31, 32, 33, 34, 35, 36], os := [1, 2] } [] gamOK hT h (by kernel_rfl) trivial fun a w h => then_normal (wp_ret (then_ret (in_ret (then_ret ?_))))
   have hs3 : (allN (joinB x0) (List.length x0)) = false := by exact allN_at (i := i) (by omega) (by exact joinB_f (by first | (left; assumption) | (right; exact ⟨by omega, by omega⟩)))
   refine then_ret (in_ret (then_ret ?_))
   exact at_return (([] : List Int), (false, ())) [] h (by kernel_rfl) trivial (congrArg (fun z => (z.1, z.2, ())) (show ((([] : List Int), false)) = joinD x0 from by first | exact joinD_n (by assumption) | exact joinD_y (by assumption)))
  ·have hzh2 : (validG (x0.getD i (0, []))) = true := notF h2
   have hvh2 := validG_t (notF h2)
   have hgl := (validG_t (g := x0.getD i (0, [])) (by first | assumption | exact notF h2)).2.1
   by_cases h4 : ((i : Nat) : Int) > 0
   ·refine at_anyq [{}, {}, {}, {}, {}, { hint := some (aB false) }, {}, {}, { hint := some (aB true) }, {}, {}, {}, {}, {}, {}, {}, {}, { nw := true }, {}, {}, {}, { nw := true }, {}, {}, {}] { ts := [0, 2, 3, 4, 5, 20, 21, 22, 23, 24, 25, 26, 27, 28, 29, 30, 31, 32, 33, 34, 35, 36, 37], os := [1] } [(0 : Int) ≤ ((i : Nat) : Int) ∧ ((i : Nat) : Int) < ((List.length x0 : Nat) : Int), Q_spec_IsValidGeneration (x0.getD i (0, [])), (AV.p (.c (.v (.bool (!(validG (x0.getD i (0, []))))))) = AV.p (.c (.v (.bool false)))), (AV.p (.c (.v (.bool (decide (((i : Nat) : Int) > 0))))) = AV.p (.c (.v (.bool true)))), (0 : Int) ≤ ((i : Nat) : Int) ∧ ((i : Nat) : Int) < ((List.length x0 : Nat) : Int), I64 (((i : Nat) : Int) - 1), (0 : Int) ≤ ((i : Nat) : Int) - 1 ∧ ((i : Nat) : Int) - 1 < ((List.length x0 : Nat) : Int), I64 ((x0.getD ((((i : Nat) : Int) - 1).toNat) (0, [])).1 + 1)] gamOK hT mixed h (by kernel_rfl) ⟨(by refine ⟨?_, ?_⟩ <;> (first | omega | (simp only [lsA]; omega) | (simp <;> omega))), (by exact (Sh.fit_getD hf0 i)), hint_bool (h2), hint_bool (decide_eq_true h4), (by refine ⟨?_, ?_⟩ <;> (first | omega | (simp only [lsA]; omega) | (simp <;> omega))), ⟨by first | omega | (simp only [lsA]; omega) | (simp <;> omega), by first | omega | (simp only [lsA]; omega) | (simp <;> omega)⟩, (by refine ⟨?_, ?_⟩ <;> (first | omega | (simp only [lsA]; omega) | (simp <;> omega))), ⟨by first | omega | (simp only [lsA]; omega) | (simp <;> omega), by first | omega | (simp only [lsA]; omega) | (simp <;> omega)⟩, trivial⟩ fun a w h => then_normal ?_
    refine at_test (!decide ((x0.getD i (0, [])).1 = (x0.getD ((((i : Nat) : Int) - 1).toNat) (0, [])).1 + 1)) h (by kernel_rfl) (fun h5 => ?_) (fun h5 => ?_)
    ·replace h5 : ¬ ((x0.getD i (0, [])).1 = (x0.getD ((((i : Nat) : Int) - 1).toNat) (0, [])).1 + 1) := of_decide_eq_false (notT h5)
     refine wp_seq ?_
     refine at_regq [{ ids := [2] }] { ts := [0, 2, 3, 4, 5, 20, 21, 22, 23, 24, 25, 26, 27, 28, 29, 30, 31, 32, 33, 34, 35, 36], os := [1, 2] } [] gamOK hT h (by kernel_rfl) trivial fun a w h => then_normal (wp_ret (then_ret (in_ret (then_ret ?_))))
     have hs6 : (allN (joinB x0) (List.length x0)) = false := by exact allN_at (i := i) (by omega) (by exact joinB_f (by first | (left; assumption) | (right; exact ⟨by omega, by omega⟩)))
     refine then_ret (in_ret (then_ret ?_))
     exact at_return (([] : List Int), (false, ())) [] h (by kernel_rfl) trivial (congrArg (fun z => (z.1, z.2, ())) (show ((([] : List Int), false)) = joinD x0 from by first | exact joinD_n (by assumption) | exact joinD_y (by assumption)))
    ·replace h5 : (x0.getD i (0, [])).1 = (x0.getD ((((i : Nat) : Int) - 1).toNat) (0, [])).1 + 1 := of_decide_eq_true (notF h5)
     refine wp_skip (then_normal ?_)
     refine at_regq [{}, {}, {}, {}, {}, {}, { ids := [3] }, { ids := [4] }] { ts := [0, 2, 3, 4, 5, 20, 21, 22, 23, 24, 25, 26, 27, 28, 29, 30, 31, 32, 33, 34, 35, 36], os := [4] } [(0 : Int) ≤ ((i : Nat) : Int) ∧ ((i : Nat) : Int) < ((List.length x0 : Nat) : Int), Q_spec_l6Copy (x0.getD i (0, [])).2, (List.length (joinTo x0 i) + List.length (x0.getD i (0, [])).2) * 24 ≤ 140737488355328] gamOK hT h (by kernel_rfl) ⟨(by refine ⟨?_, ?_⟩ <;> (first | omega | (simp only [lsA]; omega) | (simp <;> omega))), (by exact (Sh.fit_getD hf0 i).2), (by (have hL0 := (show List.length (x0.getD i (0, [])).2 ≤ 1073741824 from ((Sh.fit_getD hf0 i).2).1); first | omega | (simp only [lsA]; omega) | (simp <;> omega))), trivial⟩ fun a w h => in_normal (then_normal ?_)
     refine at_regq [{}, { nw := true }] { ts := [0, 2, 3, 4, 5, 20, 21, 22, 23, 24, 25, 26, 27, 28, 29, 30, 31, 32, 33, 34, 35, 36], os := [4] } [I64 (((i : Nat) : Int) + 1)] gamOK hT h (by kernel_rfl) ⟨⟨by first | omega | (simp only [lsA]; omega) | (simp <;> omega), by first | omega | (simp only [lsA]; omega) | (simp <;> omega)⟩, trivial⟩ fun a w h => ?_
     replace h := at_out (σ' := ⟨[(0, aF s64 x0), (2, .p (.c (cN))), (3, aB false), (4, aS 1), (5, aI (((i : Nat) : Int) + 1))], [(1, oF s22 ((joinTo x0 i) ++ (x0.getD i (0, [])).2))]⟩) { ts := [0, 2, 3, 4, 5], os := [4], rn := [(4, 1)] } h (by kernel_rfl)
     exact ⟨i + 1, at_eq h (st_congr2 (fun (d0 : List (List Int)) (d1 : Int) => (⟨[(0, aF s64 x0), (2, .p (.c (cN))), (3, aB false), (4, aS 1), (5, aI d1)], [(1, oF s22 d0)]⟩ : St)) (show (((joinTo x0 i) ++ (x0.getD i (0, [])).2) : List (List Int)) = (joinTo x0 (i + 1)) from by first | with_reducible rfl | (rfl) | rfl) (show (((i : Nat) : Int) + 1 : Int) = (((i + 1) : Nat) : Int) from by first | with_reducible rfl | (omega) | rfl)), (by exact ⟨by omega, allN_succ hok0.2 (by exact joinB_t (by assumption) (by first | (left; omega) | (right; omega)))⟩), (by omega)⟩
   ·refine at_anyq [{}, {}, {}, {}, {}, { hint := some (aB false) }, {}, {}, { hint := some (aB false) }, {}, {}, {}, {}, {}, {}, {}, {}, {}, {}, {}, {}, {}, {}, {}, {}] { ts := [0, 2, 3, 4, 5, 20, 21, 22, 23, 24, 25, 26, 27, 28, 29, 30, 31, 32, 33, 34, 35, 36, 37], os := [1] } [(0 : Int) ≤ ((i : Nat) : Int) ∧ ((i : Nat) : Int) < ((List.length x0 : Nat) : Int), Q_spec_IsValidGeneration (x0.getD i (0, [])), (AV.p (.c (.v (.bool (!(validG (x0.getD i (0, []))))))) = AV.p (.c (.v (.bool false)))), (AV.p (.c (.v (.bool (decide (((i : Nat) : Int) > 0))))) = AV.p (.c (.v (.bool false))))] gamOK hT mixed h (by kernel_rfl) ⟨(by refine ⟨?_, ?_⟩ <;> (first | omega | (simp only [lsA]; omega) | (simp <;> omega))), (by exact (Sh.fit_getD hf0 i)), hint_bool (h2), hint_bool (decide_eq_false h4), trivial⟩ fun a w h => then_normal ?_
    refine at_test false h (by kernel_rfl) (fun hh => nomatch hh) (fun hh => ?_)
    refine wp_skip (then_normal ?_)
    refine at_regq [{}, {}, {}, {}, {}, {}, { ids := [2] }, { ids := [3] }] { ts := [0, 2, 3, 4, 5, 20, 21, 22, 23, 24, 25, 26, 27, 28, 29, 30, 31, 32, 33, 34, 35, 36], os := [3] } [(0 : Int) ≤ ((i : Nat) : Int) ∧ ((i : Nat) : Int) < ((List.length x0 : Nat) : Int), Q_spec_l6Copy (x0.getD i (0, [])).2, (List.length (joinTo x0 i) + List.length (x0.getD i (0, [])).2) * 24 ≤ 140737488355328] gamOK hT h (by kernel_rfl) ⟨(by refine ⟨?_, ?_⟩ <;> (first | omega | (simp only [lsA]; omega) | (simp <;> omega))), (by exact (Sh.fit_getD hf0 i).2), (by (have hL0 := (show List.length (x0.getD i (0, [])).2 ≤ 1073741824 from ((Sh.fit_getD hf0 i).2).1); first | omega | (simp only [lsA]; omega) | (simp <;> omega))), trivial⟩ fun a w h => in_normal (then_normal ?_)
    refine at_regq [{}, { nw := true }] { ts := [0, 2, 3, 4, 5, 20, 21, 22, 23, 24, 25, 26, 27, 28, 29, 30, 31, 32, 33, 34, 35, 36], os := [3] } [I64 (((i : Nat) : Int) + 1)] gamOK hT h (by kernel_rfl) ⟨⟨by first | omega | (simp only [lsA]; omega) | (simp <;> omega), by first | omega | (simp only [lsA]; omega) | (simp <;> omega)⟩, trivial⟩ fun a w h => ?_
    replace h := at_out (σ' := ⟨[(0, aF s64 x0), (2, .p (.c (cN))), (3, aB false), (4, aS 1), (5, aI (((i : Nat) : Int) + 1))], [(1, oF s22 ((joinTo x0 i) ++ (x0.getD i (0, [])).2))]⟩) { ts := [0, 2, 3, 4, 5], os := [3], rn := [(3, 1)] } h (by kernel_rfl)
    exact ⟨i + 1, at_eq h (st_congr2 (fun (d0 : List (List Int)) (d1 : Int) => (⟨[(0, aF s64 x0), (2, .p (.c (cN))), (3, aB false), (4, aS 1), (5, aI d1)], [(1, oF s22 d0)]⟩ : St)) (show (((joinTo x0 i) ++ (x0.getD i (0, [])).2) : List (List Int)) = (joinTo x0 (i + 1)) from by first | with_reducible rfl | (rfl) | rfl) (show (((i : Nat) : Int) + 1 : Int) = (((i + 1) : Nat) : Int) from by first | with_reducible rfl | (omega) | rfl)), (by exact ⟨by omega, allN_succ hok0.2 (by exact joinB_t (by assumption) (by first | (left; omega) | (right; omega)))⟩), (by omega)⟩
 ·replace h1 : ¬ (((i : Nat) : Int) < ((List.length x0 : Nat) : Int)) := of_decide_eq_false h1
  refine wp_exit (then_exit ?_)
  have hs7 : (allN (joinB x0) (List.length x0)) = true := by exact allN_eq (by omega) hok0.1 hok0.2
  replace h := at_out (σ' := ⟨[(2, .p (.c (cN))), (3, aB false), (4, aS 1)], [(1, oF s22 (joinTo x0 i))]⟩) { ts := [2, 3, 4], os := [1] } h (by kernel_rfl)
  replace h := at_eq (σ' := ⟨[(2, .p (.c (cN))), (3, aB false), (4, aS 1)], [(1, oF s22 (joinTo x0 (List.length x0)))]⟩) h (st_congr1 (fun (d0 : List (List Int)) => (⟨[(2, .p (.c (cN))), (3, aB false), (4, aS 1)], [(1, oF s22 d0)]⟩ : St)) (show ((joinTo x0 i) : List (List Int)) = (joinTo x0 (List.length x0)) from by first | with_reducible rfl | (rw [show List.length x0 = i by omega]) | rfl))
  refine then_exit (in_hit (then_normal (wp_seq ?_)))
  refine at_regq [{}, { ids := [2] }] { ts := [2, 3], os := [2] } [Q_spec_SymbolsToBytes (joinTo x0 (List.length x0))] gamOK hT h (by kernel_rfl) ⟨(by exact ⟨join_fit (by assumption) hpx, join_pre (i := 0) (by assumption) hpx⟩), trivial⟩ fun a w h => then_normal (wp_ret ?_)
  exact at_return ((toBy (joinTo x0 (List.length x0))).1, ((toBy (joinTo x0 (List.length x0))).2, ())) [] h (by kernel_rfl) trivial (congrArg (fun z => (z.1, z.2, ())) (show (((toBy (joinTo x0 (List.length x0))).1, (toBy (joinTo x0 (List.length x0))).2)) = joinD x0 from by first | exact joinD_n (by assumption) | exact joinD_y (by assumption)))
theorem sinkC_len {s : T34} (h : sinkC s = true) : List.length s.2.2.2.2.1 ≤ 1000 := by
 unfold sinkC at h
 split at h
 ·rename_i hv
  have h1 := (validS_t hv).1
  have h2 := of_decide_eq_true h
  unfold headS at h1
  simp only [Bool.and_eq_true] at h1
  have h3 := h1.2.2.1
  unfold D_spec_l30Sizes at h3
  split at h3
  ·have := of_decide_eq_true h3; omega
  ·cases h3
 ·cases h

def sinkM (x0 : T34) : (List Int) × Bool := (if (sinkC x0) = true then ((joinD x0.2.2.2.2.1).1, (joinD x0.2.2.2.2.1).2) else (([] : List Int), false))
abbrev Q_impl_SinkMessage := (fun (x0 : T34) => Sh.fit s34 x0)
def S_impl_SinkMessage : Sum := { fid := 7, dom := [s34], cod := [s28, (.bool 4)], dp := true, fz := false, pre := fun x => Q_impl_SinkMessage x.1, g := fun x => ((sinkM x.1).1, ((sinkM x.1).2, ())) }
def S_impl_SinkMessage_tab : List (Nat × Sum) := [(21, S_impl_SinkComplete), (22, S_impl_JoinGenerations)]
theorem S_impl_SinkMessage_ok : FnOK Tryz.prog 7 S_impl_SinkMessage := by
 refine at_enter 12 (fun x => ⟨[(0, aG [cI x.1.1, cI x.1.2.1, .ro (.int 3) x.1.2.2.1, .ro s69 x.1.2.2.2.1, .ro s64 x.1.2.2.2.2.1, cI x.1.2.2.2.2.2])], []⟩) Tryz.func7 rfl (by kernel_rfl) (fun x => rfl) ?_
 rintro w0 Z0 ⟨x0, u⟩ a w
 revert x0
 intro (x0 : T34) hpre hlens h
 replace hpre : Q_impl_SinkMessage x0 := hpre
 have hT : TabOK Tryz.prog S_impl_SinkMessage_tab := (.cons S_impl_SinkComplete_ok (.cons S_impl_JoinGenerations_ok .nil))
 have hf0 : Sh.fit s34 x0 := hpre
 have hn0_1 : List.length x0.2.2.1 ≤ 1073741824 := hf0.2.2.1.1
 have hn0_2 : List.length x0.2.2.2.1 ≤ 1073741824 := hf0.2.2.2.1.1
 have hn0_3 : List.length x0.2.2.2.2.1 ≤ 1073741824 := hf0.2.2.2.2.1.1
 refine wp_seq ?_
 refine at_regq [{ ids := [1] }] { ts := [1, 2, 3], os := [1] } [] gamOK hT h (by kernel_rfl) trivial fun a w h => then_normal (wp_seq (wp_seq ?_))
 refine at_regq [] { ts := [1, 2, 3, 6], os := [1] } [Q_impl_SinkComplete x0] gamOK hT h (by kernel_rfl) ⟨(by exact hf0), trivial⟩ fun a w h => then_normal ?_
 refine at_test (!(sinkC x0)) h (by kernel_rfl) (fun h1 => ?_) (fun h1 => ?_)
 ·replace h1 : (sinkC x0) = false := notT h1
  refine wp_seq ?_
  refine at_regq [] { ts := [1, 2, 3], os := [1] } [] gamOK hT h (by kernel_rfl) trivial fun a w h => then_normal (wp_ret (then_ret ?_))
  exact at_return (([] : List Int), (false, ())) [] h (by kernel_rfl) trivial (congrArg (fun z => (z.1, z.2, ())) (show ((([] : List Int), false)) = sinkM x0 from by first | rfl | (unfold sinkM; rw [if_neg (neT h1)])))
 ·replace h1 : (sinkC x0) = true := notF h1
  refine wp_skip (then_normal (wp_seq ?_))
  refine at_regq [{}, {}, { ids := [2] }] { ts := [2, 3], os := [2] } [Q_impl_JoinGenerations x0.2.2.2.2.1] gamOK hT h (by kernel_rfl) ⟨(by exact ⟨hf0.2.2.2.2.1, sinkC_len (by assumption)⟩), trivial⟩ fun a w h => then_normal (wp_ret ?_)
  exact at_return ((joinD x0.2.2.2.2.1).1, ((joinD x0.2.2.2.2.1).2, ())) [] h (by kernel_rfl) trivial (congrArg (fun z => (z.1, z.2, ())) (show (((joinD x0.2.2.2.2.1).1, (joinD x0.2.2.2.2.1).2)) = sinkM x0 from by first | rfl | (unfold sinkM; rw [if_pos h1])))
theorem sinkM_len (s : T34) : (sinkM s).1.length ≤ 400 := by
 unfold sinkM; split
 ·exact joinD_len _
 ·exact Nat.zero_le _

abbrev Q_spec_SinkMessage := (fun (x0 : T34) => Sh.fit s34 x0)
def S_spec_SinkMessage : Sum := { fid := 5, dom := [s34], cod := [s28, (.bool 4)], dp := true, fz := false, pre := fun x => Q_spec_SinkMessage x.1, g := fun x => ((sinkM x.1).1, ((sinkM x.1).2, ())) }
def S_spec_SinkMessage_tab : List (Nat × Sum) := [(16, S_spec_SinkComplete), (17, S_spec_JoinGenerations)]
theorem S_spec_SinkMessage_ok : FnOK Tryz.prog 5 S_spec_SinkMessage := by
 refine at_enter 13 (fun x => ⟨[(0, aG [cI x.1.1, cI x.1.2.1, .ro (.int 3) x.1.2.2.1, .ro s69 x.1.2.2.2.1, .ro s64 x.1.2.2.2.2.1, cI x.1.2.2.2.2.2])], []⟩) Tryz.func5 rfl (by kernel_rfl) (fun x => rfl) ?_
 rintro w0 Z0 ⟨x0, u⟩ a w
 revert x0
 intro (x0 : T34) hpre hlens h
 replace hpre : Q_spec_SinkMessage x0 := hpre
 have hT : TabOK Tryz.prog S_spec_SinkMessage_tab := (.cons S_spec_SinkComplete_ok (.cons S_spec_JoinGenerations_ok .nil))
 have hf0 : Sh.fit s34 x0 := hpre
 have hn0_1 : List.length x0.2.2.1 ≤ 1073741824 := hf0.2.2.1.1
 have hn0_2 : List.length x0.2.2.2.1 ≤ 1073741824 := hf0.2.2.2.1.1
 have hn0_3 : List.length x0.2.2.2.2.1 ≤ 1073741824 := hf0.2.2.2.2.1.1
 refine wp_seq ?_
 refine at_regq [{ ids := [1] }] { ts := [1, 2, 3], os := [1] } [] gamOK hT h (by kernel_rfl) trivial fun a w h => then_normal (wp_seq (wp_seq ?_))
 refine at_regq [] { ts := [1, 2, 3, 6], os := [1] } [Q_spec_SinkComplete x0] gamOK hT h (by kernel_rfl) ⟨(by exact hf0), trivial⟩ fun a w h => then_normal ?_
 refine at_test (!(sinkC x0)) h (by kernel_rfl) (fun h1 => ?_) (fun h1 => ?_)
 ·replace h1 : (sinkC x0) = false := notT h1
  refine wp_seq ?_
  refine at_regq [{ ids := [2] }] { ts := [1, 2, 3], os := [1, 2] } [] gamOK hT h (by kernel_rfl) trivial fun a w h => then_normal (wp_ret (then_ret ?_))
  exact at_return (([] : List Int), (false, ())) [] h (by kernel_rfl) trivial (congrArg (fun z => (z.1, z.2, ())) (show ((([] : List Int), false)) = sinkM x0 from by first | rfl | (unfold sinkM; rw [if_neg (neT h1)]; done) | (unfold sinkM; simp_all)))
 ·replace h1 : (sinkC x0) = true := notF h1
  refine wp_skip (then_normal (wp_seq ?_))
  refine at_regq [{}, {}, { ids := [3] }] { ts := [2, 3], os := [3] } [Q_spec_JoinGenerations x0.2.2.2.2.1] gamOK hT h (by kernel_rfl) ⟨(by exact ⟨hf0.2.2.2.2.1, sinkC_len (by assumption)⟩), trivial⟩ fun a w h => then_normal (wp_ret ?_)
  exact at_return ((joinD x0.2.2.2.2.1).1, ((joinD x0.2.2.2.2.1).2, ())) [] h (by kernel_rfl) trivial (congrArg (fun z => (z.1, z.2, ())) (show (((joinD x0.2.2.2.2.1).1, (joinD x0.2.2.2.2.1).2)) = sinkM x0 from by first | rfl | (unfold sinkM; rw [if_pos h1]; done) | (unfold sinkM; simp_all)))

def D_laws_FnExactSinkMessage := (fun (_ : T26) => true)
abbrev Q_laws_FnExactSinkMessage := (fun (x0 : T26) => Sh.i64 s26 x0)
def S_laws_FnExactSinkMessage : Sum := { fid := 3, dom := [s26], cod := [(.bool 4)], dp := true, fz := false, pre := fun x => Q_laws_FnExactSinkMessage x.1, g := fun x => ((D_laws_FnExactSinkMessage x.1), ()) }
def S_laws_FnExactSinkMessage_tab : List (Nat × Sum) := [(4, S_laws_szSink), (6, S_laws_toSink), (5, S_spec_SinkMessage), (7, S_impl_SinkMessage), (8, S_laws_eqByteS), (9, S_laws_eqSink), (10, S_laws_markSink), (11, S_laws_markByteS), (12, S_laws_heldByteS)]
theorem S_laws_FnExactSinkMessage_ok : FnOK Tryz.prog 3 S_laws_FnExactSinkMessage := by
 refine at_enter 96 (fun x => ⟨[(0, aG [cI x.1.1, cI x.1.2.1, .ro (.int 3) x.1.2.2.1, .ro s59 x.1.2.2.2.1, .ro s62 x.1.2.2.2.2.1, cI x.1.2.2.2.2.2])], []⟩) Tryz.func3 rfl (by kernel_rfl) (fun x => rfl) ?_
 rintro w0 Z0 ⟨x0, u⟩ a w
 revert x0
 intro (x0 : T26) hpre hlens h
 replace hpre : Q_laws_FnExactSinkMessage x0 := hpre
 have hl1 : List.length x0.2.2.1 ≤ 9223372036854775807 := hlens.1.2.2.1.1
 have hl2 : List.length x0.2.2.2.1 ≤ 9223372036854775807 := hlens.1.2.2.2.1.1
 have hl3 : List.length x0.2.2.2.2.1 ≤ 9223372036854775807 := hlens.1.2.2.2.2.1.1
 have hT : TabOK Tryz.prog S_laws_FnExactSinkMessage_tab := (.cons S_laws_szSink_ok (.cons S_laws_toSink_ok (.cons S_spec_SinkMessage_ok (.cons S_impl_SinkMessage_ok (.cons S_laws_eqByteS_ok (.cons S_laws_eqSink_ok (.cons S_laws_markSink_ok (.cons S_laws_markByteS_ok (.cons S_laws_heldByteS_ok .nil)))))))))
 have hq0 : Sh.sz s34 x0 = Sh.sz s26 x0 := rfl
 have hb0 : Sh.ctT s34 x0 ≤ 11 * Sh.sz s34 x0 := Sh.ctT_le2 s34 x0
 have hz0 : Sh.ct s34 x0 ≤ 11 * (1 + Sh.sz s34 x0) := Sh.ct_le s34 x0
 have ht0 : Sh.sz s26 x0 = (0 + (0 + ((Sh.sz s22 x0.2.2.1) + ((Sh.sz s23 x0.2.2.2.1) + ((Sh.sz s24 x0.2.2.2.2.1) + 0))))) := rfl
 have hs0_1 : Sh.sz s22 x0.2.2.1 = List.length x0.2.2.1 := sz_flat (by rfl) _
 have hs0_2 : Sh.sz s23 x0.2.2.2.1 = List.length x0.2.2.2.1 + ctL (Sh.sz s59) x0.2.2.2.1 := rfl
 have hs0_3 : Sh.sz s24 x0.2.2.2.2.1 = List.length x0.2.2.2.2.1 + ctL (Sh.sz s62) x0.2.2.2.2.1 := rfl
 have hr1 : Sh.ct s28 (sinkM x0).1 ≤ 1 * (1 + Sh.sz s28 (sinkM x0).1) := Sh.ct_le s28 _
 have hr2 : Sh.sz s28 (sinkM x0).1 = List.length (sinkM x0).1 := sz_flat (by rfl) _
 have hr3 := sinkM_len x0
 refine wp_seq ?_
 refine at_regq [{ ids := [1] }] { ts := [1, 2], os := [1] } [] gamOK hT h (by kernel_rfl) trivial fun a w h => then_normal (wp_seq ?_)
 refine at_regq [] { ts := [1, 2, 3], os := [1] } [] gamOK hT h (by kernel_rfl) trivial fun a w h => then_normal (wp_seq ?_)
 refine at_regq [] { ts := [1, 2, 3], os := [1] } [(pSz s26) x0 1048576] gamOK hT h (by kernel_rfl) ⟨(by (show (0 : Int) ≤ _ ∧ _ ≤ (9223372036854775807 : Int); constructor <;> omega)), trivial⟩ fun a w h => then_normal (wp_seq (wp_seq ?_))
 refine at_regq [] { ts := [1, 2, 18], os := [1] } [] gamOK hT h (by kernel_rfl) trivial fun a w h => then_normal ?_
 refine at_test (decide (((szD s26) x0 1048576) < 0)) h (by kernel_rfl) (fun h1 => ?_) (fun h1 => ?_)
 ·replace h1 : ((szD s26) x0 1048576) < 0 := of_decide_eq_true h1
  have hvh1 := szD_neg h1 (by omega)
  refine wp_seq ?_
  refine at_regq [] { ts := [1, 2], os := [1] } [] gamOK hT h (by kernel_rfl) trivial fun a w h => then_normal (wp_ret (then_ret ?_))
  exact at_return (true, ()) [] h (by kernel_rfl) trivial (congrArg (fun z => (z, ())) (show (true) = D_laws_FnExactSinkMessage x0 from by unfold D_laws_FnExactSinkMessage; rfl))
 ·replace h1 : ¬ (((szD s26) x0 1048576) < 0) := of_decide_eq_false h1
  have hvh1 := szD_val h1 (by omega)
  refine wp_skip (then_normal (wp_seq ?_))
  refine at_regq [{}, { ids := [2, 3, 4] }, { ids := [5] }] { ts := [1, 2, 4, 5], os := [1, 5] } [(pTo s26) x0, Q_spec_SinkMessage x0] gamOK hT h (by kernel_rfl) ⟨(by (show Sh.sz _ _ ≤ 1048576; omega)), (by exact (Sh.fit_of_sz s34 rfl (x := x0) (by omega))), trivial⟩ fun a w h => then_normal (wp_seq ?_)
  refine at_regq [{}, { ids := [6, 7, 8] }, { ids := [9] }] { ts := [1, 2, 4, 5, 6], os := [1, 5, 6, 7, 8, 9] } [(pTo s26) x0] gamOK hT h (by kernel_rfl) ⟨(by (show Sh.sz _ _ ≤ 1048576; omega)), trivial⟩ fun a w h => then_normal (wp_seq ?_)
  refine at_regq [{}, { ids := [10] }] { ts := [1, 2, 4, 5, 6, 7, 8], os := [1, 5, 6, 7, 8, 9, 10] } [Q_impl_SinkMessage x0] gamOK hT h (by kernel_rfl) ⟨(by exact (Sh.fit_of_sz s34 rfl (x := x0) (by omega))), trivial⟩ fun a w h => then_normal (wp_seq (wp_seq ?_))
  rcases Bool.eq_false_or_eq_true (!((Sh.eqB s28) (sinkM x0).1 (sinkM x0).1)) with h2 | h2
  ·have hzh2 : ((Sh.eqB s28) (sinkM x0).1 (sinkM x0).1) = false := notT h2
   refine at_regq [{}, {}, {}, { hint := some (aB true) }] { ts := [1, 2, 4, 5, 6, 7, 8, 40], os := [1, 5, 6, 7, 8, 9, 10] } [True, (AV.p (.c (.v (.bool (!((Sh.eqB s28) (sinkM x0).1 (sinkM x0).1))))) = AV.p (.c (.v (.bool true))))] gamOK hT h (by kernel_rfl) ⟨trivial, hint_bool (h2), trivial⟩ fun a w h => then_normal ?_
   refine at_test true h (by kernel_rfl) (fun hh => ?_) (fun hh => nomatch hh)
   refine wp_seq ?_
   refine at_regq [] { ts := [1, 2, 4, 5, 6, 7, 8], os := [1, 5, 6, 7, 8, 9, 10] } [] gamOK hT h (by kernel_rfl) trivial fun a w h => then_normal (wp_ret (then_ret ?_))
   exact at_return (false, ()) [] h (by kernel_rfl) trivial (congrArg (fun z => (z, ())) (show (false) = D_laws_FnExactSinkMessage x0 from by unfold D_laws_FnExactSinkMessage; exact absurd ((Sh.eqB_iff _).2 (show _ = _ from by first | rfl | (rfl))) (neT (notT h2))))
  ·have hzh2 : ((Sh.eqB s28) (sinkM x0).1 (sinkM x0).1) = true := notF h2
   refine at_regq [{}, {}, {}, { hint := some (aB false) }] { ts := [1, 2, 4, 5, 6, 7, 8, 40], os := [1, 5, 6, 7, 8, 9, 10] } [True, (AV.p (.c (.v (.bool (!((Sh.eqB s28) (sinkM x0).1 (sinkM x0).1))))) = AV.p (.c (.v (.bool false))))] gamOK hT h (by kernel_rfl) ⟨trivial, hint_bool (h2), trivial⟩ fun a w h => then_normal ?_
   refine at_test (!((sinkM x0).2 == (sinkM x0).2)) h (by kernel_rfl) (fun h3 => ?_) (fun h3 => ?_)
   ·replace h3 : ((sinkM x0).2 == (sinkM x0).2) = false := notT h3
    refine wp_seq ?_
    refine at_regq [] { ts := [1, 2, 4, 5, 6, 7, 8], os := [1, 5, 6, 7, 8, 9, 10] } [] gamOK hT h (by kernel_rfl) trivial fun a w h => then_normal (wp_ret (then_ret ?_))
    exact at_return (false, ()) [] h (by kernel_rfl) trivial (congrArg (fun z => (z, ())) (show (false) = D_laws_FnExactSinkMessage x0 from by unfold D_laws_FnExactSinkMessage; exact absurd (beqT (show _ = _ from by first | rfl | (rfl))) (neT h3)))
   ·replace h3 : ((sinkM x0).2 == (sinkM x0).2) = true := notF h3
    refine wp_skip (then_normal (wp_seq (wp_seq ?_)))
    refine at_anyq [{}, {}, { ids := [11, 12, 13] }, {}, {}] { ts := [1, 2, 4, 5, 6, 7, 8, 45], os := [1, 5, 6, 7, 8, 9, 10] } [(pTo s26) x0, True] gamOK hT mixed h (by kernel_rfl) ⟨(by (show Sh.sz _ _ ≤ 1048576; omega)), trivial, trivial⟩ fun a w h => then_normal ?_
    refine at_test (!((Sh.eqB s34) x0 x0)) h (by kernel_rfl) (fun h4 => ?_) (fun h4 => ?_)
    ·replace h4 : ((Sh.eqB s34) x0 x0) = false := notT h4
     refine wp_seq ?_
     refine at_regq [] { ts := [1, 2, 4, 5, 6, 7, 8], os := [1, 5, 6, 7, 8, 9, 10] } [] gamOK hT h (by kernel_rfl) trivial fun a w h => then_normal (wp_ret (then_ret ?_))
     exact at_return (false, ()) [] h (by kernel_rfl) trivial (congrArg (fun z => (z, ())) (show (false) = D_laws_FnExactSinkMessage x0 from by unfold D_laws_FnExactSinkMessage; exact absurd ((Sh.eqB_iff _).2 (show _ = _ from by first | rfl | (rfl))) (neT h4)))
    ·replace h4 : ((Sh.eqB s34) x0 x0) = true := notF h4
     refine wp_skip (then_normal (wp_seq ?_))
     refine at_regq [] { ts := [1, 2, 4, 5, 6, 7, 8, 9], os := [1, 5, 6, 7, 8, 9, 10] } [] gamOK hT h (by kernel_rfl) trivial fun a w h => then_normal (wp_seq ?_)
     refine at_regq [] { ts := [1, 2, 4, 5, 7, 8, 9], os := [1, 5, 10] } [(pMkT s34) x0 1] gamOK hT h (by kernel_rfl) ⟨(by (show (0 : Int) ≤ _ ∧ _ + ((Sh.ctT _ _ : Nat) : Int) ≤ (4611686018427387904 : Int); (try simp only [held_marked, held_markedT, mkK, mkKT, Sh.ctT_mkT, Sh.ct_mk]); constructor <;> omega)), trivial⟩ fun a w h => then_normal (wp_seq (wp_seq ?_))
     by_cases h5 : ((mkKT s34) x0 1) < 0
     ·refine at_regq [{}, { hint := some (aB true) }] { ts := [1, 2, 4, 5, 7, 61], os := [1, 5, 10] } [(AV.p (.c (.v (.bool (decide (((mkKT s34) x0 1) < 0))))) = AV.p (.c (.v (.bool true))))] gamOK hT h (by kernel_rfl) ⟨hint_bool (decide_eq_true h5), trivial⟩ fun a w h => then_normal ?_
      refine at_test true h (by kernel_rfl) (fun hh => ?_) (fun hh => nomatch hh)
      refine wp_seq ?_
      refine at_regq [] { ts := [1, 2, 4, 5, 7], os := [1, 5, 10] } [] gamOK hT h (by kernel_rfl) trivial fun a w h => then_normal (wp_ret (then_ret ?_))
      exact at_return (false, ()) [] h (by kernel_rfl) trivial (congrArg (fun z => (z, ())) (show (false) = D_laws_FnExactSinkMessage x0 from by unfold D_laws_FnExactSinkMessage; (exfalso; simp only [mkK, mkKT, Sh.ctT_mkT, Sh.ct_mk] at h5; first | omega | exact h5 trivial | exact h5 rfl)))
     ·refine at_regq [{}, { hint := some (aB false) }, {}, {}, {}, {}, { hint := some (aB false) }] { ts := [1, 2, 4, 5, 7, 61], os := [1, 5, 10] } [(AV.p (.c (.v (.bool (decide (((mkKT s34) x0 1) < 0))))) = AV.p (.c (.v (.bool false)))), True, (AV.p (.c (.v (.bool (!((Sh.eqB s28) (sinkM x0).1 (sinkM x0).1))))) = AV.p (.c (.v (.bool false))))] gamOK hT h (by kernel_rfl) ⟨hint_bool (decide_eq_false h5), trivial, hint_bool (h2), trivial⟩ fun a w h => then_normal ?_
      refine at_test (!((sinkM x0).2 == (sinkM x0).2)) h (by kernel_rfl) (fun h6 => ?_) (fun h6 => ?_)
      ·replace h6 : ((sinkM x0).2 == (sinkM x0).2) = false := notT h6
       refine wp_seq ?_
       refine at_regq [] { ts := [1, 2, 4, 5, 7], os := [1, 5, 10] } [] gamOK hT h (by kernel_rfl) trivial fun a w h => then_normal (wp_ret (then_ret ?_))
       exact at_return (false, ()) [] h (by kernel_rfl) trivial (congrArg (fun z => (z, ())) (show (false) = D_laws_FnExactSinkMessage x0 from by unfold D_laws_FnExactSinkMessage; exact absurd (beqT (show _ = _ from by first | rfl | (rfl))) (neT h6)))
      ·replace h6 : ((sinkM x0).2 == (sinkM x0).2) = true := notF h6
       refine wp_skip (then_normal (wp_seq ?_))
       refine at_regq [] { ts := [1, 2, 4, 5, 7, 10], os := [1, 5, 10] } [] gamOK hT h (by kernel_rfl) trivial fun a w h => then_normal (wp_seq ?_)
       refine at_regq [] { ts := [1, 2, 4, 5, 7, 10], os := [1, 5, 10] } [(pMk s28) (sinkM x0).1 1] gamOK hT h (by kernel_rfl) ⟨(by (show (0 : Int) ≤ _ ∧ _ + ((Sh.ct _ _ : Nat) : Int) ≤ (4611686018427387904 : Int); (try simp only [held_marked, held_markedT, mkK, mkKT, Sh.ctT_mkT, Sh.ct_mk]); constructor <;> omega)), trivial⟩ fun a w h => then_normal (wp_seq ?_)
       refine at_regq [] { ts := [1, 2, 4, 5, 7, 10, 11], os := [1, 5, 10] } [] gamOK hT h (by kernel_rfl) trivial fun a w h => then_normal (wp_seq ?_)
       refine at_regq [] { ts := [1, 2, 4, 5, 7, 10, 11], os := [1, 5, 10] } [(pMk s28) ((Sh.mk s28) (sinkM x0).1 1) 1] gamOK hT h (by kernel_rfl) ⟨(by (show (0 : Int) ≤ _ ∧ _ + ((Sh.ct _ _ : Nat) : Int) ≤ (4611686018427387904 : Int); (try simp only [held_marked, held_markedT, mkK, mkKT, Sh.ctT_mkT, Sh.ct_mk]); constructor <;> omega)), trivial⟩ fun a w h => then_normal (wp_seq (wp_seq ?_))
       refine at_regq [] { ts := [1, 2, 4, 5, 7, 10, 11, 69], os := [1, 5, 10] } [] gamOK hT h (by kernel_rfl) trivial fun a w h => then_normal ?_
       refine at_test (decide (((heldD s28) ((Sh.mk s28) (sinkM x0).1 1) 1) < 0)) h (by kernel_rfl) (fun h7 => ?_) (fun h7 => ?_)
       ·replace h7 : ((heldD s28) ((Sh.mk s28) (sinkM x0).1 1) 1) < 0 := of_decide_eq_true h7
        refine wp_seq ?_
        refine at_regq [] { ts := [1, 2, 4, 5, 7, 10, 11], os := [1, 5, 10] } [] gamOK hT h (by kernel_rfl) trivial fun a w h => then_normal (wp_ret (then_ret ?_))
        exact at_return (false, ()) [] h (by kernel_rfl) trivial (congrArg (fun z => (z, ())) (show (false) = D_laws_FnExactSinkMessage x0 from by unfold D_laws_FnExactSinkMessage; (exfalso; simp only [held_marked, held_markedT, mkK, mkKT, Sh.ctT_mkT, Sh.ct_mk] at h7; first | omega | exact h7 trivial | exact h7 rfl)))
       ·replace h7 : ¬ (((heldD s28) ((Sh.mk s28) (sinkM x0).1 1) 1) < 0) := of_decide_eq_false h7
        refine wp_skip (then_normal (wp_seq (wp_seq ?_)))
        refine at_regq [] { ts := [1, 2, 4, 5, 7, 10, 72], os := [1, 5, 10] } [] gamOK hT h (by kernel_rfl) trivial fun a w h => then_normal ?_
        refine at_test (!decide (((heldD s28) ((Sh.mk s28) (sinkM x0).1 1) 1) = ((mkK s28) (sinkM x0).1 1))) h (by kernel_rfl) (fun h8 => ?_) (fun h8 => ?_)
        ·replace h8 : ¬ (((heldD s28) ((Sh.mk s28) (sinkM x0).1 1) 1) = ((mkK s28) (sinkM x0).1 1)) := of_decide_eq_false (notT h8)
         refine wp_seq ?_
         refine at_regq [] { ts := [1, 2, 4, 5, 7, 10], os := [1, 5, 10] } [] gamOK hT h (by kernel_rfl) trivial fun a w h => then_normal (wp_ret (then_ret ?_))
         exact at_return (false, ()) [] h (by kernel_rfl) trivial (congrArg (fun z => (z, ())) (show (false) = D_laws_FnExactSinkMessage x0 from by unfold D_laws_FnExactSinkMessage; (exfalso; simp only [held_marked, held_markedT, mkK, mkKT, Sh.ctT_mkT, Sh.ct_mk] at h8; first | omega | exact h8 trivial | exact h8 rfl)))
        ·replace h8 : ((heldD s28) ((Sh.mk s28) (sinkM x0).1 1) 1) = ((mkK s28) (sinkM x0).1 1) := of_decide_eq_true (notF h8)
         refine wp_skip (then_normal (wp_seq ?_))
         refine at_regq [{}, { ids := [14, 15, 16] }, { ids := [17] }] { ts := [2, 4, 5, 7, 10, 12, 13], os := [5, 10, 17] } [(pTo s26) x0, Q_impl_SinkMessage x0] gamOK hT h (by kernel_rfl) ⟨(by (show Sh.sz _ _ ≤ 1048576; omega)), (by exact (Sh.fit_of_sz s34 rfl (x := x0) (by omega))), trivial⟩ fun a w h => then_normal (wp_seq (wp_seq ?_))
         refine at_regq [{}, {}, {}, { hint := some (aB false) }] { ts := [2, 7, 10, 87], os := [10] } [True, (AV.p (.c (.v (.bool (!((Sh.eqB s28) (sinkM x0).1 (sinkM x0).1))))) = AV.p (.c (.v (.bool false))))] gamOK hT h (by kernel_rfl) ⟨trivial, hint_bool (h2), trivial⟩ fun a w h => then_normal ?_
         refine at_test (!((sinkM x0).2 == (sinkM x0).2)) h (by kernel_rfl) (fun h9 => ?_) (fun h9 => ?_)
         ·replace h9 : ((sinkM x0).2 == (sinkM x0).2) = false := notT h9
          refine wp_seq ?_
          refine at_regq [] { ts := [2, 7, 10], os := [10] } [] gamOK hT h (by kernel_rfl) trivial fun a w h => then_normal (wp_ret (then_ret ?_))
          exact at_return (false, ()) [] h (by kernel_rfl) trivial (congrArg (fun z => (z, ())) (show (false) = D_laws_FnExactSinkMessage x0 from by unfold D_laws_FnExactSinkMessage; exact absurd (beqT (show _ = _ from by first | rfl | (rfl))) (neT h9)))
         ·replace h9 : ((sinkM x0).2 == (sinkM x0).2) = true := notF h9
          refine wp_skip (then_normal (wp_seq ?_))
          refine at_regq [] { ts := [2, 7, 10, 11], os := [10] } [] gamOK hT h (by kernel_rfl) trivial fun a w h => then_normal (wp_seq ?_)
          refine at_regq [] { ts := [2, 10, 11], os := [] } [(pMk s28) ((Sh.mk s28) (sinkM x0).1 1) 1] gamOK hT h (by kernel_rfl) ⟨(by (show (0 : Int) ≤ _ ∧ _ + ((Sh.ct _ _ : Nat) : Int) ≤ (4611686018427387904 : Int); (try simp only [held_marked, held_markedT, mkK, mkKT, Sh.ctT_mkT, Sh.ct_mk]); constructor <;> omega)), trivial⟩ fun a w h => then_normal (wp_seq (wp_seq ?_))
          refine at_regq [] { ts := [2, 10, 11, 92], os := [] } [] gamOK hT h (by kernel_rfl) trivial fun a w h => then_normal ?_
          refine at_test (decide (((heldD s28) ((Sh.mk s28) (sinkM x0).1 1) 1) < 0)) h (by kernel_rfl) (fun h10 => ?_) (fun h10 => ?_)
          ·replace h10 : ((heldD s28) ((Sh.mk s28) (sinkM x0).1 1) 1) < 0 := of_decide_eq_true h10
           refine wp_seq ?_
           refine at_regq [] { ts := [2, 10, 11], os := [] } [] gamOK hT h (by kernel_rfl) trivial fun a w h => then_normal (wp_ret (then_ret ?_))
           exact at_return (false, ()) [] h (by kernel_rfl) trivial (congrArg (fun z => (z, ())) (show (false) = D_laws_FnExactSinkMessage x0 from by unfold D_laws_FnExactSinkMessage; (exfalso; simp only [held_marked, held_markedT, mkK, mkKT, Sh.ctT_mkT, Sh.ct_mk] at h10; first | omega | exact h10 trivial | exact h10 rfl)))
          ·replace h10 : ¬ (((heldD s28) ((Sh.mk s28) (sinkM x0).1 1) 1) < 0) := of_decide_eq_false h10
           refine wp_skip (then_normal (wp_seq (wp_seq ?_)))
           refine at_regq [] { ts := [2, 95], os := [] } [] gamOK hT h (by kernel_rfl) trivial fun a w h => then_normal ?_
           refine at_test (!decide (((heldD s28) ((Sh.mk s28) (sinkM x0).1 1) 1) = ((mkK s28) (sinkM x0).1 1))) h (by kernel_rfl) (fun h11 => ?_) (fun h11 => ?_)
           ·replace h11 : ¬ (((heldD s28) ((Sh.mk s28) (sinkM x0).1 1) 1) = ((mkK s28) (sinkM x0).1 1)) := of_decide_eq_false (notT h11)
            refine wp_seq ?_
            refine at_regq [] { ts := [2], os := [] } [] gamOK hT h (by kernel_rfl) trivial fun a w h => then_normal (wp_ret (then_ret ?_))
            exact at_return (false, ()) [] h (by kernel_rfl) trivial (congrArg (fun z => (z, ())) (show (false) = D_laws_FnExactSinkMessage x0 from by unfold D_laws_FnExactSinkMessage; (exfalso; simp only [held_marked, held_markedT, mkK, mkKT, Sh.ctT_mkT, Sh.ct_mk] at h11; first | omega | exact h11 trivial | exact h11 rfl)))
           ·replace h11 : ((heldD s28) ((Sh.mk s28) (sinkM x0).1 1) 1) = ((mkK s28) (sinkM x0).1 1) := of_decide_eq_true (notF h11)
            refine wp_skip (then_normal (wp_seq ?_))
            refine at_regq [] { ts := [2], os := [] } [] gamOK hT h (by kernel_rfl) trivial fun a w h => then_normal (wp_ret ?_)
            exact at_return (true, ()) [] h (by kernel_rfl) trivial (congrArg (fun z => (z, ())) (show (true) = D_laws_FnExactSinkMessage x0 from by unfold D_laws_FnExactSinkMessage; rfl))

theorem opn3 : OpensS Tryz.prog 3 (.int 3) := opensS_int Tryz.underlying3
theorem co3 : Tryz.prog.cellsOf 3 = 1 := by kernel_rfl
theorem opn22 : OpensS Tryz.prog 22 s22 := opensS_slice (a := (.int 3)) Tryz.underlying22 co3 opn3
theorem co22 : Tryz.prog.cellsOf 22 = 1 := by kernel_rfl
theorem opn55 : OpensS Tryz.prog 55 s55 := opensS_slice (a := s22) Tryz.underlying55 co22 opn22
theorem co55 : Tryz.prog.cellsOf 55 = 1 := by kernel_rfl
theorem co57 : Tryz.prog.cellsOf 57 = 2 := by kernel_rfl
theorem opn57 : OpensS Tryz.prog 57 s57 := by
  intro H enc w base spare held fuel cs x h
  obtain ⟨xs, n, _, _, hl, hlen, hf⟩ := DataW.trod_struct Tryz.underlying57 h
  obtain ⟨a0, k0, i0⟩ := opensS_field (a := (.int 3)) (i := 0) 0 1 hf hlen rfl rfl rfl co3 opn3
  obtain ⟨a1, k1, i1⟩ := opensS_field (a := s55) (i := 1) 1 1 hf hlen rfl rfl rfl co55 opn55
  rw [co57] at hl
  exact ⟨(a0, a1), (rdS_pair (off := 0) k0 (rdS_last (off := 1) k1 (by omega))), ⟨i0, i1⟩⟩
theorem co59 : Tryz.prog.cellsOf 59 = 5 := by kernel_rfl
theorem opn59 : OpensS Tryz.prog 59 s59 := by
  intro H enc w base spare held fuel cs x h
  obtain ⟨xs, n, _, _, hl, hlen, hf⟩ := DataW.trod_struct Tryz.underlying59 h
  obtain ⟨a0, k0, i0⟩ := opensS_field (a := (.int 3)) (i := 0) 0 1 hf hlen rfl rfl rfl co3 opn3
  obtain ⟨a1, k1, i1⟩ := opensS_field (a := (.int 3)) (i := 1) 1 1 hf hlen rfl rfl rfl co3 opn3
  obtain ⟨a2, k2, i2⟩ := opensS_field (a := (.int 3)) (i := 2) 2 1 hf hlen rfl rfl rfl co3 opn3
  obtain ⟨a3, k3, i3⟩ := opensS_field (a := s57) (i := 3) 3 2 hf hlen rfl rfl rfl co57 opn57
  rw [co59] at hl
  exact ⟨(a0, (a1, (a2, a3))), (rdS_pair (off := 0) k0 (rdS_pair (off := 1) k1 (rdS_pair (off := 2) k2 (rdS_last (off := 3) k3 (by omega))))), ⟨i0, ⟨i1, ⟨i2, i3⟩⟩⟩⟩
theorem opn23 : OpensS Tryz.prog 23 s23 := opensS_slice (a := s59) Tryz.underlying23 co59 opn59
theorem co23 : Tryz.prog.cellsOf 23 = 1 := by kernel_rfl
theorem co62 : Tryz.prog.cellsOf 62 = 2 := by kernel_rfl
theorem opn62 : OpensS Tryz.prog 62 s62 := by
  intro H enc w base spare held fuel cs x h
  obtain ⟨xs, n, _, _, hl, hlen, hf⟩ := DataW.trod_struct Tryz.underlying62 h
  obtain ⟨a0, k0, i0⟩ := opensS_field (a := (.int 3)) (i := 0) 0 1 hf hlen rfl rfl rfl co3 opn3
  obtain ⟨a1, k1, i1⟩ := opensS_field (a := s55) (i := 1) 1 1 hf hlen rfl rfl rfl co55 opn55
  rw [co62] at hl
  exact ⟨(a0, a1), (rdS_pair (off := 0) k0 (rdS_last (off := 1) k1 (by omega))), ⟨i0, i1⟩⟩
theorem opn24 : OpensS Tryz.prog 24 s24 := opensS_slice (a := s62) Tryz.underlying24 co62 opn62
theorem co24 : Tryz.prog.cellsOf 24 = 1 := by kernel_rfl
theorem co26 : Tryz.prog.cellsOf 26 = 6 := by kernel_rfl
theorem opn26 : OpensS Tryz.prog 26 s26 := by
  intro H enc w base spare held fuel cs x h
  obtain ⟨xs, n, _, _, hl, hlen, hf⟩ := DataW.trod_struct Tryz.underlying26 h
  obtain ⟨a0, k0, i0⟩ := opensS_field (a := (.int 3)) (i := 0) 0 1 hf hlen rfl rfl rfl co3 opn3
  obtain ⟨a1, k1, i1⟩ := opensS_field (a := (.int 3)) (i := 1) 1 1 hf hlen rfl rfl rfl co3 opn3
  obtain ⟨a2, k2, i2⟩ := opensS_field (a := s22) (i := 2) 2 1 hf hlen rfl rfl rfl co22 opn22
  obtain ⟨a3, k3, i3⟩ := opensS_field (a := s23) (i := 3) 3 1 hf hlen rfl rfl rfl co23 opn23
  obtain ⟨a4, k4, i4⟩ := opensS_field (a := s24) (i := 4) 4 1 hf hlen rfl rfl rfl co24 opn24
  obtain ⟨a5, k5, i5⟩ := opensS_field (a := (.int 3)) (i := 5) 5 1 hf hlen rfl rfl rfl co3 opn3
  rw [co26] at hl
  exact ⟨(a0, (a1, (a2, (a3, (a4, a5))))), (rdS_pair (off := 0) k0 (rdS_pair (off := 1) k1 (rdS_pair (off := 2) k2 (rdS_pair (off := 3) k3 (rdS_pair (off := 4) k4 (rdS_last (off := 5) k5 (by omega))))))), ⟨i0, ⟨i1, ⟨i2, ⟨i3, ⟨i4, i5⟩⟩⟩⟩⟩⟩
namespace fnExactSinkMessage
open Go.ChangeShapes Go.WideShapes Go.ChangeAt Go.RowKit
theorem own : ownKnob Tryz.prog.godebug = none := by kernel_rfl
theorem laidOut : laidOutB Tryz.prog = true := fxLaid
set_option maxRecDepth 100000 in
theorem lifted (os : Os) (started : os.Started) (H : Type) (enc : TypeId × Value → H) :
    ReturnsInHanded {} Tryz.checked os 3 .any (Rows.fnExactSinkMessageSpec.pre6 enc Tryz.prog Tryz.f3 Rows.fnExactSinkMessageRow.domain false) (Rows.fnExactSinkMessageSpec.post enc Tryz.prog Tryz.f3 false true false false) := by
  refine returnsInHanded_of_change (C := Tryz.checked) own started (by kernel_rfl) Tryz.func3
    (ChangeSpec.witness6 (enc := enc) (C := Tryz.checked) false ⟨#[], #[.agg #[.int .i64 0, .int .i64 0, .slice none 0 0, .slice none 0 0, .slice none 0 0, .int .i64 0]], []⟩ 8 (by kernel_rfl) (by kernel_rfl) (by kernel_rfl) (by kernel_rfl)) ?_
  intro W base args ds gs before hval0 hW hcnd _
  have hval : ∀ (j : Nat) t v, Tryz.f3.params[j]? = some t → args[j]? = some v → Value.okWide Tryz.prog W .any base t v := hval0
  have hW' := hW
  obtain ⟨p, q, hA0, hV, rfl, hfz, hnd⟩ := hW
  have hA : DataW.TrodAll enc Tryz.prog W 0 (fun _ => true) true Tryz.f3.params.toList args.toList ds p := hA0
  rw [Tryz.params3] at hA hval
  obtain ⟨v0, vs0, d0, ds0, p0, q0, hargs, rfl, rfl, h0, r0⟩ := trodAll_cons hA
  obtain ⟨rfl, rfl, rfl⟩ := trodAll_nil r0
  obtain rfl : args = #[v0] := by cases args; simp_all
  obtain ⟨rfl, rfl⟩ := trodVars_none hV
  have k0 := h0
  have lt0 : ∀ x ∈ p0, x.block < W.heap.size := by obtain ⟨m, hm⟩ := k0; exact DataW.trod_lt m _ _ _ hm
  obtain ⟨cs0, rfl, _⟩ := okWide_struct Tryz.underlying26 (hval 0 26 v0 rfl rfl)
  obtain ⟨cs0⟩ := cs0
  obtain ⟨x0, hx0, i0⟩ : ∃ x : (s26).D, (s26).rd W (fun b => b < W.heap.size) cs0 x ∧ (s26).i64 x := by obtain ⟨fuel, hf⟩ := h0; exact opn26 hf
  clear hA0 hval0
  refine (calls_law S_laws_FnExactSinkMessage_ok (by kernel_rfl) W (fun b => b < W.heap.size) [.agg cs0.toArray] (x0, ()) (fun _ h => h) ⟨argRd_st hx0, trivial⟩ i0).mono fun e W' hr => ?_
  obtain ⟨he, bel⟩ := ret_bool hr
  subst he
  exact ⟨_, rfl, _, _, _, [], _, [], hW', trodAll_mk1 (shut_bool Tryz.underlying4 _), (trodAll_cons_mk (Below.trod laidOut (by kernel_rfl) (of_decide_eq_true (by kernel_rfl)) k0 bel lt0) trodAll_mk0), rfl, bel.frame _, fun h => by cases h⟩
theorem closed : joinedFacts Tryz.prog 3 Tryz.f3 (Rows.fnExactSinkMessageSpec) Rows.fnExactSinkMessageRow = true := by
  unfold joinedFacts
  exact (and2 (and2 (and2 (and2 (and2 (and2 (and2 (and2 (and2 (and2 (and2 (and2 (and2 (and2 (and2 (and2 (and2 (and2 (and2 (and2 (and2 (and2 (and2 (and2 (and2 (and2 (and2 (and2 (and2 (and2 (and2 (by kernel_rfl) fxLaid) fxMaps) (by kernel_rfl)) (by kernel_rfl)) (by kernel_rfl)) (by kernel_rfl)) (by kernel_rfl)) (by kernel_rfl)) (by kernel_rfl)) (by kernel_rfl)) (by kernel_rfl)) (by kernel_rfl)) (by kernel_rfl)) (by kernel_rfl)) (by kernel_rfl)) (by kernel_rfl)) (by kernel_rfl)) (by kernel_rfl)) (by kernel_rfl)) (by kernel_rfl)) (by kernel_rfl)) (by kernel_rfl)) (by kernel_rfl)) (by kernel_rfl)) fxEnter) (by rw [fxLifts]; kernel_rfl)) (by rw [fxMake]; kernel_rfl)) (by kernel_rfl)) (by kernel_rfl)) (by kernel_rfl)) (by kernel_rfl))
theorem over : Rows.fnExactSinkMessageRow.holds Tryz.pinned (OpenSpec.ofChange Rows.fnExactSinkMessageSpec) :=
  OpenClaim.holds_of_wide 3 Tryz.f3 rfl rfl rfl rfl rfl rfl rfl ⟨rfl, rfl, rfl, rfl, rfl⟩ rfl rfl rfl rfl rfl (by kernel_rfl) Tryz.func3 closed
    (of_decide_eq_true (by kernel_rfl)) (by unfold Func.isWrapper; first | (rw [if_pos (by decide +kernel)]; kernel_rfl) | (rw [if_neg (by decide +kernel)]; exact ⟨rfl, rfl⟩))
    (fun os started H enc _ => lifted os started H enc)
/-- the statement -/
theorem proved : Rows.FnExactSinkMessageSaid := over
end fnExactSinkMessage

end Go.Proofs.YtamibfjeldfphaaGreat
