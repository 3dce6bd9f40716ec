/- Linear algebra over the field of 1019 elements: spans, reduced rows and their uniqueness; insertion and elimination agree. No program is named; no condition. -/
set_option linter.unusedVariables false
set_option linter.unusedSimpArgs false
namespace LA
abbrev F := Fin 1019
abbrev V := Nat → F
def sumN (f : Nat → F) : Nat → F
 | 0 => 0
 | n + 1 => sumN f n + f n
theorem sumN_congr {f g : Nat → F} : ∀ {n : Nat}, (∀ i, i < n → f i = g i) → sumN f n = sumN g n
 | 0, _ => rfl
 | n + 1, h => by simp only [sumN]; rw [sumN_congr (n := n) (fun i hi => h i (by omega)), h n (by omega)]
theorem sumN_zero {f : Nat → F} {n : Nat} (h : ∀ i, i < n → f i = 0) : sumN f n = 0 := by
 induction n with
 | zero => rfl
 | succ n ih => simp only [sumN]; rw [ih (fun i hi => h i (by omega)), h n (by omega)]; grind
theorem sumN_single {f : Nat → F} {n k : Nat} (hk : k < n) (h : ∀ i, i < n → i ≠ k → f i = 0) : sumN f n = f k := by
 induction n with
 | zero => omega
 | succ n ih =>
  simp only [sumN]
  by_cases e : k = n
  ·subst e; rw [sumN_zero (fun i hi => h i (by omega) (by omega))]; grind
  ·rw [ih (by omega) (fun i hi => h i (by omega)), h n (by omega) (by omega)]; grind
theorem sumN_add (f g : Nat → F) (k : F) : ∀ n, sumN (fun i => f i + k * g i) n = sumN f n + k * sumN g n
 | 0 => by simp only [sumN]; grind
 | n + 1 => by simp only [sumN]; rw [sumN_add f g k n]; grind
theorem sumN_swap (f : Nat → Nat → F) (m : Nat) : ∀ n, sumN (fun i => sumN (fun j => f i j) m) n = sumN (fun j => sumN (fun i => f i j) n) m
 | 0 => by simp only [sumN]; exact (sumN_zero (fun _ _ => rfl)).symm
 | n + 1 => by
  simp only [sumN]
  rw [sumN_swap f m n]
  have := sumN_add (fun j => sumN (fun i => f i j) n) (fun j => f n j) 1 m
  have e : sumN (fun i => sumN (fun i_1 => f i_1 i) n + 1 * f n i) m = sumN (fun i => sumN (fun i_1 => f i_1 i) n + f n i) m := sumN_congr fun i _ => by grind
  rw [e] at this; rw [this]; grind
theorem sumN_mul (f : Nat → F) (k : F) : ∀ n, sumN (fun i => k * f i) n = k * sumN f n
 | 0 => by simp only [sumN]; grind
 | n + 1 => by simp only [sumN]; rw [sumN_mul f k n]; grind
def vz : V := fun _ => 0
def vadd (u : V) (k : F) (v : V) : V := fun j => u j + k * v j
def row (m : List V) (i : Nat) : V := m.getD i vz
def comb (c : Nat → F) (m : List V) : V := fun j => sumN (fun i => c i * row m i j) m.length
def Span (m : List V) (v : V) : Prop := ∃ c, v = comb c m
theorem Span.zero (m : List V) : Span m vz := ⟨fun _ => 0, by funext j; simp only [comb, vz]; exact (sumN_zero fun i _ => by grind).symm⟩
theorem Span.add {m : List V} {u v : V} (hu : Span m u) (k : F) (hv : Span m v) : Span m (vadd u k v) := by
 obtain ⟨c, rfl⟩ := hu
 obtain ⟨d, rfl⟩ := hv
 refine ⟨fun i => c i + k * d i, ?_⟩
 funext j
 simp only [comb, vadd]
 rw [← sumN_add]
 exact sumN_congr fun i _ => by grind
theorem Span.row {m : List V} {i : Nat} (hi : i < m.length) : Span m (row m i) := ⟨fun k => if k = i then 1 else 0, by
 funext j
 simp only [comb]
 rw [sumN_single hi (fun k _ hk => by simp only [if_neg hk]; grind)]
 simp only [if_true]; grind⟩
theorem Span.of_rows {m m' : List V} (h : ∀ i, i < m.length → Span m' (LA.row m i)) {v : V} (hv : Span m v) : Span m' v := by
 obtain ⟨c, rfl⟩ := hv
 have : ∀ n, n ≤ m.length → Span m' (fun j => sumN (fun i => c i * LA.row m i j) n) := by
  intro n
  induction n with
  | zero => intro _; exact Span.zero m'
  | succ n ih =>
   intro hn
   have := (ih (by omega)).add (c n) (h n (by omega))
   exact this
 exact this m.length (Nat.le_refl _)
theorem row_mem {m : List V} {i : Nat} (hi : i < m.length) : row m i ∈ m := by
 unfold row; rw [List.getD_eq_getElem?_getD, List.getElem?_eq_getElem hi]; exact List.getElem_mem hi
theorem mem_row {m : List V} {v : V} (h : v ∈ m) : ∃ i, i < m.length ∧ row m i = v := by
 obtain ⟨i, hi, rfl⟩ := List.getElem_of_mem h
 exact ⟨i, hi, by unfold row; rw [List.getD_eq_getElem?_getD, List.getElem?_eq_getElem hi]; rfl⟩
theorem Span.mem {m : List V} {v : V} (h : v ∈ m) : Span m v := by obtain ⟨i, hi, rfl⟩ := mem_row h; exact Span.row hi
theorem Span.of_mem {m m' : List V} (h : ∀ v ∈ m, Span m' v) {v : V} (hv : Span m v) : Span m' v := Span.of_rows (fun i hi => h _ (row_mem hi)) hv
def Lead (v : V) (l : Nat) : Prop := v l ≠ 0 ∧ ∀ j, j < l → v j = 0
theorem Lead.uniq {v : V} {a b : Nat} (h : Lead v a) (k : Lead v b) : a = b := by
 rcases Nat.lt_trichotomy a b with hl | rfl | hl
 ·exact absurd (k.2 a hl) h.1
 ·rfl
 ·exact absurd (h.2 b hl) k.1
theorem Lead.ex {v : V} (h : v ≠ vz) : ∃ l, Lead v l := by
 have : ∃ j, v j ≠ 0 := Classical.byContradiction fun hn => h (funext fun j => Classical.byContradiction fun hj => hn ⟨j, hj⟩)
 obtain ⟨j, hj⟩ := this
 induction j using Nat.strongRecOn with
 | ind j ih =>
  by_cases hs : ∃ i, i < j ∧ v i ≠ 0
  ·obtain ⟨i, hi, hv⟩ := hs; exact ih i hi hv
  ·exact ⟨j, hj, fun i hi => Classical.byContradiction fun hv => hs ⟨i, hi, hv⟩⟩
structure Red (m : List V) (p : Nat → Nat) : Prop where
 inc : ∀ i j, i < j → j < m.length → p i < p j
 one : ∀ i, i < m.length → row m i (p i) = 1
 zero : ∀ i, i < m.length → ∀ j, j < p i → row m i j = 0
 clear : ∀ i k, i < m.length → k < m.length → i ≠ k → row m i (p k) = 0
theorem one_ne : (1 : F) ≠ 0 := by decide
theorem Red.lead {m : List V} {p : Nat → Nat} (h : Red m p) {i : Nat} (hi : i < m.length) : Lead (row m i) (p i) := ⟨by rw [h.one i hi]; exact one_ne, h.zero i hi⟩
theorem Red.at_piv {m : List V} {p : Nat → Nat} (h : Red m p) (c : Nat → F) {k : Nat} (hk : k < m.length) : comb c m (p k) = c k := by
 simp only [comb]
 rw [sumN_single hk (fun i hi hne => by rw [h.clear i k hi hk hne]; grind), h.one k hk]; grind
theorem Red.inj {m : List V} {p : Nat → Nat} (h : Red m p) {i j : Nat} (hi : i < m.length) (hj : j < m.length) (e : p i = p j) : i = j := by
 rcases Nat.lt_trichotomy i j with hl | rfl | hl
 ·have := h.inc i j hl hj; omega
 ·rfl
 ·have := h.inc j i hl hi; omega
theorem Red.lead_piv {m : List V} {p : Nat → Nat} (h : Red m p) {v : V} (hv : Span m v) {l : Nat} (hl : Lead v l) : ∃ i, i < m.length ∧ p i = l := by
 obtain ⟨c, rfl⟩ := hv
 have : ∃ i, i < m.length ∧ c i ≠ 0 := Classical.byContradiction fun hn => hl.1 (by
  simp only [comb]
  exact sumN_zero fun i hi => by
   have : c i = 0 := Classical.byContradiction fun hc => hn ⟨i, hi, hc⟩
   rw [this]; grind)
 have first : ∃ i, (i < m.length ∧ c i ≠ 0) ∧ ∀ k, k < i → c k = 0 := by
  obtain ⟨i, hi, hc⟩ := this
  induction i using Nat.strongRecOn with
  | ind i ih =>
   by_cases hs : ∃ k, k < i ∧ c k ≠ 0
   ·obtain ⟨k, hk, hck⟩ := hs; exact ih k hk (by omega) hck
   ·exact ⟨i, ⟨hi, hc⟩, fun k hk => Classical.byContradiction fun hv => hs ⟨k, hk, hv⟩⟩
 obtain ⟨i, ⟨hi, hc⟩, hf⟩ := first
 refine ⟨i, hi, ?_⟩
 have h1 : Lead (comb c m) (p i) := ⟨by rw [h.at_piv c hi]; exact hc, fun j hj => by
  simp only [comb]
  refine sumN_zero fun k hk => ?_
  by_cases hki : k < i
  ·rw [hf k hki]; grind
  ·have : j < p k := by
    by_cases e : k = i
    ·rw [e]; exact hj
    ·have := h.inc i k (by omega) hk; omega
   rw [h.zero k hk j this]; grind⟩
 exact h1.uniq hl
theorem Red.uniq {m m' : List V} {p p' : Nat → Nat} (h : Red m p) (h' : Red m' p') (hs : ∀ v, Span m v → Span m' v) (hs' : ∀ v, Span m' v → Span m v) : m = m' := by
 have piv : ∀ i, i < m.length → ∃ k, k < m'.length ∧ p' k = p i := fun i hi => h'.lead_piv (hs _ (Span.row hi)) (h.lead hi)
 have piv' : ∀ i, i < m'.length → ∃ k, k < m.length ∧ p k = p' i := fun i hi => h.lead_piv (hs' _ (Span.row hi)) (h'.lead hi)
 have step : ∀ i, (i < m.length ↔ i < m'.length) ∧ (i < m.length → p i = p' i) := by
  intro i
  induction i using Nat.strongRecOn with
  | ind i ih =>
   have a1 : i < m.length → i < m'.length ∧ p' i ≤ p i := fun hi => by
    obtain ⟨k, hk, e⟩ := piv i hi
    have hki : ¬ k < i := fun hlt => by
     have h1 := (ih k hlt).2 (by omega)
     have := h.inc k i hlt hi
     omega
    refine ⟨by omega, ?_⟩
    by_cases e2 : i = k
    ·rw [e2, e]; rw [← e2]; exact Nat.le_refl _
    ·have := h'.inc i k (by omega) hk; omega
   have a2 : i < m'.length → i < m.length ∧ p i ≤ p' i := fun hi => by
    obtain ⟨k, hk, e⟩ := piv' i hi
    have hki : ¬ k < i := fun hlt => by
     have h1 := (ih k hlt).2 hk
     have := h'.inc k i hlt hi
     omega
    refine ⟨by omega, ?_⟩
    by_cases e2 : i = k
    ·rw [e2, e]; rw [← e2]; exact Nat.le_refl _
    ·have := h.inc i k (by omega) hk; omega
   exact ⟨⟨fun hi => (a1 hi).1, fun hi => (a2 hi).1⟩, fun hi => by have := (a1 hi).2; have := (a2 (a1 hi).1).2; omega⟩
 have hlen : m.length = m'.length := by
  rcases Nat.lt_trichotomy m.length m'.length with hl | e | hl
  ·have := (step m.length).1.2 hl; omega
  ·exact e
  ·have := (step m'.length).1.1 hl; omega
 apply List.ext_getElem hlen
 intro i hi hi'
 obtain ⟨c, hc⟩ := hs _ (Span.row hi)
 have hcu : ∀ k, k < m'.length → c k = row m i (p k) := fun k hk => by
  have := h'.at_piv c hk
  rw [← hc, ← (step k).2 (by omega)] at this
  exact this.symm
 have e1 : row m i = row m' i := by
  rw [hc]
  funext j
  simp only [comb]
  rw [sumN_single hi' (fun k hk hne => by rw [hcu k hk, h.clear i k hi (by omega) (fun e => hne e.symm)]; grind), hcu i hi', h.one i hi]
  grind
 unfold row at e1
 rw [List.getD_eq_getElem?_getD, List.getD_eq_getElem?_getD, List.getElem?_eq_getElem hi, List.getElem?_eq_getElem hi'] at e1
 exact e1
def vscale (k : F) (v : V) : V := fun j => k * v j
theorem Span.scale {m : List V} {v : V} (k : F) (h : Span m v) : Span m (vscale k v) := by
 have := (Span.zero m).add k h
 have e : vadd vz k v = vscale k v := by funext j; simp only [vadd, vz, vscale]; grind
 rwa [e] at this
def redTo (m : List V) (p : Nat → Nat) (v : V) : Nat → V
 | 0 => v
 | n + 1 => vadd (redTo m p v n) (-(redTo m p v n (p n))) (row m n)
theorem redTo_piv {m : List V} {p : Nat → Nat} (h : Red m p) (v : V) : ∀ n, n ≤ m.length → ∀ k, k < m.length → redTo m p v n (p k) = if k < n then 0 else v (p k)
 | 0, _, k, _ => by simp [redTo]
 | n + 1, hn, k, hk => by
  have ih := redTo_piv h v n (by omega)
  simp only [redTo, vadd]
  by_cases e : k = n
  ·subst e
   rw [h.one k hk, if_pos (by omega)]; grind
  ·rw [h.clear n k (by omega) hk (fun e' => e e'.symm), ih k hk]
   by_cases e2 : k < n
   ·rw [if_pos e2, if_pos (by omega)]; grind
   ·rw [if_neg e2, if_neg (by omega)]; grind
theorem redTo_span {m : List V} {p : Nat → Nat} (v : V) : ∀ n, n ≤ m.length → ∃ u, Span m u ∧ redTo m p v n = vadd v 1 u
 | 0, _ => ⟨vz, Span.zero m, by funext j; simp only [redTo, vadd, vz]; grind⟩
 | n + 1, hn => by
  obtain ⟨u, hu, e⟩ := redTo_span (m := m) (p := p) v n (by omega)
  refine ⟨vadd u (-(redTo m p v n (p n))) (row m n), hu.add _ (Span.row (m := m) (i := n) (by omega)), ?_⟩
  simp only [redTo]
  funext j
  have : redTo m p v n j = v j + 1 * u j := by rw [e]; rfl
  simp only [vadd, this]; grind
def rem (m : List V) (p : Nat → Nat) (v : V) : V := redTo m p v m.length
theorem rem_piv {m : List V} {p : Nat → Nat} (h : Red m p) (v : V) {k : Nat} (hk : k < m.length) : rem m p v (p k) = 0 := by
 unfold rem; rw [redTo_piv h v _ (Nat.le_refl _) k hk, if_pos hk]
theorem rem_zero_iff {m : List V} {p : Nat → Nat} (h : Red m p) (v : V) : rem m p v = vz ↔ Span m v := by
 obtain ⟨u, hu, e⟩ := redTo_span (p := p) v m.length (Nat.le_refl _)
 have e' : rem m p v = vadd v 1 u := e
 constructor
 ·intro hz
  have : v = vadd vz (-1) u := by
   funext j
   have := congrFun (hz.symm.trans e') j
   simp only [vz, vadd] at this ⊢
   grind
  rw [this]; exact (Span.zero m).add _ hu
 ·intro hv
  have hr : Span m (rem m p v) := by rw [e']; exact hv.add 1 hu
  obtain ⟨c, hc⟩ := hr
  have hc0 : ∀ k, k < m.length → c k = 0 := fun k hk => by
   have := h.at_piv c hk
   rw [← hc, rem_piv h v hk] at this; exact this.symm
  rw [hc]
  funext j
  exact sumN_zero fun i hi => by rw [hc0 i hi]; grind
theorem rem_span {m : List V} {p : Nat → Nat} (v : V) : ∃ u, Span m u ∧ rem m p v = vadd v 1 u := redTo_span v m.length (Nat.le_refl _)
def insRow (m : List V) (w : V) (l a : Nat) : List V := (m.take a).map (fun r => vadd r (-(r l)) w) ++ w :: (m.drop a).map (fun r => vadd r (-(r l)) w)
def insPiv (p : Nat → Nat) (l a : Nat) : Nat → Nat := fun i => if i < a then p i else if i = a then l else p (i - 1)
theorem insRow_len (m : List V) (w : V) (l a : Nat) (ha : a ≤ m.length) : (insRow m w l a).length = m.length + 1 := by simp [insRow]; omega
theorem insRow_row {m : List V} {w : V} {l a : Nat} (ha : a ≤ m.length) {i : Nat} (hi : i < m.length + 1) :
  row (insRow m w l a) i = if i = a then w else let r := row m (if i < a then i else i - 1); vadd r (-(r l)) w := by
 unfold row insRow
 rw [List.getD_eq_getElem?_getD]
 by_cases h1 : i < a
 ·rw [List.getElem?_append_left (by simp; omega), if_neg (by omega), if_pos h1]
  simp only [List.getElem?_map, List.getElem?_take, if_pos h1]
  rw [List.getElem?_eq_getElem (by omega), List.getD_eq_getElem?_getD, List.getElem?_eq_getElem (by omega)]
  rfl
 ·rw [List.getElem?_append_right (by simp; omega), if_neg h1]
  have hl : (List.map (fun r => vadd r (-(r l)) w) (List.take a m)).length = a := by simp; omega
  rw [hl]
  by_cases h2 : i = a
  ·subst h2; simp
  ·rw [if_neg h2]
   obtain ⟨d, rfl⟩ : ∃ d, i = a + 1 + d := ⟨i - a - 1, by omega⟩
   rw [show a + 1 + d - a = d + 1 by omega, List.getElem?_cons_succ, List.getElem?_map, List.getElem?_drop, List.getElem?_eq_getElem (by omega), show a + 1 + d - 1 = a + d by omega, List.getD_eq_getElem?_getD, List.getElem?_eq_getElem (by omega)]
   rfl
theorem insRow_red {m : List V} {p : Nat → Nat} (h : Red m p) {w : V} {l a : Nat} (ha : a ≤ m.length) (hw1 : w l = 1) (hw0 : ∀ j, j < l → w j = 0) (hwp : ∀ k, k < m.length → w (p k) = 0)
  (hlo : ∀ k, k < a → p k < l) (hhi : ∀ k, a ≤ k → k < m.length → l < p k) : Red (insRow m w l a) (insPiv p l a) := by
 have hlen := insRow_len m w l a ha
 have idx : ∀ i, i < m.length + 1 → i ≠ a → (if i < a then i else i - 1) < m.length ∧ insPiv p l a i = p (if i < a then i else i - 1) := fun i hi hne => by
  unfold insPiv
  by_cases h1 : i < a
  ·rw [if_pos h1, if_pos h1]; exact ⟨by omega, rfl⟩
  ·rw [if_neg h1, if_neg h1, if_neg hne]; exact ⟨by omega, rfl⟩
 have pa : insPiv p l a a = l := by unfold insPiv; rw [if_neg (by omega), if_pos rfl]
 have pne : ∀ k, k < m.length → p k ≠ l := fun k hk e => by have := hwp k hk; rw [e, hw1] at this; exact one_ne this
 refine ⟨fun i j hij hj => ?_, fun i hi => ?_, fun i hi j hj => ?_, fun i k hi hk hne => ?_⟩
 ·rw [hlen] at hj
  unfold insPiv
  by_cases h1 : i < a
  ·rw [if_pos h1]
   by_cases h2 : j < a
   ·rw [if_pos h2]; exact h.inc i j hij (by omega)
   ·rw [if_neg h2]
    by_cases h3 : j = a
    ·rw [if_pos h3]; exact hlo i h1
    ·rw [if_neg h3]; exact h.inc i (j - 1) (by omega) (by omega)
  ·rw [if_neg h1, if_neg (show ¬ j < a by omega), if_neg (show ¬ j = a by omega)]
   by_cases h3 : i = a
   ·rw [if_pos h3]; exact hhi (j - 1) (by omega) (by omega)
   ·rw [if_neg h3]; exact h.inc (i - 1) (j - 1) (by omega) (by omega)
 ·rw [hlen] at hi
  rw [insRow_row ha hi]
  by_cases e : i = a
  ·subst e; rw [if_pos rfl, pa]; exact hw1
  ·obtain ⟨h1, h2⟩ := idx i hi e
   rw [if_neg e, h2]
   simp only [vadd]
   rw [h.one _ h1, hwp _ h1]; grind
 ·rw [hlen] at hi
  rw [insRow_row ha hi]
  by_cases e : i = a
  ·subst e; rw [if_pos rfl]; rw [pa] at hj; exact hw0 j hj
  ·obtain ⟨h1, h2⟩ := idx i hi e
   rw [h2] at hj
   rw [if_neg e]
   simp only [vadd]
   rw [h.zero _ h1 j hj]
   by_cases hp : p (if i < a then i else i - 1) < l
   ·rw [hw0 j (by omega)]; grind
   ·have hl : l < p (if i < a then i else i - 1) := by have := pne _ h1; omega
    rw [h.zero _ h1 l hl]; grind
 ·rw [hlen] at hi hk
  rw [insRow_row ha hi]
  by_cases e : i = a
  ·subst e
   obtain ⟨h1, h2⟩ := idx k hk (fun e => hne e.symm)
   rw [if_pos rfl, h2]; exact hwp _ h1
  ·obtain ⟨h1, h2⟩ := idx i hi e
   rw [if_neg e]
   simp only [vadd]
   by_cases ek : k = a
   ·rw [ek, pa, hw1]; grind
   ·obtain ⟨h3, h4⟩ := idx k hk ek
    rw [h4, hwp _ h3, h.clear _ _ h1 h3 (fun e' => hne (by
     by_cases q1 : i < a <;> by_cases q2 : k < a <;> simp only [q1, q2, if_true, if_false] at e' <;> omega))]
    grind
theorem insRow_span {m : List V} {w : V} {l a : Nat} (ha : a ≤ m.length) (v : V) : Span (insRow m w l a) v ↔ Span (m ++ [w]) v := by
 have hw : Span (insRow m w l a) w := Span.mem (by simp [insRow])
 constructor
 ·refine Span.of_mem fun r hr => ?_
  have hw' : Span (m ++ [w]) w := Span.mem (by simp)
  unfold insRow at hr
  simp only [List.mem_append, List.mem_map, List.mem_cons] at hr
  rcases hr with ⟨s, hs, rfl⟩ | rfl | ⟨s, hs, rfl⟩
  ·exact (Span.mem (by simp [List.mem_of_mem_take hs])).add _ hw'
  ·exact hw'
  ·exact (Span.mem (by simp [List.mem_of_mem_drop hs])).add _ hw'
 ·refine Span.of_mem fun r hr => ?_
  rcases List.mem_append.1 hr with hr | hr
  ·have key : Span (insRow m w l a) (vadd r (-(r l)) w) := Span.mem (by
    unfold insRow
    rw [← List.take_append_drop a m] at hr
    simp only [List.mem_append, List.mem_map, List.mem_cons]
    rcases List.mem_append.1 hr with hr | hr
    ·exact .inl ⟨r, hr, rfl⟩
    ·exact .inr (.inr ⟨r, hr, rfl⟩))
   have := key.add (r l) hw
   have e : vadd (vadd r (-(r l)) w) (r l) w = r := by funext j; simp only [vadd]; grind
   rwa [e] at this
  ·rw [List.mem_singleton] at hr; rw [hr]; exact hw
theorem span_swap {m : List V} {p : Nat → Nat} {v : V} {k k' : F} (hk : k * k' = 1) (x : V) : Span (m ++ [vscale k (rem m p v)]) x ↔ Span (m ++ [v]) x := by
 obtain ⟨u, hu, e⟩ := rem_span (m := m) (p := p) v
 have lift : ∀ (y z : V), Span m y → Span (m ++ [z]) y := fun y z hy => Span.of_mem (fun r hr => Span.mem (by simp [hr])) hy
 constructor
 ·refine Span.of_mem fun r hr => ?_
  rcases List.mem_append.1 hr with hr | hr
  ·exact Span.mem (by simp [hr])
  ·rw [List.mem_singleton] at hr
   rw [hr, e]
   exact ((Span.mem (by simp : v ∈ m ++ [v])).add 1 (lift u v hu)).scale k
 ·refine Span.of_mem fun r hr => ?_
  rcases List.mem_append.1 hr with hr | hr
  ·exact Span.mem (by simp [hr])
  ·rw [List.mem_singleton] at hr
   have h1 : Span (m ++ [vscale k (rem m p v)]) (vscale k' (vscale k (rem m p v))) := (Span.mem (by simp)).scale k'
   have h2 := h1.add (-1) (lift u _ hu)
   have e2 : vadd (vscale k' (vscale k (rem m p v))) (-1) u = r := by
    rw [hr]; funext j
    have : rem m p v j = v j + 1 * u j := by rw [e]; rfl
    simp only [vadd, vscale, this]; grind
   rwa [e2] at h2
theorem row_map {N : Nat} (g : Nat → V) {i : Nat} (hi : i < N) : row ((List.range N).map g) i = g i := by
 unfold row
 rw [List.getD_eq_getElem?_getD, List.getElem?_map, List.getElem?_range hi]; rfl
def gjRows (m : List V) (a b k : Nat) (inv : F) : List V :=
 (List.range m.length).map fun i => if i = a then vscale inv (row m b) else vadd (if i = b then row m a else row m i) (-((if i = b then row m a else row m i) k)) (vscale inv (row m b))
structure Gj (m0 m : List V) (p : Nat → Nat) (k a : Nat) : Prop where
 le : a ≤ m.length
 inc : ∀ i j, i < j → j < a → p i < p j
 lt : ∀ i, i < a → p i < k
 one : ∀ i, i < a → row m i (p i) = 1
 zero : ∀ i, i < a → ∀ j, j < p i → row m i j = 0
 clear : ∀ i r, i < a → r < m.length → r ≠ i → row m r (p i) = 0
 rest : ∀ r, a ≤ r → r < m.length → ∀ j, j < k → row m r j = 0
 span : ∀ v, Span m v ↔ Span m0 v
theorem Gj.start (m : List V) : Gj m m (fun _ => 0) 0 0 := ⟨Nat.zero_le _, fun i j _ h => absurd h (by omega), fun i h => absurd h (by omega), fun i h => absurd h (by omega), fun i h => absurd h (by omega), fun i r h => absurd h (by omega), fun r _ _ j h => absurd h (by omega), fun v => Iff.rfl⟩
theorem Gj.skip {m0 m : List V} {p : Nat → Nat} {k a : Nat} (h : Gj m0 m p k a) (hz : ∀ r, a ≤ r → r < m.length → row m r k = 0) : Gj m0 m p (k + 1) a :=
 ⟨h.le, h.inc, fun i hi => by have := h.lt i hi; omega, h.one, h.zero, h.clear, fun r h1 h2 j hj => by
  by_cases e : j = k
  ·rw [e]; exact hz r h1 h2
  ·exact h.rest r h1 h2 j (by omega), h.span⟩
theorem Gj.step {m0 m : List V} {p : Nat → Nat} {k a b : Nat} (h : Gj m0 m p k a) (hab : a ≤ b) (hb : b < m.length) {inv : F} (hinv : row m b k * inv = 1) :
  Gj m0 (gjRows m a b k inv) (fun i => if i = a then k else p i) (k + 1) (a + 1) := by
 have hlen : (gjRows m a b k inv).length = m.length := by simp [gjRows]
 have hr : ∀ i, i < m.length → row (gjRows m a b k inv) i = if i = a then vscale inv (row m b) else vadd (if i = b then row m a else row m i) (-((if i = b then row m a else row m i) k)) (vscale inv (row m b)) := fun i hi => row_map _ hi
 have hw1 : vscale inv (row m b) k = 1 := by simp only [vscale]; grind
 have hw0 : ∀ j, j < k → vscale inv (row m b) j = 0 := fun j hj => by simp only [vscale]; rw [h.rest b hab hb j hj]; grind
 have hsw : ∀ i, i < m.length → i ≠ a → ∃ r, r < m.length ∧ (if i = b then row m a else row m i) = row m r ∧ (a ≤ i → a ≤ r) ∧ (i < a → r = i) := fun i hi hne => by
  by_cases e : i = b
  ·exact ⟨a, by omega, by rw [if_pos e], fun _ => Nat.le_refl _, fun hia => by omega⟩
  ·exact ⟨i, hi, by rw [if_neg e], fun h => h, fun _ => rfl⟩
 refine ⟨by rw [hlen]; omega, fun i j hij hj => ?_, fun i hi => ?_, fun i hi => ?_, fun i hi j hj => ?_, fun i r hi hrl hne => ?_, fun r har hrl j hj => ?_, fun v => ?_⟩
 ·rw [if_neg (show ¬ i = a by omega)]
  by_cases e : j = a
  ·rw [if_pos e]; exact h.lt i (by omega)
  ·rw [if_neg e]; exact h.inc i j hij (by omega)
 ·by_cases e : i = a
  ·rw [if_pos e]; omega
  ·rw [if_neg e]; have := h.lt i (by omega); omega
 ·rw [hr i (by omega)]
  by_cases e : i = a
  ·rw [if_pos e, if_pos e]; exact hw1
  ·rw [if_neg e, if_neg e, if_neg (show ¬ i = b by omega)]
   simp only [vadd]
   rw [h.one i (by omega), hw0 _ (h.lt i (by omega))]; grind
 ·rw [hr i (by omega)]
  by_cases e : i = a
  ·rw [if_pos e] at hj; rw [if_pos e]; exact hw0 j hj
  ·rw [if_neg e] at hj
   rw [if_neg e, if_neg (show ¬ i = b by omega)]
   simp only [vadd]
   rw [h.zero i (by omega) j hj, hw0 j (by have := h.lt i (by omega); omega)]; grind
 ·rw [hlen] at hrl
  rw [hr r hrl]
  by_cases e : i = a
  ·rw [if_pos e, if_neg (fun e' => hne (e'.trans e.symm))]
   simp only [vadd]
   rw [hw1]; grind
  ·rw [if_neg e]
   have hia : i < a := by omega
   by_cases e2 : r = a
   ·rw [if_pos e2]; exact hw0 _ (h.lt i hia)
   ·rw [if_neg e2]
    obtain ⟨q, hq, hqe, hq1, hq2⟩ := hsw r hrl e2
    rw [hqe]
    simp only [vadd]
    rw [hw0 _ (h.lt i hia), h.clear i q hia hq (fun e3 => by
     by_cases hra : r < a
     ·exact hne ((hq2 hra).symm.trans e3)
     ·have := hq1 (by omega); omega)]
    grind
 ·rw [hlen] at hrl
  rw [hr r hrl, if_neg (show ¬ r = a by omega)]
  obtain ⟨q, hq, hqe, hq1, hq2⟩ := hsw r hrl (by omega)
  rw [hqe]
  simp only [vadd]
  by_cases e : j = k
  ·rw [e, hw1]; grind
  ·rw [h.rest q (hq1 (by omega)) hq j (by omega), hw0 j (by omega)]; grind
 ·rw [← h.span]
  have hwS : Span (gjRows m a b k inv) (vscale inv (row m b)) := by
   have := Span.row (m := gjRows m a b k inv) (i := a) (by omega)
   rwa [hr a (by omega), if_pos rfl] at this
  have hbS : Span (gjRows m a b k inv) (row m b) := by
   have := hwS.scale (row m b k)
   have e : vscale (row m b k) (vscale inv (row m b)) = row m b := by
    funext j; simp only [vscale]
    have : row m b k * (inv * row m b j) = (row m b k * inv) * row m b j := by grind
    rw [this, hinv]; grind
   rwa [e] at this
  constructor
  ·refine Span.of_rows fun i hi => ?_
   rw [hlen] at hi
   rw [hr i hi]
   have hw' : Span m (vscale inv (row m b)) := (Span.row hb).scale inv
   by_cases e : i = a
   ·rw [if_pos e]; exact hw'
   ·rw [if_neg e]
    obtain ⟨q, hq, hqe, _⟩ := hsw i hi e
    rw [hqe]; exact (Span.row hq).add _ hw'
  ·refine Span.of_rows fun i hi => ?_
   have back : ∀ t, t < m.length → t ≠ a → Span (gjRows m a b k inv) (if t = b then row m a else row m t) := fun t ht hta => by
    have h1 := Span.row (m := gjRows m a b k inv) (i := t) (by omega)
    rw [hr t ht, if_neg hta] at h1
    have h2 := h1.add ((if t = b then row m a else row m t) k) hwS
    generalize (if t = b then row m a else row m t) = q at *
    have e : vadd (vadd q (-(q k)) (vscale inv (row m b))) (q k) (vscale inv (row m b)) = q := by funext j; simp only [vadd]; grind
    rwa [e] at h2
   by_cases e : i = b
   ·rw [e]; exact hbS
   ·by_cases e2 : i = a
    ·have := back b hb (by omega)
     rw [if_pos rfl] at this
     rw [e2]; exact this
    ·have := back i hi e2
     rwa [if_neg e] at this
theorem Gj.done {m0 m : List V} {p : Nat → Nat} {k a n : Nat} (h : Gj m0 m p k a) (hz : a = m.length ∨ (n ≤ k ∧ ∀ r, r < m.length → ∀ j, n ≤ j → row m r j = 0)) :
  Red (m.take a) p ∧ ∀ v, Span (m.take a) v ↔ Span m0 v := by
 have hl : (m.take a).length = a := by rw [List.length_take]; exact Nat.min_eq_left h.le
 have hr : ∀ i, i < a → row (m.take a) i = row m i := fun i hi => by
  unfold row; rw [List.getD_eq_getElem?_getD, List.getD_eq_getElem?_getD, List.getElem?_take, if_pos hi]
 refine ⟨⟨fun i j hij hj => h.inc i j hij (by omega), fun i hi => ?_, fun i hi => ?_, fun i q hi hq hne => ?_⟩, fun v => ?_⟩
 ·rw [hr i (by omega)]; exact h.one i (by omega)
 ·rw [hr i (by omega)]; exact h.zero i (by omega)
 ·rw [hr i (by omega)]; exact h.clear q i (by omega) (by have := h.le; omega) hne
 ·rw [← h.span]
  constructor
  ·exact Span.of_mem fun r hr => Span.mem (List.mem_of_mem_take hr)
  ·refine Span.of_rows fun i hi => ?_
   by_cases e : i < a
   ·rw [← hr i e]; exact Span.row (by omega)
   ·rcases hz with hz | ⟨h1, h2⟩
    ·omega
    ·have : row m i = vz := by
      funext j
      by_cases hj : j < k
      ·exact h.rest i (by omega) hi j hj
      ·exact h2 i hi j (by omega)
     rw [this]; exact Span.zero _
def El (x : Int) : Prop := 0 ≤ x ∧ x ≤ 1018
def c (x : Int) : F := Fin.ofNat 1019 x.toNat
theorem c_val (x : Int) : (c x).val = x.toNat % 1019 := rfl
theorem c_one : c 1 = 1 := rfl
theorem c_inj {x y : Int} (hx : El x) (hy : El y) (h : c x = c y) : x = y := by
 have := congrArg Fin.val h
 rw [c_val, c_val, Nat.mod_eq_of_lt (by have := hx.2; omega), Nat.mod_eq_of_lt (by have := hy.2; omega)] at this
 have := hx.1; have := hy.1; omega
theorem c_add {x y : Int} (hx : 0 ≤ x) (hy : 0 ≤ y) : c (x + y) = c x + c y := by
 apply Fin.ext
 rw [Fin.val_add, c_val, c_val, c_val, Int.toNat_add hx hy, ← Nat.add_mod]
theorem c_mul {x y : Int} (hx : 0 ≤ x) (hy : 0 ≤ y) : c (x * y) = c x * c y := by
 apply Fin.ext
 rw [Fin.val_mul, c_val, c_val, c_val, Int.toNat_mul hx hy, ← Nat.mul_mod]
theorem c_mod {x : Int} (hx : 0 ≤ x) : c (x.tmod 1019) = c x := by
 apply Fin.ext
 rw [c_val, c_val, Int.tmod_eq_emod_of_nonneg hx]
 omega
theorem El.mod {x : Int} (hx : 0 ≤ x) : El (x.tmod 1019) := by
 rw [Int.tmod_eq_emod_of_nonneg hx]; unfold El; omega
theorem c_ne {x : Int} (hx : El x) : c x = 0 ↔ x = 0 := ⟨fun h => c_inj hx (by unfold El; omega) h, fun h => by rw [h]; rfl⟩
theorem c_neg {x : Int} (hx : El x) : c (1019 - x) = -(c x) := by
 have h1 := c_add (x := 1019 - x) (y := x) (by have := hx.2; omega) hx.1
 rw [show 1019 - x + x = 1019 by omega] at h1
 have h2 : c 1019 = 0 := rfl
 rw [h2] at h1
 grind
def VokB (n : Nat) (v : List Int) : Prop := v.length = n ∧ ∀ x ∈ v, El x
def vec (v : List Int) : V := fun j => c (v.getD j 0)
theorem VokB.at_ {n : Nat} {v : List Int} (h : VokB n v) (j : Nat) : El (v.getD j 0) := by
 rcases Nat.lt_or_ge j v.length with hj | hj
 ·have : v.getD j 0 = v[j] := by simp [List.getD, hj]
  rw [this]; exact h.2 _ (List.getElem_mem hj)
 ·have : v.getD j 0 = 0 := by simp [List.getD, hj]
  rw [this]; unfold El; omega
theorem vec_out {v : List Int} {j : Nat} (h : v.length ≤ j) : vec v j = 0 := by
 have : v.getD j 0 = 0 := by simp [List.getD, h]
 unfold vec; rw [this]; rfl
theorem vec_inj {n : Nat} {a b : List Int} (ha : VokB n a) (hb : VokB n b) (h : vec a = vec b) : a = b := by
 apply List.ext_getElem (by rw [ha.1, hb.1])
 intro i h1 h2
 have := c_inj (ha.at_ i) (hb.at_ i) (congrFun h i)
 simpa [List.getD, h1, h2] using this
def addS (a b : List Int) (k : Int) : List Int := List.zipWith (fun x y => (x + k * y).tmod 1019) a b
def scaleS (v : List Int) (k : Int) : List Int := v.map fun x => (x * k).tmod 1019
theorem addS_len {a b : List Int} {k : Int} (h : a.length = b.length) : (addS a b k).length = a.length := by simp [addS, h]
theorem addS_at {a b : List Int} {k : Int} (h : a.length = b.length) (j : Nat) : (addS a b k).getD j 0 = (a.getD j 0 + k * b.getD j 0).tmod 1019 := by
 unfold addS
 simp only [List.getD_eq_getElem?_getD, List.getElem?_zipWith]
 rcases Nat.lt_or_ge j a.length with hj | hj
 ·rw [List.getElem?_eq_getElem hj, List.getElem?_eq_getElem (by omega)]; rfl
 ·rw [List.getElem?_eq_none hj, List.getElem?_eq_none (by omega)]; simp
theorem addS_ok {n : Nat} {a b : List Int} {k : Int} (ha : VokB n a) (hb : VokB n b) (hk : El k) : VokB n (addS a b k) ∧ vec (addS a b k) = vadd (vec a) (c k) (vec b) := by
 have hl : a.length = b.length := by rw [ha.1, hb.1]
 refine ⟨⟨by rw [addS_len hl, ha.1], fun x hx => ?_⟩, ?_⟩
 ·obtain ⟨j, hj, rfl⟩ := List.getElem_of_mem hx
  have h1 := addS_at (k := k) hl j
  rw [show (addS a b k).getD j 0 = (addS a b k)[j] by simp [List.getD, hj]] at h1
  rw [h1]
  exact El.mod (Int.add_nonneg (ha.at_ j).1 (Int.mul_nonneg hk.1 (hb.at_ j).1))
 ·funext j
  simp only [vec, vadd]
  rw [addS_at hl, c_mod (Int.add_nonneg (ha.at_ j).1 (Int.mul_nonneg hk.1 (hb.at_ j).1)), c_add (ha.at_ j).1 (Int.mul_nonneg hk.1 (hb.at_ j).1), c_mul hk.1 (hb.at_ j).1]
theorem scaleS_ok {n : Nat} {v : List Int} {k : Int} (hv : VokB n v) (hk : El k) : VokB n (scaleS v k) ∧ vec (scaleS v k) = vscale (c k) (vec v) := by
 have at_ : ∀ j, (scaleS v k).getD j 0 = (v.getD j 0 * k).tmod 1019 := fun j => by
  unfold scaleS
  simp only [List.getD_eq_getElem?_getD, List.getElem?_map]
  rcases Nat.lt_or_ge j v.length with hj | hj
  ·rw [List.getElem?_eq_getElem hj]; rfl
  ·rw [List.getElem?_eq_none hj]; simp
 refine ⟨⟨by simp [scaleS, hv.1], fun x hx => ?_⟩, ?_⟩
 ·obtain ⟨y, hy, rfl⟩ := List.mem_map.1 hx
  exact El.mod (Int.mul_nonneg (hv.2 y hy).1 hk.1)
 ·funext j
  simp only [vec, vscale]
  rw [at_, c_mod (Int.mul_nonneg (hv.at_ j).1 hk.1), c_mul (hv.at_ j).1 hk.1]
  grind
def leadS : List Int → Int
 | [] => -1
 | x :: l => if x ≠ 0 then 0 else if leadS l < 0 then -1 else leadS l + 1
theorem leadS_bd : ∀ (v : List Int), -1 ≤ leadS v ∧ leadS v < ((v.length : Nat) : Int) ∨ (leadS v = -1)
 | [] => .inr rfl
 | x :: l => by
  have := leadS_bd l
  simp only [leadS, List.length_cons]
  split
  ·left; omega
  ·split
   ·right; rfl
   ·left; omega
theorem leadS_neg : ∀ {v : List Int}, leadS v < 0 → ∀ j, v.getD j 0 = 0
 | [], _, j => by simp
 | x :: l, h, j => by
  simp only [leadS] at h
  split at h
  ·omega
  ·rename_i hx
   split at h
   ·rename_i hl
    cases j with
    | zero => simpa using hx
    | succ j => have := leadS_neg hl j; simpa using this
   ·omega
theorem leadS_pos : ∀ {v : List Int}, 0 ≤ leadS v → v.getD (leadS v).toNat 0 ≠ 0 ∧ ∀ j, j < (leadS v).toNat → v.getD j 0 = 0
 | [], h => by simp [leadS] at h
 | x :: l, h => by
  simp only [leadS] at h ⊢
  split
  ·rename_i hx
   exact ⟨by simpa using hx, fun j hj => by simp at hj⟩
  ·rename_i hx
   split
   ·rename_i hl; rw [if_neg hx, if_pos hl] at h; omega
   ·rename_i hl
    obtain ⟨h1, h2⟩ := leadS_pos (v := l) (by omega)
    have e : (leadS l + 1).toNat = (leadS l).toNat + 1 := by omega
    rw [e]
    refine ⟨by simpa using h1, fun j hj => ?_⟩
    cases j with
    | zero => simpa using hx
    | succ j => have := h2 j (by omega); simpa using this
theorem leadS_lead {n : Nat} {v : List Int} (hv : VokB n v) (h : 0 ≤ leadS v) : Lead (vec v) (leadS v).toNat := by
 obtain ⟨h1, h2⟩ := leadS_pos h
 refine ⟨fun e => h1 ((c_ne (hv.at_ _)).1 e), fun j hj => ?_⟩
 unfold vec; rw [h2 j hj]; rfl
theorem leadS_zero {v : List Int} (h : leadS v < 0) : vec v = vz := by
 funext j; unfold vec; rw [leadS_neg h j]; rfl
theorem leadS_of {n : Nat} {v : List Int} (hv : VokB n v) {l : Nat} (h : Lead (vec v) l) : leadS v = l := by
 by_cases hn : leadS v < 0
 ·exact absurd (congrFun (leadS_zero hn) l) h.1
 ·have := (leadS_lead hv (by omega)).uniq h; omega
def pwB : Nat → F → Nat → F
 | 0, _, _ => 1
 | f + 1, x, n => bif n.beq 0 then 1 else (bif (n % 2).beq 1 then x else 1) * pwB f (x * x) (n / 2)
def pmL (m : Int) (out a : Int) (n : Nat) : Int := if h : n = 0 then out else pmL m (if n % 2 = 1 then (out * a).tmod m else out) ((a * a).tmod m) (n / 2)
termination_by n
theorem pmL_zero (m out a : Int) : pmL m out a 0 = out := by rw [pmL, dif_pos rfl]
theorem pmL_odd {m out a : Int} {n : Nat} (h : n % 2 = 1) : pmL m out a n = pmL m ((out * a).tmod m) ((a * a).tmod m) (n / 2) := by rw [pmL, dif_neg (by omega), if_pos h]
theorem pmL_even {m out a : Int} {n : Nat} (h0 : n ≠ 0) (h : n % 2 = 0) : pmL m out a n = pmL m out ((a * a).tmod m) (n / 2) := by rw [pmL, dif_neg h0, if_neg (by omega)]
theorem tmod_lt {x m : Int} (hx : 0 ≤ x) (hm : 0 < m) : 0 ≤ x.tmod m ∧ x.tmod m < m := by
 rw [Int.tmod_eq_emod_of_nonneg hx]
 exact ⟨Int.emod_nonneg _ (by omega), Int.emod_lt_of_pos _ hm⟩
theorem pmL_bd {m : Int} (hm : 0 < m) : ∀ (f n : Nat) (out a : Int), n < 2 ^ f → 0 ≤ out → out < m → 0 ≤ a → 0 ≤ pmL m out a n ∧ pmL m out a n < m
 | 0, n, out, a, h, h1, h2, h3 => by
  have : n = 0 := by simpa using h
  rw [this, pmL_zero]; exact ⟨h1, h2⟩
 | f + 1, n, out, a, h, h1, h2, h3 => by
  by_cases h0 : n = 0
  ·rw [h0, pmL_zero]; exact ⟨h1, h2⟩
  ·have hn : n / 2 < 2 ^ f := by rw [Nat.pow_succ] at h; omega
   have ha := tmod_lt (Int.mul_nonneg h3 h3) hm
   by_cases ho : n % 2 = 1
   ·rw [pmL_odd ho]
    have := tmod_lt (Int.mul_nonneg h1 h3) hm
    exact pmL_bd hm f _ _ _ hn this.1 this.2 ha.1
   ·rw [pmL_even h0 (by omega)]; exact pmL_bd hm f _ _ _ hn h1 h2 ha.1
theorem pmL_c : ∀ (f n : Nat) (out a : Int), n < 2 ^ f → 0 ≤ out → 0 ≤ a → c (pmL 1019 out a n) = c out * pwB f (c a) n
 | 0, n, out, a, h, h1, h3 => by
  have : n = 0 := by simpa using h
  rw [this, pmL_zero]; simp only [pwB]; grind
 | f + 1, n, out, a, h, h1, h3 => by
  by_cases h0 : n = 0
  ·rw [h0, pmL_zero]; simp only [pwB]
   show c out = c out * 1
   grind
  ·have hn : n / 2 < 2 ^ f := by rw [Nat.pow_succ] at h; omega
   have ha := (tmod_lt (m := 1019) (Int.mul_nonneg h3 h3) (by decide)).1
   have e0 : n.beq 0 = false := by cases n with | zero => exact absurd rfl h0 | succ n => rfl
   by_cases ho : n % 2 = 1
   ·rw [pmL_odd ho, pmL_c f _ _ _ hn (tmod_lt (Int.mul_nonneg h1 h3) (by decide)).1 ha, c_mod (Int.mul_nonneg h1 h3), c_mod (Int.mul_nonneg h3 h3), c_mul h1 h3, c_mul h3 h3]
    simp only [pwB, e0, ho, cond_false]
    show _ = c out * (c a * _)
    grind
   ·have ho' : n % 2 = 0 := by omega
    rw [pmL_even h0 ho', pmL_c f _ _ _ hn h1 ha, c_mod (Int.mul_nonneg h3 h3), c_mul h3 h3]
    simp only [pwB, e0, ho', cond_false]
    show _ = c out * (1 * _)
    grind
theorem fermat : ∀ x : F, x ≠ 0 → x * pwB 10 x 1017 = 1 := by decide +kernel
def invS (x : Int) : Int := pmL 1019 1 x 1017
theorem invS_ok {x : Int} (h : El x) (h0 : x ≠ 0) : El (invS x) ∧ c x * c (invS x) = 1 := by
 have hb := pmL_bd (m := 1019) (by decide) 10 1017 1 x (by decide) (by decide) (by decide) h.1
 refine ⟨⟨hb.1, by unfold invS; omega⟩, ?_⟩
 unfold invS
 rw [pmL_c 10 1017 1 x (by decide) (by decide) h.1, c_one]
 have := fermat (c x) (fun e => h0 ((c_ne h).1 e))
 grind
def redStep (out r : List Int) : List Int := if out.getD (leadS r).toNat 0 ≠ 0 then addS out r (1019 - out.getD (leadS r).toNat 0) else out
def redS (rows : List (List Int)) (v : List Int) : List Int := rows.foldl redStep v
def elimS (w : List Int) (l : Nat) (r : List Int) : List Int := if r.getD l 0 ≠ 0 then addS r w (1019 - r.getD l 0) else r
def atTo (rows : List (List Int)) (l : Int) : Nat → Nat
 | 0 => 0
 | i + 1 => if leadS (rows.getD i []) < l then i + 1 else atTo rows l i
def insW (rows : List (List Int)) (v : List Int) : List Int := scaleS (redS rows v) (invS ((redS rows v).getD (leadS (redS rows v)).toNat 0))
def insE (rows : List (List Int)) (v : List Int) : List (List Int) := rows.map (elimS (insW rows v) (leadS (redS rows v)).toNat)
def insS (rows : List (List Int)) (v : List Int) : List (List Int) × Bool := if leadS (redS rows v) < 0 then (rows, false) else
 ((insE rows v).take (atTo (insE rows v) (leadS (redS rows v)) rows.length) ++ [insW rows v] ++ (insE rows v).drop (atTo (insE rows v) (leadS (redS rows v)) rows.length), true)
def pv (rows : List (List Int)) (i : Nat) : Nat := (leadS (rows.getD i [])).toNat
structure RedL (n : Nat) (rows : List (List Int)) : Prop where
 ok : ∀ r ∈ rows, VokB n r
 nz : ∀ r ∈ rows, 0 ≤ leadS r
 red : Red (rows.map vec) (pv rows)
theorem RedL.nil (n : Nat) : RedL n [] := ⟨by simp, by simp, ⟨by simp, by simp, by simp, by simp⟩⟩
theorem row_vec {rows : List (List Int)} {i : Nat} (hi : i < rows.length) : row (rows.map vec) i = vec (rows.getD i []) := by
 unfold row
 rw [List.getD_eq_getElem?_getD, List.getElem?_map, List.getElem?_eq_getElem hi, List.getD_eq_getElem?_getD, List.getElem?_eq_getElem hi]; rfl
theorem getD_in {rows : List (List Int)} {i : Nat} (hi : i < rows.length) : rows.getD i [] ∈ rows := by
 rw [List.getD_eq_getElem?_getD, List.getElem?_eq_getElem hi]; exact List.getElem_mem hi
theorem redStep_ok {n : Nat} {out r : List Int} (ho : VokB n out) (hr : VokB n r) : VokB n (redStep out r) ∧ vec (redStep out r) = vadd (vec out) (-(vec out (leadS r).toNat)) (vec r) := by
 unfold redStep
 have hx := ho.at_ (leadS r).toNat
 split
 ·rename_i h
  have hk : El (1019 - out.getD (leadS r).toNat 0) := by unfold El at hx ⊢; omega
  obtain ⟨h1, h2⟩ := addS_ok ho hr hk
  exact ⟨h1, by rw [h2, c_neg hx]; rfl⟩
 ·rename_i h
  refine ⟨ho, ?_⟩
  have : out.getD (leadS r).toNat 0 = 0 := by omega
  funext j
  simp only [vadd]
  have e : vec out (leadS r).toNat = 0 := by unfold vec; rw [this]; rfl
  rw [e]; grind
theorem redS_ok {n : Nat} {rows : List (List Int)} {v : List Int} (h : ∀ r ∈ rows, VokB n r) (hv : VokB n v) : VokB n (redS rows v) ∧ vec (redS rows v) = rem (rows.map vec) (pv rows) (vec v) := by
 have key : ∀ i, i ≤ rows.length → VokB n ((rows.take i).foldl redStep v) ∧ vec ((rows.take i).foldl redStep v) = redTo (rows.map vec) (pv rows) (vec v) i := by
  intro i
  induction i with
  | zero => intro _; exact ⟨by simpa using hv, by simp [redTo]⟩
  | succ i ih =>
   intro hi
   obtain ⟨h1, h2⟩ := ih (by omega)
   have e : rows.take (i + 1) = rows.take i ++ [rows.getD i []] := by
    rw [List.take_succ_eq_append_getElem (by omega), List.getD_eq_getElem?_getD, List.getElem?_eq_getElem (by omega)]; rfl
   rw [e, List.foldl_append]
   obtain ⟨h3, h4⟩ := redStep_ok h1 (h _ (getD_in (i := i) (by omega)))
   refine ⟨h3, ?_⟩
   show vec (redStep _ _) = _
   rw [h4, h2]
   simp only [redTo]
   rw [row_vec (by omega)]; rfl
 have := key rows.length (Nat.le_refl _)
 rw [List.take_length] at this
 refine ⟨this.1, ?_⟩
 unfold redS rem
 rw [this.2, List.length_map]
theorem elimS_ok {n : Nat} {w r : List Int} {l : Nat} (hw : VokB n w) (hr : VokB n r) : VokB n (elimS w l r) ∧ vec (elimS w l r) = vadd (vec r) (-(vec r l)) (vec w) := by
 unfold elimS
 have hx := hr.at_ l
 split
 ·have hk : El (1019 - r.getD l 0) := by unfold El at hx ⊢; omega
  obtain ⟨h1, h2⟩ := addS_ok hr hw hk
  exact ⟨h1, by rw [h2, c_neg hx]; rfl⟩
 ·rename_i h
  refine ⟨hr, ?_⟩
  have : r.getD l 0 = 0 := by omega
  funext j
  simp only [vadd]
  have e : vec r l = 0 := by unfold vec; rw [this]; rfl
  rw [e]; grind
theorem atTo_spec {rows : List (List Int)} {p : Nat → Nat} {l : Nat} (hinc : ∀ i j, i < j → j < rows.length → p i < p j) (hl : ∀ i, i < rows.length → leadS (rows.getD i []) = p i) (hne : ∀ i, i < rows.length → p i ≠ l) :
  ∀ n, n ≤ rows.length → atTo rows l n ≤ n ∧ (∀ k, k < atTo rows l n → p k < l) ∧ ∀ k, atTo rows l n ≤ k → k < n → l < p k
 | 0, _ => ⟨Nat.le_refl _, fun k h => absurd h (by simp [atTo]), fun k _ h => absurd h (by omega)⟩
 | n + 1, hn => by
  obtain ⟨h1, h2, h3⟩ := atTo_spec hinc hl hne n (by omega)
  simp only [atTo]
  rw [hl n (by omega)]
  split
  ·rename_i hlt
   refine ⟨Nat.le_refl _, fun k hk => ?_, fun k h4 h5 => absurd h5 (by omega)⟩
   by_cases e : k = n
   ·rw [e]; omega
   ·have := hinc k n (by omega) (by omega); omega
  ·rename_i hlt
   refine ⟨by omega, h2, fun k h4 h5 => ?_⟩
   by_cases e : k = n
   ·rw [e]; have := hne n (by omega); omega
   ·exact h3 k h4 (by omega)
theorem insS_ok {n : Nat} {rows : List (List Int)} {v : List Int} (h : RedL n rows) (hv : VokB n v) :
  RedL n (insS rows v).1 ∧ ((insS rows v).2 = false ↔ Span (rows.map vec) (vec v)) ∧ (∀ x, Span ((insS rows v).1.map vec) x ↔ Span (rows.map vec ++ [vec v]) x) ∧ ((insS rows v).2 = true → (insS rows v).1.length = rows.length + 1) ∧ ((insS rows v).2 = false → (insS rows v).1 = rows) := by
 obtain ⟨hr1, hr2⟩ := redS_ok h.ok hv
 have hz := rem_zero_iff h.red (vec v)
 unfold insS
 by_cases hn : leadS (redS rows v) < 0
 ·rw [if_pos hn]
  have hs : Span (rows.map vec) (vec v) := hz.1 (by rw [← hr2]; exact leadS_zero hn)
  refine ⟨h, ⟨fun _ => hs, fun _ => rfl⟩, fun x => ⟨?_, ?_⟩, fun h => (by cases h), fun _ => rfl⟩
  ·exact Span.of_mem fun r hr => Span.mem (by simp [List.mem_append.2 (.inl hr)])
  ·refine Span.of_mem fun r hr => ?_
   rcases List.mem_append.1 hr with hr | hr
   ·exact Span.mem hr
   ·rw [List.mem_singleton] at hr; rw [hr]; exact hs
 ·rw [if_neg hn]
  generalize hL : (leadS (redS rows v)).toNat = l
  have hlead := leadS_lead hr1 (by omega : 0 ≤ leadS (redS rows v))
  rw [hL] at hlead
  have hlv : leadS (redS rows v) = l := by omega
  have hx := hr1.at_ l
  have hx0 : (redS rows v).getD l 0 ≠ 0 := fun e => hlead.1 (by unfold vec; rw [e]; rfl)
  obtain ⟨hi1, hi2⟩ := invS_ok hx hx0
  obtain ⟨hw1, hw2⟩ := scaleS_ok hr1 hi1
  have hW : insW rows v = scaleS (redS rows v) (invS ((redS rows v).getD l 0)) := by unfold insW; rw [hL]
  have hE : insE rows v = rows.map (elimS (insW rows v) l) := by unfold insE; rw [hL]
  rw [← hW] at hw1 hw2
  have hwl : vec (insW rows v) l = 1 := by
   rw [hw2]; simp only [vscale]
   have : vec (redS rows v) l = c ((redS rows v).getD l 0) := rfl
   rw [this]; grind
  have hw0 : ∀ j, j < l → vec (insW rows v) j = 0 := fun j hj => by
   rw [hw2]; simp only [vscale]; rw [hlead.2 j hj]; grind
  have hwp : ∀ k, k < (rows.map vec).length → vec (insW rows v) (pv rows k) = 0 := fun k hk => by
   rw [hw2]; simp only [vscale]; rw [hr2, rem_piv h.red _ hk]; grind
  have hpn : ∀ k, k < (rows.map vec).length → pv rows k ≠ l := fun k hk e => by
   have := hwp k hk
   rw [e, hwl] at this; exact one_ne this
  have helim : ∀ r ∈ rows, VokB n (elimS (insW rows v) l r) ∧ vec (elimS (insW rows v) l r) = vadd (vec r) (-(vec r l)) (vec (insW rows v)) := fun r hr => elimS_ok hw1 (h.ok r hr)
  have hEl : (insE rows v).length = rows.length := by rw [hE]; simp
  have hEi : ∀ i, i < rows.length → (insE rows v).getD i [] = elimS (insW rows v) l (rows.getD i []) := fun i hi => by
   rw [hE, List.getD_eq_getElem?_getD, List.getElem?_map, List.getElem?_eq_getElem hi, List.getD_eq_getElem?_getD, List.getElem?_eq_getElem hi]; rfl
  -- the leading indices stay
  have hElead : ∀ i, i < rows.length → leadS ((insE rows v).getD i []) = pv rows i := fun i hi => by
   rw [hEi i hi]
   obtain ⟨e1, e2⟩ := helim _ (getD_in hi)
   refine leadS_of e1 ?_
   rw [e2, ← row_vec hi]
   have hi' : i < (rows.map vec).length := by simpa using hi
   refine ⟨?_, fun j hj => ?_⟩
   ·simp only [vadd]
    rw [h.red.one i hi', hwp i hi']
    have : (1 : F) + -(row (rows.map vec) i l) * 0 = 1 := by grind
    rw [this]; exact one_ne
   ·simp only [vadd]
    rw [h.red.zero i hi' j hj]
    by_cases hp : pv rows i < l
    ·rw [hw0 j (by omega)]; grind
    ·have := hpn i hi'
     rw [h.red.zero i hi' l (by omega)]; grind
  have hinc : ∀ i j, i < j → j < (insE rows v).length → pv rows i < pv rows j := fun i j hij hj => h.red.inc i j hij (by rw [List.length_map]; omega)
  have hat := atTo_spec (rows := insE rows v) (p := pv rows) (l := l) hinc (fun i hi => hElead i (by omega)) (fun i hi => hpn i (by rw [List.length_map]; omega)) rows.length (by omega)
  rw [hlv]
  generalize hA : atTo (insE rows v) l rows.length = a at *
  obtain ⟨ha, hlo, hhi⟩ := hat
  have hmap : ((insE rows v).take a ++ [insW rows v] ++ (insE rows v).drop a).map vec = insRow (rows.map vec) (vec (insW rows v)) l a := by
   unfold insRow
   rw [hE]
   simp only [List.map_append, List.map_cons, List.map_nil, ← List.map_take, ← List.map_drop, List.map_map, List.append_assoc, List.singleton_append, List.cons_append, List.nil_append]
   congr 1
   ·apply List.map_congr_left
    intro r hr
    exact (helim r (List.mem_of_mem_take hr)).2
   ·congr 1
    apply List.map_congr_left
    intro r hr
    exact (helim r (List.mem_of_mem_drop hr)).2
  have hred := insRow_red h.red (w := vec (insW rows v)) (l := l) (a := a) (by rw [List.length_map]; exact ha) hwl hw0 hwp hlo (fun k h1 h2 => hhi k h1 (by simpa using h2))
  have hspan := fun x => insRow_span (m := rows.map vec) (w := vec (insW rows v)) (l := l) (a := a) (by rw [List.length_map]; exact ha) x
  have hlen : ((insE rows v).take a ++ [insW rows v] ++ (insE rows v).drop a).length = rows.length + 1 := by
   rw [List.length_append, List.length_append, List.length_take, List.length_drop, hEl]; simp; omega
  have hall : ∀ r ∈ (insE rows v).take a ++ [insW rows v] ++ (insE rows v).drop a, VokB n r ∧ 0 ≤ leadS r := by
   have hin : ∀ r ∈ insE rows v, VokB n r ∧ 0 ≤ leadS r := fun r hr => by
    obtain ⟨i, hi, rfl⟩ := List.getElem_of_mem hr
    have e := hElead i (by omega)
    have e2 := hEi i (by omega)
    rw [List.getD_eq_getElem?_getD, List.getElem?_eq_getElem hi] at e e2
    simp only [Option.getD_some] at e e2
    exact ⟨by rw [e2]; exact (helim _ (getD_in (by omega))).1, by omega⟩
   intro r hr
   rcases List.mem_append.1 hr with hr | hr
   ·rcases List.mem_append.1 hr with hr | hr
    ·exact hin r (List.mem_of_mem_take hr)
    ·rw [List.mem_singleton] at hr
     rw [hr]
     refine ⟨hw1, ?_⟩
     have := leadS_of hw1 (l := l) ⟨by rw [hwl]; exact one_ne, hw0⟩
     omega
   ·exact hin r (List.mem_of_mem_drop hr)
  refine ⟨⟨fun r hr => (hall r hr).1, fun r hr => (hall r hr).2, ?_⟩, ⟨fun h => (by cases h), fun hs => ?_⟩, fun x => ?_, fun _ => hlen, fun h => (by cases h)⟩
  ·show Red (List.map vec _) _
   rw [hmap]
   have e : ∀ i, i < rows.length + 1 → pv ((insE rows v).take a ++ [insW rows v] ++ (insE rows v).drop a) i = insPiv (pv rows) l a i := fun i hi => by
    have hil : i < (insRow (rows.map vec) (vec (insW rows v)) l a).length := by rw [← hmap, List.length_map, hlen]; exact hi
    have h1 := hred.lead hil
    rw [← hmap, row_vec (by omega)] at h1
    have h2 := leadS_of (hall _ (getD_in (by omega))).1 h1
    show (leadS _).toNat = _
    rw [h2]; rfl
   have hl2 : (insRow (rows.map vec) (vec (insW rows v)) l a).length = rows.length + 1 := by rw [← hmap, List.length_map, hlen]
   exact ⟨fun i j hij hj => by rw [e i (by omega), e j (by omega)]; exact hred.inc i j hij hj, fun i hi => by rw [e i (by omega)]; exact hred.one i hi, fun i hi j hj => by rw [e i (by omega)] at hj; exact hred.zero i hi j hj,
    fun i k hi hk hne => by rw [e k (by omega)]; exact hred.clear i k hi hk hne⟩
  ·exfalso
   have := hz.2 hs
   rw [← hr2] at this
   exact hlead.1 (congrFun this l)
  ·show Span (List.map vec _) x ↔ _
   rw [hmap, hspan x, hw2, hr2]
   exact span_swap (k' := c ((redS rows v).getD l 0)) (by grind) x
theorem RedL.uniq {n : Nat} {a b : List (List Int)} (ha : RedL n a) (hb : RedL n b) (h : ∀ x, Span (a.map vec) x ↔ Span (b.map vec) x) : a = b := by
 have e := ha.red.uniq hb.red (fun v => (h v).1) (fun v => (h v).2)
 have hl : a.length = b.length := by have := congrArg List.length e; simpa using this
 apply List.ext_getElem hl
 intro i h1 h2
 refine vec_inj (ha.ok _ (List.getElem_mem h1)) (hb.ok _ (List.getElem_mem h2)) ?_
 have := congrArg (fun l : List V => row l i) e
 rw [row_vec h1, row_vec h2, List.getD_eq_getElem?_getD, List.getD_eq_getElem?_getD, List.getElem?_eq_getElem h1, List.getElem?_eq_getElem h2] at this
 exact this
def ent (rows : List (List Int)) (i k : Nat) : Int := (rows.getD i []).getD k 0
def fnd (rows : List (List Int)) (k : Nat) : Nat → Nat → Nat
 | 0, p => p
 | f + 1, p => if p < rows.length ∧ ent rows p k = 0 then fnd rows k f (p + 1) else p
theorem fnd_spec {rows : List (List Int)} {k : Nat} : ∀ (f p : Nat), rows.length ≤ p + f → p ≤ rows.length → p ≤ fnd rows k f p ∧ fnd rows k f p ≤ rows.length ∧ (∀ i, p ≤ i → i < fnd rows k f p → ent rows i k = 0) ∧ (fnd rows k f p < rows.length → ent rows (fnd rows k f p) k ≠ 0)
 | 0, p, h, hp => by simp only [fnd]; exact ⟨Nat.le_refl _, hp, fun i h1 h2 => absurd h2 (by omega), fun h => by omega⟩
 | f + 1, p, h, hp => by
  simp only [fnd]
  split
  ·rename_i hc
   obtain ⟨h1, h2, h3, h4⟩ := fnd_spec (rows := rows) (k := k) f (p + 1) (by omega) (by omega)
   exact ⟨by omega, h2, fun i h5 h6 => by
    by_cases e : i = p
    ·rw [e]; exact hc.2
    ·exact h3 i (by omega) h6, h4⟩
  ·rename_i hc
   refine ⟨Nat.le_refl _, hp, fun i h1 h2 => absurd h2 (by omega), fun hl e => hc ⟨hl, e⟩⟩
theorem fnd_uniq {rows : List (List Int)} {k p q : Nat} (hpl : p ≤ rows.length) (h1 : p ≤ q) (h2 : q ≤ rows.length) (h3 : ∀ i, p ≤ i → i < q → ent rows i k = 0) (h4 : q < rows.length → ent rows q k ≠ 0) : fnd rows k rows.length p = q := by
 obtain ⟨a1, a2, a3, a4⟩ := fnd_spec (rows := rows) (k := k) rows.length p (by omega) hpl
 rcases Nat.lt_trichotomy (fnd rows k rows.length p) q with h | h | h
 ·exact absurd (h3 _ a1 h) (a4 (by omega))
 ·exact h
 ·exact absurd (a3 q h1 h) (h4 (by omega))
def gjLead (rows : List (List Int)) (b k : Nat) : List Int := scaleS (rows.getD b []) (invS (ent rows b k))
def gjMap (rows : List (List Int)) (a b k : Nat) : List (List Int) := (List.range rows.length).map fun i => if i = a then gjLead rows b k else elimS (gjLead rows b k) k (if i = b then rows.getD a [] else rows.getD i [])
def gjStep (s : List (List Int) × Nat) (k : Nat) : List (List Int) × Nat := if fnd s.1 k s.1.length s.2 = s.1.length then s else (gjMap s.1 s.2 (fnd s.1 k s.1.length s.2) k, s.2 + 1)
def gjAt (m : List (List Int)) : Nat → List (List Int) × Nat
 | 0 => (m, 0)
 | k + 1 => if (gjAt m k).2 < (gjAt m k).1.length then gjStep (gjAt m k) k else gjAt m k
def gjS (m : List (List Int)) (n : Nat) : List (List Int) := (gjAt m n).1.take (gjAt m n).2
theorem gjMap_len (rows : List (List Int)) (a b k : Nat) : (gjMap rows a b k).length = rows.length := by simp [gjMap]
theorem vec_ent {rows : List (List Int)} {i k : Nat} : vec (rows.getD i []) k = c (ent rows i k) := rfl
theorem gj_inv {n : Nat} {m : List (List Int)} (hm : ∀ r ∈ m, VokB n r) : ∀ k, (∀ r ∈ (gjAt m k).1, VokB n r) ∧ (gjAt m k).1.length = m.length ∧ ((gjAt m k).2 < (gjAt m k).1.length → ∃ p, Gj (m.map vec) ((gjAt m k).1.map vec) p k (gjAt m k).2) ∧ ∃ p k', Gj (m.map vec) ((gjAt m k).1.map vec) p k' (gjAt m k).2
 | 0 => ⟨hm, rfl, fun _ => ⟨_, Gj.start _⟩, ⟨_, _, Gj.start _⟩⟩
 | k + 1 => by
  obtain ⟨h1, h2, h3, h4⟩ := gj_inv hm k
  simp only [gjAt]
  by_cases hlt : (gjAt m k).2 < (gjAt m k).1.length
  ·rw [if_pos hlt]
   obtain ⟨p, hp⟩ := h3 hlt
   generalize gjAt m k = s at *
   obtain ⟨rows, a⟩ := s
   simp only at *
   obtain ⟨f1, f2, f3, f4⟩ := fnd_spec (rows := rows) (k := k) rows.length a (by omega) (by omega)
   unfold gjStep
   simp only
   generalize fnd rows k rows.length a = b at *
   by_cases hb : b = rows.length
   ·rw [if_pos hb]
    have hs := hp.skip (fun r h5 h6 => by
     have h6' : r < rows.length := by simpa using h6
     rw [row_vec h6', vec_ent, f3 r h5 (by omega)]; rfl)
    exact ⟨h1, h2, fun _ => ⟨p, hs⟩, ⟨p, _, hs⟩⟩
   ·rw [if_neg hb]
    have hbl : b < rows.length := by omega
    have hbok := h1 _ (getD_in hbl)
    have hex : El (ent rows b k) := hbok.at_ k
    obtain ⟨i1, i2⟩ := invS_ok hex (f4 hbl)
    obtain ⟨w1, w2⟩ := scaleS_ok hbok i1
    have hmap : (gjMap rows a b k).map vec = gjRows (rows.map vec) a b k (c (invS (ent rows b k))) := by
     unfold gjMap gjRows
     rw [List.map_map, List.length_map]
     apply List.map_congr_left
     intro i hi
     have hi' : i < rows.length := List.mem_range.1 hi
     simp only [Function.comp]
     by_cases e : i = a
     ·rw [if_pos e, if_pos e, row_vec hbl]; exact w2
     ·rw [if_neg e, if_neg e]
      have hsw : VokB n (if i = b then rows.getD a [] else rows.getD i []) ∧ vec (if i = b then rows.getD a [] else rows.getD i []) = (if i = b then row (rows.map vec) a else row (rows.map vec) i) := by
       by_cases e2 : i = b
       ·rw [if_pos e2, if_pos e2, row_vec hlt]; exact ⟨h1 _ (getD_in hlt), rfl⟩
       ·rw [if_neg e2, if_neg e2, row_vec hi']; exact ⟨h1 _ (getD_in hi'), rfl⟩
      have := elimS_ok (l := k) w1 hsw.1
      rw [hsw.2] at this
      rw [row_vec hbl, ← w2]
      exact this.2
    have hst := hp.step f1 (by rw [List.length_map]; exact hbl) (inv := c (invS (ent rows b k))) (by rw [row_vec hbl, vec_ent]; exact i2)
    rw [← hmap] at hst
    refine ⟨fun r hr => ?_, by rw [gjMap_len]; exact h2, fun _ => ⟨_, hst⟩, ⟨_, _, hst⟩⟩
    unfold gjMap at hr
    obtain ⟨i, hi, rfl⟩ := List.mem_map.1 hr
    have hi' : i < rows.length := List.mem_range.1 hi
    split
    ·exact w1
    ·refine (elimS_ok (l := k) w1 ?_).1
     split
     ·exact h1 _ (getD_in hlt)
     ·exact h1 _ (getD_in hi')
  ·rw [if_neg hlt]
   exact ⟨h1, h2, fun h => absurd h hlt, h4⟩
theorem gjS_ok {n : Nat} {m : List (List Int)} (hm : ∀ r ∈ m, VokB n r) : RedL n (gjS m n) ∧ ∀ x, Span ((gjS m n).map vec) x ↔ Span (m.map vec) x := by
 obtain ⟨h1, h2, h3, h4⟩ := gj_inv hm n
 unfold gjS
 have key : ∃ p, Red (((gjAt m n).1.map vec).take (gjAt m n).2) p ∧ ∀ v, Span (((gjAt m n).1.map vec).take (gjAt m n).2) v ↔ Span (m.map vec) v := by
  by_cases hlt : (gjAt m n).2 < (gjAt m n).1.length
  ·obtain ⟨p, hp⟩ := h3 hlt
   exact ⟨p, hp.done (.inr ⟨Nat.le_refl n, fun r hr j hj => by
    have hr' : r < (gjAt m n).1.length := by simpa using hr
    rw [row_vec hr']
    exact vec_out (by rw [(h1 _ (getD_in hr')).1]; exact hj)⟩)⟩
  ·obtain ⟨p, k', hp⟩ := h4
   have := hp.le
   rw [List.length_map] at this
   exact ⟨p, hp.done (n := n) (.inl (by rw [List.length_map]; omega))⟩
 obtain ⟨p, hr, hs⟩ := key
 rw [← List.map_take] at hr hs
 generalize hR : (gjAt m n).1.take (gjAt m n).2 = R at *
 have hok : ∀ r ∈ R, VokB n r := fun r hr => by rw [← hR] at hr; exact h1 r (List.mem_of_mem_take hr)
 have hlead : ∀ i, i < R.length → leadS (R.getD i []) = p i := fun i hi => by
  have := hr.lead (i := i) (by simpa using hi)
  rw [row_vec hi] at this
  exact leadS_of (hok _ (getD_in hi)) this
 have hpv : ∀ i, i < R.length → pv R i = p i := fun i hi => by
  show (leadS _).toNat = _; rw [hlead i hi]; rfl
 have hl : (R.map vec).length = R.length := by simp
 exact ⟨⟨hok, fun r hr => by
  obtain ⟨i, hi, rfl⟩ := List.getElem_of_mem hr
  have := hlead i hi
  rw [List.getD_eq_getElem?_getD, List.getElem?_eq_getElem hi] at this
  simp only [Option.getD_some] at this
  omega, ⟨fun i j hij hj => by rw [hpv i (by omega), hpv j (by omega)]; exact hr.inc i j hij hj, fun i hi => by rw [hpv i (by omega)]; exact hr.one i hi, fun i hi j hj => by rw [hpv i (by omega)] at hj; exact hr.zero i hi j hj,
   fun i k hi hk hne => by rw [hpv k (by omega)]; exact hr.clear i k hi hk hne⟩⟩, hs⟩
theorem gjS_red {n : Nat} {m : List (List Int)} (h : RedL n m) : gjS m n = m := (gjS_ok h.ok).1.uniq h (gjS_ok h.ok).2
theorem insS_gj {n : Nat} {rows : List (List Int)} {v : List Int} (h : RedL n rows) (hv : VokB n v) : gjS (rows ++ [v]) n = (insS rows v).1 := by
 obtain ⟨a1, a2, a3, _⟩ := insS_ok h hv
 obtain ⟨b1, b2⟩ := gjS_ok (n := n) (m := rows ++ [v]) (fun r hr => by
  rcases List.mem_append.1 hr with hr | hr
  ·exact h.ok r hr
  ·rw [List.mem_singleton] at hr; rw [hr]; exact hv)
 refine b1.uniq a1 fun x => ?_
 rw [b2, a3, List.map_append]; rfl
def insTo (vs : List (List Int)) : Nat → List (List Int)
 | 0 => []
 | i + 1 => (insS (insTo vs i) (vs.getD i [])).1
def insOk (vs : List (List Int)) (i : Nat) : Bool := (insS (insTo vs i) (vs.getD i [])).2
theorem insTo_ok {n : Nat} {vs : List (List Int)} (h : ∀ v ∈ vs, VokB n v) : ∀ i, i ≤ vs.length → RedL n (insTo vs i) ∧ ∀ x, Span ((insTo vs i).map vec) x ↔ Span ((vs.take i).map vec) x
 | 0, _ => ⟨RedL.nil n, fun x => by simp [insTo]⟩
 | i + 1, hi => by
  obtain ⟨h1, h2⟩ := insTo_ok h i (by omega)
  obtain ⟨a1, _, a3, _⟩ := insS_ok h1 (h _ (getD_in (i := i) (by omega)))
  refine ⟨a1, fun x => ?_⟩
  simp only [insTo]
  rw [a3]
  have e : vs.take (i + 1) = vs.take i ++ [vs.getD i []] := by
   rw [List.take_succ_eq_append_getElem (by omega), List.getD_eq_getElem?_getD, List.getElem?_eq_getElem (by omega)]; rfl
  rw [e, List.map_append]
  constructor
  ·refine Span.of_mem fun r hr => ?_
   rcases List.mem_append.1 hr with hr | hr
   ·have := (h2 r).1 (Span.mem hr)
    exact Span.of_mem (fun q hq => Span.mem (List.mem_append.2 (.inl hq))) this
   ·exact Span.mem (List.mem_append.2 (.inr hr))
  ·refine Span.of_mem fun r hr => ?_
   rcases List.mem_append.1 hr with hr | hr
   ·have := (h2 r).2 (Span.mem hr)
    exact Span.of_mem (fun q hq => Span.mem (List.mem_append.2 (.inl hq))) this
   ·exact Span.mem (List.mem_append.2 (.inr hr))
theorem insTo_gj {n : Nat} {vs : List (List Int)} (h : ∀ v ∈ vs, VokB n v) {i : Nat} (hi : i ≤ vs.length) : insTo vs i = gjS (vs.take i) n := by
 obtain ⟨h1, h2⟩ := insTo_ok h i hi
 obtain ⟨g1, g2⟩ := gjS_ok (n := n) (m := vs.take i) (fun r hr => h r (List.mem_of_mem_take hr))
 exact h1.uniq g1 fun x => by rw [h2, g2]
theorem insTo_len {n : Nat} {vs : List (List Int)} (h : ∀ v ∈ vs, VokB n v) : ∀ i, i ≤ vs.length → (insTo vs i).length ≤ i ∧ ((insTo vs i).length = i ↔ ∀ j, j < i → insOk vs j = true)
 | 0, _ => ⟨by simp [insTo], by simp [insTo]⟩
 | i + 1, hi => by
  obtain ⟨h1, h2⟩ := insTo_len h i (by omega)
  obtain ⟨_, _, _, a4, a5⟩ := insS_ok (insTo_ok h i (by omega)).1 (h _ (getD_in (i := i) (by omega)))
  simp only [insTo]
  cases ho : insOk vs i with
  | true =>
   rw [a4 ho]
   refine ⟨by omega, fun e j hj => ?_, fun e => ?_⟩
   ·by_cases e2 : j = i
    ·rw [e2]; exact ho
    ·exact h2.1 (by omega) j (by omega)
   ·rw [h2.2 fun j hj => e j (by omega)]
  | false =>
   rw [a5 ho]
   refine ⟨by omega, fun e => by omega, fun e => ?_⟩
   rw [e i (by omega)] at ho; cases ho
theorem rank_full {n : Nat} {vs : List (List Int)} (h : ∀ v ∈ vs, VokB n v) : (gjS vs n).length = vs.length ↔ ∀ j, j < vs.length → insOk vs j = true := by
 have h1 := insTo_gj h (Nat.le_refl _)
 rw [List.take_length] at h1
 rw [← h1]; exact (insTo_len h _ (Nat.le_refl _)).2
def redAt (m : List (List Int)) (i : Nat) : Prop := (if i = 0 then -1 else leadS (m.getD (i - 1) [])) < leadS (m.getD i []) ∧ (m.getD i []).getD (leadS (m.getD i [])).toNat 0 = 1 ∧ ∀ k, k < m.length → k ≠ i → (m.getD k []).getD (leadS (m.getD i [])).toNat 0 = 0
theorem redAt_iff {n : Nat} {m : List (List Int)} (hm : ∀ r ∈ m, VokB n r) : (∀ i, i < m.length → redAt m i) ↔ RedL n m := by
 constructor
 ·intro h
  have hnz : ∀ i, i < m.length → 0 ≤ leadS (m.getD i []) := by
   intro i
   induction i with
   | zero => intro hi; have := (h 0 hi).1; rw [if_pos rfl] at this; omega
   | succ i ih => intro hi; have := (h (i + 1) hi).1; rw [if_neg (by omega)] at this; have := ih (by omega); simp only [Nat.add_sub_cancel] at *; omega
  have hinc : ∀ i j, i < j → j < m.length → leadS (m.getD i []) < leadS (m.getD j []) := by
   intro i j hij hj
   obtain ⟨d, rfl⟩ : ∃ d, j = i + 1 + d := ⟨j - i - 1, by omega⟩
   induction d with
   | zero => have := (h (i + 1) hj).1; rw [if_neg (by omega)] at this; simpa using this
   | succ d ih =>
    have h1 := ih (by omega) (by omega)
    have h2 := (h (i + 1 + (d + 1)) hj).1
    rw [if_neg (by omega), show i + 1 + (d + 1) - 1 = i + 1 + d by omega] at h2
    omega
  refine ⟨hm, fun r hr => ?_, fun i j hij hj => ?_, fun i hi => ?_, fun i hi j hj => ?_, fun i k hi hk hne => ?_⟩
  ·obtain ⟨i, hi, rfl⟩ := List.getElem_of_mem hr
   have := hnz i hi
   rw [List.getD_eq_getElem?_getD, List.getElem?_eq_getElem hi] at this
   exact this
  ·rw [List.length_map] at hj
   have := hinc i j hij hj; have := hnz i (by omega)
   unfold pv; omega
  ·rw [List.length_map] at hi
   rw [row_vec hi]
   unfold vec pv
   rw [(h i hi).2.1]; rfl
  ·rw [List.length_map] at hi
   rw [row_vec hi]
   unfold vec
   rw [(leadS_pos (hnz i hi)).2 j hj]; rfl
  ·rw [List.length_map] at hi hk
   rw [row_vec hi]
   unfold vec pv
   rw [(h k hk).2.2 i hi hne]; rfl
 ·intro h i hi
  have hl : (m.map vec).length = m.length := by simp
  have hp : ∀ i, i < m.length → leadS (m.getD i []) = (pv m i : Int) := fun i hi => by
   have := h.nz _ (getD_in hi)
   unfold pv; omega
  refine ⟨?_, ?_, fun k hk hne => ?_⟩
  ·by_cases e : i = 0
   ·rw [if_pos e]; have := h.nz _ (getD_in hi); omega
   ·rw [if_neg e, hp i hi, hp (i - 1) (by omega)]
    have := h.red.inc (i - 1) i (by omega) (by omega); omega
  ·have := h.red.one i (by omega)
   rw [row_vec hi] at this
   exact c_inj ((h.ok _ (getD_in hi)).at_ _) (by unfold El; omega) (this.trans c_one.symm)
  ·have := h.red.clear k i (by omega) (by omega) hne
   rw [row_vec hk] at this
   exact (c_ne ((h.ok _ (getD_in hk)).at_ _)).1 this
theorem gjS_iff {n : Nat} {m : List (List Int)} (hm : ∀ r ∈ m, VokB n r) : gjS m n = m ↔ RedL n m := ⟨fun h => by rw [← h]; exact (gjS_ok hm).1, gjS_red⟩
theorem RedL.len {n : Nat} {rows : List (List Int)} (h : RedL n rows) : rows.length ≤ n := by
 have hp : ∀ i, i < rows.length → i ≤ pv rows i := by
  intro i
  induction i with
  | zero => intro _; exact Nat.zero_le _
  | succ i ih => intro hi; have := ih (by omega); have := h.red.inc i (i + 1) (by omega) (by simpa using hi); omega
 rcases Nat.eq_zero_or_pos rows.length with h0 | h0
 ·omega
 ·have h1 := hp (rows.length - 1) (by omega)
  have hm := getD_in (show rows.length - 1 < rows.length by omega)
  have h2 := h.nz _ hm
  have h3 := leadS_bd (rows.getD (rows.length - 1) [])
  have h4 := (h.ok _ hm).1
  unfold pv at h1
  omega
theorem VokB.rng {n : Nat} {v : List Int} (h : VokB n v) (j : Nat) : 0 ≤ v.getD j 0 ∧ v.getD j 0 ≤ 1018 := h.at_ j
theorem RedL.at_ {n : Nat} {rows : List (List Int)} (h : RedL n rows) {i : Nat} (hi : i < rows.length) : VokB n (rows.getD i []) ∧ 0 ≤ leadS (rows.getD i []) ∧ leadS (rows.getD i []) < (n : Int) := by
 have hm := getD_in hi
 have h2 := h.nz _ hm
 have h3 := leadS_bd (rows.getD i [])
 have h4 := h.ok _ hm
 exact ⟨h4, h2, by have := h4.1; omega⟩
theorem foldl_take {α β : Type} (f : β → α → β) (b : β) (z : α) (xs : List α) (i : Nat) (h : i < xs.length) : (xs.take (i + 1)).foldl f b = f ((xs.take i).foldl f b) (xs.getD i z) := by
 rw [List.take_succ_eq_append_getElem h, List.foldl_append, List.getD_eq_getElem?_getD, List.getElem?_eq_getElem h]; rfl
theorem redS_to {n : Nat} {rows : List (List Int)} {v : List Int} (h : ∀ r ∈ rows, VokB n r) (hv : VokB n v) : ∀ i, i ≤ rows.length → VokB n ((rows.take i).foldl redStep v)
 | 0, _ => hv
 | i + 1, hi => by rw [foldl_take _ _ [] _ _ (by omega)]; exact (redStep_ok (redS_to h hv i (by omega)) (h _ (getD_in (by omega)))).1
def elTo (rows : List (List Int)) (w : List Int) (l i : Nat) : List (List Int) := (rows.map (elimS w l)).take i ++ rows.drop i
theorem elTo_len {rows : List (List Int)} {w : List Int} {l i : Nat} : (elTo rows w l i).length = rows.length := by simp [elTo]; omega
theorem elTo_get {rows : List (List Int)} {w : List Int} {l i : Nat} (hi : i < rows.length) : (elTo rows w l i).getD i [] = rows.getD i [] := by
 have hl : (List.take i (rows.map (elimS w l))).length = i := by simp; omega
 unfold elTo
 simp only [List.getD_eq_getElem?_getD]
 rw [List.getElem?_append_right (by omega), hl, List.getElem?_drop]; simp
theorem elTo_set {rows : List (List Int)} {w : List Int} {l i : Nat} (hi : i < rows.length) : (elTo rows w l i).set i (elimS w l (rows.getD i [])) = elTo rows w l (i + 1) := by
 have hl : (List.take i (rows.map (elimS w l))).length = i := by simp; omega
 unfold elTo
 rw [List.set_append_right _ _ (by omega), hl, Nat.sub_self, List.take_succ_eq_append_getElem (by simpa using hi), List.append_assoc]
 congr 1
 rw [← List.getElem_cons_drop hi, List.set_cons_zero, List.getD_eq_getElem?_getD, List.getElem?_eq_getElem hi]; simp
theorem elTo_all {rows : List (List Int)} {w : List Int} {l i : Nat} (hi : rows.length ≤ i) : elTo rows w l i = rows.map (elimS w l) := by
 unfold elTo
 rw [List.take_of_length_le (by simpa using hi), List.drop_eq_nil_of_le hi, List.append_nil]
theorem elimS_yes {w r : List Int} {l : Nat} (h : r.getD l 0 ≠ 0) : elimS w l r = addS r w (1019 - r.getD l 0) := if_pos h
theorem elimS_no {w r : List Int} {l : Nat} (h : r.getD l 0 = 0) : elimS w l r = r := if_neg (fun e => e h)
theorem map_at {rows : List (List Int)} {f : List Int → List Int} {i : Nat} (hi : i < rows.length) : (rows.map f).getD i [] = f (rows.getD i []) := by
 rw [List.getD_eq_getElem?_getD, List.getElem?_map, List.getElem?_eq_getElem hi, List.getD_eq_getElem?_getD, List.getElem?_eq_getElem hi]; rfl
theorem atTo_le (rows : List (List Int)) (l : Int) : ∀ i, atTo rows l i ≤ i
 | 0 => Nat.le_refl _
 | i + 1 => by have := atTo_le rows l i; simp only [atTo]; split <;> omega
theorem gjAt_le (m : List (List Int)) : ∀ k, (gjAt m k).2 ≤ (gjAt m k).1.length
 | 0 => Nat.zero_le _
 | k + 1 => by
  have := gjAt_le m k
  simp only [gjAt]
  split
  ·unfold gjStep
   split
   ·exact this
   ·rw [gjMap_len]; omega
  ·exact this
theorem gjAt_stop {m : List (List Int)} {k : Nat} (h : ¬ (gjAt m k).2 < (gjAt m k).1.length) : ∀ d, gjAt m (k + d) = gjAt m k
 | 0 => rfl
 | d + 1 => by
  have ih := gjAt_stop h d
  show (if (gjAt m (k + d)).2 < (gjAt m (k + d)).1.length then _ else gjAt m (k + d)) = _
  rw [if_neg (by rw [ih]; exact h), ih]
theorem gjAt_none {m : List (List Int)} {k : Nat} (h : (gjAt m k).2 < (gjAt m k).1.length) (hf : fnd (gjAt m k).1 k (gjAt m k).1.length (gjAt m k).2 = (gjAt m k).1.length) : gjAt m (k + 1) = gjAt m k := by
 show (if _ then _ else _) = _
 rw [if_pos h]; exact if_pos hf
theorem gjAt_step {m : List (List Int)} {k : Nat} (h : (gjAt m k).2 < (gjAt m k).1.length) (hf : fnd (gjAt m k).1 k (gjAt m k).1.length (gjAt m k).2 ≠ (gjAt m k).1.length) : gjAt m (k + 1) = (gjMap (gjAt m k).1 (gjAt m k).2 (fnd (gjAt m k).1 k (gjAt m k).1.length (gjAt m k).2) k, (gjAt m k).2 + 1) := by
 show (if _ then _ else _) = _
 rw [if_pos h]; exact if_neg hf
def gjBase (rows : List (List Int)) (a b k : Nat) : List (List Int) := (rows.set b (rows.getD a [])).set a (gjLead rows b k)
def gjMid (rows : List (List Int)) (a b k i : Nat) : List (List Int) := (gjMap rows a b k).take i ++ (gjBase rows a b k).drop i
theorem gjBase_len {rows : List (List Int)} {a b k : Nat} : (gjBase rows a b k).length = rows.length := by simp [gjBase]
theorem gjMid_len {rows : List (List Int)} {a b k i : Nat} : (gjMid rows a b k i).length = rows.length := by simp [gjMid, gjBase_len, gjMap_len]; omega
theorem gjMid_all {rows : List (List Int)} {a b k i : Nat} (h : rows.length ≤ i) : gjMid rows a b k i = gjMap rows a b k := by
 unfold gjMid
 rw [List.take_of_length_le (by rw [gjMap_len]; exact h), List.drop_eq_nil_of_le (by rw [gjBase_len]; exact h), List.append_nil]
theorem gjBase_at {rows : List (List Int)} {a b k i : Nat} (hi : i < rows.length) : (gjBase rows a b k).getD i [] = if i = a then gjLead rows b k else if i = b then rows.getD a [] else rows.getD i [] := by
 unfold gjBase
 simp only [List.getD_eq_getElem?_getD]
 by_cases ha : i = a
 ·subst ha; rw [if_pos rfl, List.getElem?_set_self (by simpa using hi)]; rfl
 ·rw [if_neg ha, List.getElem?_set_ne (fun e => ha e.symm)]
  by_cases hb : i = b
  ·subst hb; rw [if_pos rfl, List.getElem?_set_self hi]; rfl
  ·rw [if_neg hb, List.getElem?_set_ne (fun e => hb e.symm)]
theorem gjMap_at {rows : List (List Int)} {a b k i : Nat} (hi : i < rows.length) : (gjMap rows a b k).getD i [] = if i = a then gjLead rows b k else elimS (gjLead rows b k) k (if i = b then rows.getD a [] else rows.getD i []) := by
 unfold gjMap
 rw [List.getD_eq_getElem?_getD, List.getElem?_map, List.getElem?_range hi]; rfl
theorem gjMid_hi {rows : List (List Int)} {a b k i j : Nat} (hi : i ≤ j) (hj : j < rows.length) : (gjMid rows a b k i).getD j [] = (gjBase rows a b k).getD j [] := by
 have hl : (List.take i (gjMap rows a b k)).length = i := by simp [gjMap_len]; omega
 unfold gjMid
 simp only [List.getD_eq_getElem?_getD]
 rw [List.getElem?_append_right (by omega), hl, List.getElem?_drop, show i + (j - i) = j by omega]
theorem gjMid_lo {rows : List (List Int)} {a b k i j : Nat} (hi : j < i) (hj : j < rows.length) : (gjMid rows a b k i).getD j [] = (gjMap rows a b k).getD j [] := by
 have hl : (List.take i (gjMap rows a b k)).length = min i rows.length := by simp [gjMap_len]
 unfold gjMid
 simp only [List.getD_eq_getElem?_getD]
 rw [List.getElem?_append_left (by omega), List.getElem?_take_of_lt hi]
theorem gjMid_piv {rows : List (List Int)} {a b k i : Nat} (ha : a < rows.length) : (gjMid rows a b k i).getD a [] = gjLead rows b k := by
 rcases Nat.lt_or_ge a i with h | h
 ·rw [gjMid_lo h ha, gjMap_at ha, if_pos rfl]
 ·rw [gjMid_hi h ha, gjBase_at ha, if_pos rfl]
theorem gjMid_next {rows : List (List Int)} {a b k i : Nat} (hi : i < rows.length) : gjMid rows a b k (i + 1) = (gjMid rows a b k i).set i ((gjMap rows a b k).getD i []) := by
 have hl : (List.take i (gjMap rows a b k)).length = i := by simp [gjMap_len]; omega
 unfold gjMid
 have h1 : i < (gjMap rows a b k).length := by rw [gjMap_len]; exact hi
 have h2 : i < (gjBase rows a b k).length := by rw [gjBase_len]; exact hi
 rw [List.set_append_right _ _ (by omega), hl, Nat.sub_self, List.take_succ_eq_append_getElem h1, List.append_assoc]
 congr 1
 rw [← List.getElem_cons_drop h2, List.set_cons_zero, List.getD_eq_getElem?_getD, List.getElem?_eq_getElem h1]; rfl
theorem gjMid_same {rows : List (List Int)} {a b k i : Nat} (hi : i < rows.length) (h : i = a ∨ ((gjMid rows a b k i).getD i []).getD k 0 = 0) : gjMid rows a b k (i + 1) = gjMid rows a b k i := by
 have e : (gjMap rows a b k).getD i [] = (gjMid rows a b k i).getD i [] := by
  rw [gjMid_hi (Nat.le_refl _) hi, gjMap_at hi, gjBase_at hi]
  by_cases ha : i = a
  ·rw [if_pos ha, if_pos ha]
  ·rw [if_neg ha, if_neg ha]
   rw [gjMid_hi (Nat.le_refl _) hi, gjBase_at hi, if_neg ha] at h
   rcases h with h | h
   ·exact absurd h ha
   ·exact elimS_no h
 rw [gjMid_next hi, e]
 apply List.ext_getElem?
 intro j
 by_cases hj : j = i
 ·subst hj
  rw [List.getElem?_set_self (by rw [gjMid_len]; exact hi), List.getD_eq_getElem?_getD, List.getElem?_eq_getElem (by rw [gjMid_len]; exact hi)]; rfl
 ·rw [List.getElem?_set_ne (fun e => hj e.symm)]
theorem gjMid_add {rows : List (List Int)} {a b k i : Nat} (hi : i < rows.length) (ha : i ≠ a) (h : ((gjMid rows a b k i).getD i []).getD k 0 ≠ 0) : gjMid rows a b k (i + 1) = (gjMid rows a b k i).set i (addS ((gjMid rows a b k i).getD i []) (gjLead rows b k) (1019 - ((gjMid rows a b k i).getD i []).getD k 0)) := by
 rw [gjMid_next hi]
 congr 1
 rw [gjMid_hi (Nat.le_refl _) hi, gjBase_at hi, if_neg ha] at h ⊢
 rw [gjMap_at hi, if_neg ha]
 exact elimS_yes h
theorem gjLead_ok {n : Nat} {rows : List (List Int)} {b k : Nat} (h : ∀ r ∈ rows, VokB n r) (hb : b < rows.length) (hz : ent rows b k ≠ 0) : VokB n (gjLead rows b k) :=
 (scaleS_ok (h _ (getD_in hb)) (invS_ok ((h _ (getD_in hb)).at_ k) hz).1).1
theorem gjBase_ok {n : Nat} {rows : List (List Int)} {a b k : Nat} (h : ∀ r ∈ rows, VokB n r) (ha : a < rows.length) (hb : b < rows.length) (hz : ent rows b k ≠ 0) {i : Nat} (hi : i < rows.length) : VokB n ((gjBase rows a b k).getD i []) := by
 rw [gjBase_at hi]
 split
 ·exact gjLead_ok h hb hz
 ·split
  ·exact h _ (getD_in ha)
  ·exact h _ (getD_in hi)
def gp (m : List (List Int)) (k : Nat) : Nat := fnd (gjAt m k).1 k (gjAt m k).1.length (gjAt m k).2
theorem gp_eq {m : List (List Int)} {k j : Nat} (h : (gjAt m k).2 + j ≤ (gjAt m k).1.length) (h3 : ∀ i, (gjAt m k).2 ≤ i → i < (gjAt m k).2 + j → ent (gjAt m k).1 i k = 0) (h4 : (gjAt m k).2 + j < (gjAt m k).1.length → ent (gjAt m k).1 ((gjAt m k).2 + j) k ≠ 0) : gp m k = (gjAt m k).2 + j :=
 fnd_uniq (gjAt_le m k) (by omega) h h3 h4
theorem gp_bd (m : List (List Int)) (k : Nat) : (gjAt m k).2 ≤ gp m k ∧ gp m k ≤ (gjAt m k).1.length ∧ (gp m k < (gjAt m k).1.length → ent (gjAt m k).1 (gp m k) k ≠ 0) := by
 obtain ⟨h1, h2, _, h4⟩ := fnd_spec (rows := (gjAt m k).1) (k := k) (gjAt m k).1.length (gjAt m k).2 (by omega) (gjAt_le m k)
 exact ⟨h1, h2, h4⟩
theorem ent_step {R : List (List Int)} {a j k : Nat} (h : ∀ i, a ≤ i → i < a + j → ent R i k = 0) (h2 : (R.getD (a + j) []).getD k 0 = 0) : ∀ i, a ≤ i → i < a + (j + 1) → ent R i k = 0 := fun i h3 h4 => by
 by_cases e : i = a + j
 ·rw [e]; exact h2
 ·exact h i h3 (by omega)
def gm (m : List (List Int)) (k i : Nat) : List (List Int) := gjMid (gjAt m k).1 (gjAt m k).2 (gp m k) k i
theorem gm_len (m : List (List Int)) (k i : Nat) : (gm m k i).length = (gjAt m k).1.length := gjMid_len
theorem gm_ok {n : Nat} {m : List (List Int)} {k i : Nat} (hm : ∀ r ∈ m, VokB n r) (ha : (gjAt m k).2 < (gjAt m k).1.length) (hp : gp m k < (gjAt m k).1.length) (hi : i < (gjAt m k).1.length) : VokB n ((gm m k i).getD i []) := by
 unfold gm; rw [gjMid_hi (Nat.le_refl _) hi]; exact gjBase_ok (gj_inv hm k).1 ha hp ((gp_bd m k).2.2 hp) hi
theorem gm_piv {n : Nat} {m : List (List Int)} {k i : Nat} (hm : ∀ r ∈ m, VokB n r) (ha : (gjAt m k).2 < (gjAt m k).1.length) (hp : gp m k < (gjAt m k).1.length) : VokB n ((gm m k i).getD (gjAt m k).2 []) := by
 unfold gm; rw [gjMid_piv ha]; exact gjLead_ok (gj_inv hm k).1 hp ((gp_bd m k).2.2 hp)
theorem gm_same {m : List (List Int)} {k i : Nat} (hi : i < (gjAt m k).1.length) (h : i = (gjAt m k).2 ∨ ((gm m k i).getD i []).getD k 0 = 0) : gm m k (i + 1) = gm m k i := gjMid_same hi h
theorem gm_add {m : List (List Int)} {k i : Nat} (hi : i < (gjAt m k).1.length) (ha' : (gjAt m k).2 < (gjAt m k).1.length) (ha : i ≠ (gjAt m k).2) (h : ((gm m k i).getD i []).getD k 0 ≠ 0) : gm m k (i + 1) = (gm m k i).set i (addS ((gm m k i).getD i []) ((gm m k i).getD (gjAt m k).2 []) (1019 - ((gm m k i).getD i []).getD k 0)) := by
 have e := gjMid_add (b := gp m k) hi ha h
 rw [← gjMid_piv (i := i) ha'] at e
 exact e
theorem gm_zero {m : List (List Int)} {k : Nat} {w : List Int} (h : w = gjLead (gjAt m k).1 (gp m k) k) : ((gjAt m k).1.set (gp m k) ((gjAt m k).1.getD (gjAt m k).2 [])).set (gjAt m k).2 w = gm m k 0 := by rw [h]; rfl
theorem gm_none {m : List (List Int)} {k : Nat} (h : (gjAt m k).2 < (gjAt m k).1.length) (hf : gp m k = (gjAt m k).1.length) : gjAt m (k + 1) = gjAt m k := gjAt_none h hf
theorem gm_done {m : List (List Int)} {k i : Nat} (h : (gjAt m k).2 < (gjAt m k).1.length) (hf : gp m k ≠ (gjAt m k).1.length) (hi : (gjAt m k).1.length ≤ i) : gjAt m (k + 1) = (gm m k i, (gjAt m k).2 + 1) := by
 rw [gjAt_step h hf]; unfold gm; rw [gjMid_all hi]; rfl
theorem gm_end {m : List (List Int)} {k n : Nat} (hk : k ≤ n) (h : k = n ∨ ¬ (gjAt m k).2 < (gjAt m k).1.length) : (gjAt m k).1.take (gjAt m k).2 = gjS m n := by
 unfold gjS
 rcases h with h | h
 ·rw [h]
 ·have := gjAt_stop h (n - k)
  rw [show k + (n - k) = n by omega] at this
  rw [this]
theorem redS_rng {n : Nat} {rows : List (List Int)} {v : List Int} (h : RedL n rows) (hv : VokB n v) : VokB n (redS rows v) := (redS_ok h.ok hv).1
theorem insW_ok {n : Nat} {rows : List (List Int)} {v : List Int} (h : RedL n rows) (hv : VokB n v) (hl : ¬ leadS (redS rows v) < 0) : VokB n (insW rows v) := by
 have hr := redS_rng h hv
 exact (scaleS_ok hr (invS_ok (hr.at_ _) (leadS_pos (by omega)).1).1).1
theorem ins_b1 {rows : List (List Int)} {w : List Int} {l i : Nat} (hi : i < rows.length) (hx : ((elTo rows w l i).getD i []).getD l 0 ≠ 0) : (elTo rows w l i).set i (addS ((elTo rows w l i).getD i []) w (1019 - ((elTo rows w l i).getD i []).getD l 0)) = elTo rows w l (i + 1) := by
 rw [elTo_get hi] at hx ⊢
 rw [← elimS_yes hx]; exact elTo_set hi
theorem ins_b0 {rows : List (List Int)} {w : List Int} {l i : Nat} (hi : i < rows.length) (hx : ((elTo rows w l i).getD i []).getD l 0 = 0) : (elTo rows w l i).set i ((elTo rows w l i).getD i []) = elTo rows w l (i + 1) := by
 rw [elTo_get hi] at hx ⊢
 have := elTo_set (w := w) (l := l) hi
 rwa [elimS_no hx] at this
theorem insE_at {rows : List (List Int)} {v : List Int} {i : Nat} (hi : i < rows.length) : (insE rows v).getD i [] = elimS (insW rows v) (leadS (redS rows v)).toNat (rows.getD i []) := map_at hi
theorem at_b1 {rows : List (List Int)} {v : List Int} {i : Nat} (hi : i < rows.length) (hx : ((elTo rows (insW rows v) (leadS (redS rows v)).toNat i).getD i []).getD (leadS (redS rows v)).toNat 0 ≠ 0) :
  (insE rows v).getD i [] = addS ((elTo rows (insW rows v) (leadS (redS rows v)).toNat i).getD i []) (insW rows v) (1019 - ((elTo rows (insW rows v) (leadS (redS rows v)).toNat i).getD i []).getD (leadS (redS rows v)).toNat 0) := by
 rw [elTo_get hi] at hx ⊢
 rw [insE_at hi, elimS_yes hx]
theorem at_b0 {rows : List (List Int)} {v : List Int} {i : Nat} (hi : i < rows.length) (hx : ((elTo rows (insW rows v) (leadS (redS rows v)).toNat i).getD i []).getD (leadS (redS rows v)).toNat 0 = 0) :
  (insE rows v).getD i [] = (elTo rows (insW rows v) (leadS (redS rows v)).toNat i).getD i [] := by
 rw [elTo_get hi] at hx ⊢
 rw [insE_at hi, elimS_no hx]
theorem atTo_y {rows : List (List Int)} {l : Int} {i : Nat} {r : List Int} (e : rows.getD i [] = r) (h : leadS r < l) : atTo rows l (i + 1) = i + 1 := by
 subst e; exact if_pos h
theorem atTo_n {rows : List (List Int)} {l : Int} {i : Nat} {r : List Int} (e : rows.getD i [] = r) (h : ¬ leadS r < l) : atTo rows l (i + 1) = atTo rows l i := by
 subst e; exact if_neg h
theorem insS_no {rows : List (List Int)} {v : List Int} (h : leadS (redS rows v) < 0) : insS rows v = (rows, false) := if_pos h
theorem insS_yes {rows : List (List Int)} {v : List Int} (h : ¬ leadS (redS rows v) < 0) : insS rows v = ((insE rows v).take (atTo (insE rows v) (leadS (redS rows v)) rows.length) ++ [insW rows v] ++ (insE rows v).drop (atTo (insE rows v) (leadS (redS rows v)) rows.length), true) := if_neg h
end LA
