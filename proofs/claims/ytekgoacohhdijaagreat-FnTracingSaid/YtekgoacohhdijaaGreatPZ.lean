/- slices.Insert and slices.Delete, over any type of elements: what they leave in memory, out of the roads through their code. No program is named; no condition. -/
import Derived.Test.YtekgoacohhdijaaGreatPY
import Derived.Lib.AppendZerosOnto
import Derived.Lib.Overlaps
import Derived.Laws.Externs
import Derived.Laws.CopyRow
import Derived.Laws.IdiomCopy
import Derived.Shelf.RegionOpenPlain
import Derived.Lib.Walk
import Derived.Lib.SliceRun
namespace Go.Proofs.YtekgoacohhdijaaGreat
open Go.RowKit
set_option linter.unusedVariables false
set_option linter.unusedSimpArgs false
variable {P : Program}
theorem run_copy_k (w : World) (t ty e : TypeId) (k g o dLen dCap : Nat) (a : Addr) (sLen sCap : Nat) (cur : Array Value) (te : TypeId) (cs : List Value)
  (hu : P.underlying t = some (.slice e)) (hs : (P.info? e).map (·.size) = some k)
  (hg : w.heap[g]? = some (.cells cur te (0, 0))) (r : Nat) (hr : min sLen dLen = r) (hn : cs.length = r * k)
  (hsrc : ∀ j v, cs[j]? = some v → w.cell? (a.add j) = some v) (hfit : o + cs.length ≤ cur.size) (h1 : ∀ v ∈ cs, v.oneCell' = true) :
  (Builtin.copy_ #[t, t] ty #[.slice (some ⟨g, o, none⟩) dLen dCap, .slice (some a) sLen sCap]).run P w =
   .ok (goInt r) (w.setRow g (cur.toList.take o ++ cs ++ cur.toList.drop (o + cs.length)).toArray) := by
 subst hr
 have hl := run_loadCells_list (P := P) w a cs hsrc
 have hst := run_storeCells_at P g o te cs 0 cur w hg (by simpa using hfit) h1
 cases hq : P.info? e with
 | none => simp [hq] at hs
 | some i =>
  have hi : i.size = k := by simpa [hq] using hs
  simp [Builtin.copy_, run_underlying hu, Builtin.lenOf, Builtin.firstCells, sizeOf, typeInfo, hq, hi, ← hn, hl, hst]
structure InsRoads (P : Program) (f t tI k : Nat) : Prop where
 r1 : ∀ (w : World) (A : Option Addr) (n c gu m cu : Nat), 0 < m → n ≤ c → c ≤ 9223372036854775807 → (A = none → c = 0) → ∀ (v' : Value) (w' : World), (∀ ty, (Builtin.append_ #[t, t] ty #[.slice A n c, .slice (some ⟨gu, 0, none⟩) m cu]).run P w = .ok v' w') →
  Calls P f #[.slice A n c, .int .i64 n, .slice (some ⟨gu, 0, none⟩) m cu] w fun e w'' => e = .returned v' ∧ w'' = w'
 r2 : ∀ (w : World) (g n c i gu m cu W C : Nat), 0 < m → i < n → n ≤ c → c < n + m → n + m ≤ 9223372036854775807 → n + m ≤ C → ∀ (w1 w2 w3 : World) (x1 x2 : Value),
  (∀ ty, (Builtin.append_ #[t, tI] ty #[.slice (some ⟨g, 0, none⟩) i c, .int .i64 ((n : Int) + (m : Int) - (i : Int))]).run P w = .ok (.slice (some ⟨W, 0, none⟩) (n + m) C) w1) →
  (∀ ty, (Builtin.copy_ #[t, t] ty #[.slice (some ⟨W, i * k, none⟩) (n + m - i) (C - i), .slice (some ⟨gu, 0, none⟩) m cu]).run P w1 = .ok x1 w2) →
  (∀ ty, (Builtin.copy_ #[t, t] ty #[.slice (some ⟨W, (i + m) * k, none⟩) (n + m - (i + m)) (C - (i + m)), .slice (some ⟨g, i * k, none⟩) (n - i) (c - i)]).run P w2.drew = .ok x2 w3) →
  Calls P f #[.slice (some ⟨g, 0, none⟩) n c, .int .i64 i, .slice (some ⟨gu, 0, none⟩) m cu] w fun e w'' => e = .returned (.slice (some ⟨W, 0, none⟩) (n + m) C) ∧ w'' = w3
 r3 : ∀ (w : World) (g n c i gu m cu : Nat), 0 < m → i < n → n + m ≤ c → c ≤ 9223372036854775807 → gu ≠ g → ∀ (tA tB : TypeId) (kA kB : Nat), w.shape? gu = some (tA, kA) → w.shape? g = some (tB, kB) → kB ≠ 0 → w.frozen? ⟨gu, 0, none⟩ = false → w.frozen? ⟨gu, kA, none⟩ = false →
  ∀ (w1 w2 : World) (x1 x2 : Value),
  (∀ ty, (Builtin.copy_ #[t, t] ty #[.slice (some ⟨g, (i + m) * k, none⟩) (n + m - (i + m)) (c - (i + m)), .slice (some ⟨g, i * k, none⟩) (n + m - i) (c - i)]).run P w.drew = .ok x1 w1) →
  (∀ ty, (Builtin.copy_ #[t, t] ty #[.slice (some ⟨g, i * k, none⟩) (n + m - i) (c - i), .slice (some ⟨gu, 0, none⟩) m cu]).run P w1 = .ok x2 w2) →
  Calls P f #[.slice (some ⟨g, 0, none⟩) n c, .int .i64 i, .slice (some ⟨gu, 0, none⟩) m cu] w fun e w'' => e = .returned (.slice (some ⟨g, 0, none⟩) (n + m) c) ∧ w'' = w2
def MoveEnds (w : World) (e : TypeId) (k : Nat) (v : Value) (n : Nat) (xs : List Value) (e' : Ending) (w' : World) : Prop :=
 ∃ v', e' = .returned v' ∧ ownsRw w' 0 e k v' n xs ∧ w'.os = w.os ∧ w'.tape = w.tape ∧ w'.output = w.output ∧ w.heap.size ≤ w'.heap.size ∧ (∀ b, b < w.heap.size → b ∉ Value.blk v → w'.heap[b]? = w.heap[b]?) ∧ ∀ b ∈ Value.blk v', b ∈ Value.blk v ∨ w.heap.size ≤ b
theorem seg_put {α : Type} (A B C : List α) {o : Nat} (h : o = A.length) : (A ++ C).take o ++ B ++ (A ++ C).drop (o + B.length) = A ++ B ++ C.drop B.length := by
 subst h
 rw [List.take_left, List.drop_append]
 simp
theorem ins_core {f t tI e k bytes : Nat} {zs : List Value} (R : InsRoads P f t tI k) (EL : Elem P t e zs bytes) (hk : zs.length = k) (htI : P.underlying tI = some (.int .i64)) {w : World} {v u : Value} {n m i : Nat} {xs ys : List Value}
  (hv : ownsRw w 0 e k v n xs) (hu : ownsRw w 0 e k u m ys) (h1x : ∀ x ∈ xs, x.oneCell' = true) (h1y : ∀ x ∈ ys, x.oneCell' = true) (hdis : ∀ b ∈ Value.blk v, b ∉ Value.blk u) (hm : 0 < m) (hi : i ≤ n) (hby : (n + m) * bytes ≤ 140737488355328) :
  Calls P f #[v, .int .i64 i, u] w (MoveEnds w e k v (n + m) (xs.take (i * k) ++ ys ++ xs.drop (i * k))) := by
 subst hk
 have hxl := hv.1
 have hyl := hu.1
 have hbp := EL.pos'
 have hkp := EL.pos
 have hle : n + m ≤ (n + m) * bytes := Nat.le_mul_of_pos_right _ hbp
 obtain ⟨i0, z, q2, q3, q4, q5, q6⟩ := EL.info
 have hsz : (P.info? e).map (·.size) = some zs.length := by rw [q2]; simp [q4]
 rcases hu.2 with ⟨_, h0⟩ | ⟨gu, cu, curu, rfl, _, hgu, hmc, hcm, hus, hut⟩
 ·omega
 by_cases hin : i = n
 ·subst hin
  obtain ⟨v', w', j1, j2, j3, j4, j5, j6, j7, j8⟩ := run_append_src (P := P) EL (v := v) (u := .slice (some ⟨gu, 0, none⟩) m cu) hv (Src.row hu) hyl h1y hby 0
  have hrun : ∀ ty, (Builtin.append_ #[t, t] ty #[v, .slice (some ⟨gu, 0, none⟩) m cu]).run P w = .ok v' w' := fun ty => j1
  have hend : MoveEnds w e zs.length v (i + m) (xs.take (i * zs.length) ++ ys ++ xs.drop (i * zs.length)) (.returned v') w' := by
   refine ⟨v', rfl, ?_, j3, j4, j5, j6, j7, j8⟩
   rw [← hxl, List.take_length, List.drop_length, List.append_nil]
   exact j2
  rcases hv.2 with ⟨rfl, rfl⟩ | ⟨g, c, cur, rfl, _, hg, hnc, hcm', _, _⟩
  ·refine (R.r1 w none 0 0 gu m cu hm (Nat.le_refl _) (by omega) (fun _ => rfl) v' w' hrun).mono ?_
   rintro e' w'' ⟨rfl, rfl⟩; exact hend
  ·refine (R.r1 w (some ⟨g, 0, none⟩) i c gu m cu hm hnc (by simpa [maxLen] using hcm') (fun h => by cases h) v' w' hrun).mono ?_
   rintro e' w'' ⟨rfl, rfl⟩; exact hend
 ·have hlt : i < n := by omega
  rcases hv.2 with ⟨_, h0⟩ | ⟨g, c, cur, rfl, _, hg, hnc, hcm', hcs, hct⟩
  ·omega
  have hgl : g < w.heap.size := heap_lt hg
  have hgul : gu < w.heap.size := heap_lt hgu
  have hne : gu ≠ g := fun h => hdis g (by simp [Value.blk, Value.ownBlock]) (by simp [Value.blk, Value.ownBlock, h])
  have hcm'' : c ≤ 9223372036854775807 := by simpa [maxLen] using hcm'
  have cellx : ∀ (W : World), W.heap[g]? = w.heap[g]? → ∀ j x, xs[j]? = some x → W.cell? ⟨g, j, none⟩ = some x := fun W hW j x hj => by
   have := cell_of_row W g j cur e (0, 0) (by rw [hW]; exact hg)
   rw [this]
   rw [← hct, List.getElem?_take] at hj
   split at hj
   ·simpa using hj
   ·cases hj
  have celly : ∀ (W : World), W.heap[gu]? = w.heap[gu]? → ∀ j x, ys[j]? = some x → W.cell? ⟨gu, j, none⟩ = some x := fun W hW j x hj => by
   have := cell_of_row W gu j curu e (0, 0) (by rw [hW]; exact hgu)
   rw [this]
   rw [← hut, List.getElem?_take] at hj
   split at hj
   ·simpa using hj
   ·cases hj
  have hXl : (xs.take (i * zs.length)).length = i * zs.length := by
   rw [List.length_take, hxl]; exact Nat.min_eq_left (Nat.mul_le_mul_right _ hi)
  have hDl : (xs.drop (i * zs.length)).length = (n - i) * zs.length := by rw [List.length_drop, hxl, Nat.sub_mul]
  have hXD : xs.take (i * zs.length) ++ xs.drop (i * zs.length) = xs := List.take_append_drop _ _
  have h1D : ∀ x ∈ xs.drop (i * zs.length), x.oneCell' = true := fun x hx => h1x x (List.mem_of_mem_drop hx)
  have hDat : ∀ (W : World), W.heap[g]? = w.heap[g]? → ∀ j x, (xs.drop (i * zs.length))[j]? = some x → W.cell? ((⟨g, i * zs.length, none⟩ : Addr).add j) = some x := fun W hW j x hj => by
   rw [List.getElem?_drop] at hj
   rw [addr_add]
   exact cellx W hW _ x hj
  have hYat : ∀ (W : World), W.heap[gu]? = w.heap[gu]? → ∀ j x, ys[j]? = some x → W.cell? ((⟨gu, 0, none⟩ : Addr).add j) = some x := fun W hW j x hj => by
   rw [addr_add, Nat.zero_add]
   exact celly W hW _ x hj
  generalize hX : xs.take (i * zs.length) = X at *
  generalize hD : xs.drop (i * zs.length) = D at *
  have hres : (X ++ ys ++ D).length = (n + m) * zs.length := by
   rw [List.length_append, List.length_append, hXl, hyl, hDl, ← Nat.add_mul, ← Nat.add_mul]
   congr 1; omega
  by_cases hroom : c < n + m
  ·have hik : i + (n + m - i) = n + m := by omega
   have hold : (Builtin.firstCells i0.size i (.slice (some ⟨g, 0, none⟩) i c)).run P w.drew = .ok X.toArray w.drew :=
    run_firstCells_some w.drew i0.size i ⟨g, 0, none⟩ i c X (by rw [q4, hXl]) (fun j x hj => by
     rw [addr_add, Nat.zero_add]
     refine cellx w.drew rfl j x ?_
     rw [← hXD, List.getElem?_append_left]
     ·exact hj
     ·rcases Nat.lt_or_ge j X.length with h' | h'
      ·exact h'
      ·rw [List.getElem?_eq_none h'] at hj; cases hj)
   have hgz := fun ty => Lib.run_append_grow_zeros (P := P) w t tI ty e i0 z .i64 .i64 EL.under htI q2 q3 (some ⟨g, 0, none⟩) i c X hold (n + m - i) (by omega) (by rw [q4]; exact hkp) (by omega) (by omega)
    (by rw [q5]; have : (n + m - i) * bytes ≤ (n + m) * bytes := Nat.mul_le_mul_right _ (by omega); omega) (by rw [q5, hik]; exact growslice_fits hroom hby)
   rw [hik] at hgz
   have hcap := grownCap_ge w (n + m) c e
   have hcapm := grownCap_le_maxLen w (n + m) c e (by simp only [maxLen]; omega)
   generalize grownCap w (n + m) c e = G at *
   obtain ⟨Z, hZ⟩ : ∃ Z, Z = (Builtin.zeroCells z.cells (n + m - i)).toList ++ (Builtin.zeroCells z.cells (G - (n + m))).toList := ⟨_, rfl⟩
   have hZl : Z.length = (G - i) * zs.length := by
    rw [hZ, q6]
    simp only [Builtin.zeroCells, List.length_append, Array.length_toList, Array.size_map, Array.size_range, List.size_toArray, ← Nat.add_mul]
    congr 1; omega
   obtain ⟨w1, hw1⟩ : ∃ w1, w1 = w.drew.alloc (.cells (X ++ Z).toArray e) := ⟨_, rfl⟩
   have hrow : X.toArray ++ Builtin.zeroCells z.cells (n + m - i) ++ Builtin.zeroCells z.cells (G - (n + m)) = (X ++ Z).toArray := by
    apply Array.ext'
    rw [hZ]; simp
   rw [hrow, ← hw1] at hgz
   have e1 : w1.heap[w.heap.size]? = some (.cells (X ++ Z).toArray e (0, 0)) := by rw [hw1]; exact heap_alloc_new w.drew _
   have o1 : ∀ b, b < w.heap.size → w1.heap[b]? = w.heap[b]? := fun b hb => by rw [hw1]; exact Below.heap_alloc w.drew _ b hb
   have hwu : w.heap.size ≠ gu := by omega
   have hwg : w.heap.size ≠ g := by omega
   have c1 := fun ty => run_copy_k (P := P) w1 t ty e zs.length w.heap.size (i * zs.length) (n + m - i) (G - i) ⟨gu, 0, none⟩ m cu (X ++ Z).toArray e ys EL.under hsz e1 m (by omega) hyl (hYat w1 (o1 gu hgul))
    (by rw [List.size_toArray, List.length_append, hXl, hZl, hyl, ← Nat.add_mul, ← Nat.add_mul]; exact Nat.mul_le_mul_right _ (by omega)) h1y
   rw [List.toList_toArray, seg_put X ys Z hXl.symm] at c1
   obtain ⟨w2, hw2⟩ : ∃ w2, w2 = w1.setRow w.heap.size (X ++ ys ++ Z.drop ys.length).toArray := ⟨_, rfl⟩
   rw [← hw2] at c1
   have e2 : w2.drew.heap[w.heap.size]? = some (.cells (X ++ ys ++ Z.drop ys.length).toArray e (0, 0)) := by rw [hw2]; exact setRow_heap w1 _ _ _ _ _ e1
   have o2 : ∀ b, b < w.heap.size → w2.drew.heap[b]? = w.heap[b]? := fun b hb => by
    rw [hw2]; exact (setRow_other w1 _ _ _ (by omega)).trans (o1 b hb)
   have hXYl : (X ++ ys).length = (i + m) * zs.length := by rw [List.length_append, hXl, hyl, Nat.add_mul]
   have c2 := fun ty => run_copy_k (P := P) w2.drew t ty e zs.length w.heap.size ((i + m) * zs.length) (n + m - (i + m)) (G - (i + m)) ⟨g, i * zs.length, none⟩ (n - i) (c - i) (X ++ ys ++ Z.drop ys.length).toArray e D EL.under hsz e2
    (n - i) (by omega) hDl (hDat w2.drew (o2 g hgl))
    (by rw [List.size_toArray, List.length_append, hXYl, List.length_drop, hZl, hyl, hDl, ← Nat.sub_mul, ← Nat.add_mul, ← Nat.add_mul]; exact Nat.mul_le_mul_right _ (by omega)) h1D
   rw [List.toList_toArray, seg_put (X ++ ys) D (Z.drop ys.length) hXYl.symm] at c2
   refine (R.r2 w g n c i gu m cu w.heap.size G hm hlt hnc hroom (by omega) hcap w1 w2 _ _ _ (fun ty => ?_) c1 c2).mono ?_
   ·have := hgz ty
    rwa [show ((n + m - i : Nat) : Int) = (n : Int) + (m : Int) - (i : Int) by omega] at this
   ·rintro e' w'' ⟨rfl, rfl⟩
    refine ⟨_, rfl, ⟨hres, .inr ⟨w.heap.size, G, _, rfl, Nat.zero_le _, setRow_heap w2.drew _ _ _ _ _ e2, hcap, hcapm, ?_, ?_⟩⟩, ?_, ?_, ?_, ?_, fun b hb _ => (setRow_other w2.drew _ _ _ (by omega)).trans (o2 b hb), fun b hb => ?_⟩
    ·rw [List.size_toArray, List.length_append, hres, List.length_drop, List.length_drop, hZl, hyl, hDl, ← Nat.sub_mul, ← Nat.sub_mul, ← Nat.add_mul]
     refine Nat.mul_le_mul_right _ ?_
     omega
    ·rw [List.toList_toArray, ← hres, List.take_left]
    ·rw [hw2, hw1]; rfl
    ·rw [hw2, hw1]; rfl
    ·rw [hw2, hw1]; rfl
    ·rw [hw2, hw1]; simp
    ·right; simp [Value.blk, Value.ownBlock] at hb; omega
  ·have hroom' : n + m ≤ c := by omega
   obtain ⟨T, hT⟩ : ∃ T, T = cur.toList.drop (n * zs.length) := ⟨_, rfl⟩
   have hcur : cur.toList = X ++ (D ++ T) := by rw [← List.append_assoc, hXD, ← hct, hT, List.take_append_drop]
   have hcs' : c * zs.length ≤ cur.size := hcs
   have hnm : (n + m) * zs.length ≤ c * zs.length := Nat.mul_le_mul_right _ hroom'
   have hnk : n * zs.length ≤ c * zs.length := Nat.mul_le_mul_right _ (by omega)
   have hTl : T.length = cur.size - n * zs.length := by rw [hT, List.length_drop, Array.length_toList]
   have hd : w.drew.heap[g]? = some (.cells cur e (0, 0)) := hg
   have c1 := fun ty => run_copy_k (P := P) w.drew t ty e zs.length g ((i + m) * zs.length) (n + m - (i + m)) (c - (i + m)) ⟨g, i * zs.length, none⟩ (n + m - i) (c - i) cur e D EL.under hsz hd
    (n - i) (by omega) hDl (hDat w.drew rfl) (by rw [hDl, ← Nat.add_mul]; exact Nat.le_trans (Nat.mul_le_mul_right _ (by omega)) hcs') h1D
   obtain ⟨S, hS⟩ : ∃ S, S = cur.toList.drop ((i + m) * zs.length + D.length) := ⟨_, rfl⟩
   obtain ⟨M, hM⟩ : ∃ M, M = (D ++ T).take (m * zs.length) := ⟨_, rfl⟩
   have hMl : M.length = m * zs.length := by
    rw [hM, List.length_take, List.length_append, hDl, hTl]
    refine Nat.min_eq_left ?_
    rw [Nat.add_mul] at hnm
    rw [Nat.sub_mul]
    have : i * zs.length ≤ n * zs.length := Nat.mul_le_mul_right _ hi
    omega
   have hcut : cur.toList.take ((i + m) * zs.length) = X ++ M := by
    rw [hcur, Nat.add_mul, ← hXl, List.take_length_add_append, hM]
   rw [hcut, ← hS] at c1
   obtain ⟨w1, hw1⟩ : ∃ w1, w1 = w.drew.setRow g (X ++ M ++ D ++ S).toArray := ⟨_, rfl⟩
   rw [← hw1] at c1
   have e1 : w1.heap[g]? = some (.cells (X ++ M ++ D ++ S).toArray e (0, 0)) := by rw [hw1]; exact setRow_heap w.drew _ _ _ _ _ hd
   have o1 : ∀ b, b ≠ g → w1.heap[b]? = w.heap[b]? := fun b hb => by rw [hw1]; exact setRow_other w.drew _ _ _ hb
   have hSl : S.length = cur.size - (n + m) * zs.length := by
    rw [hS, List.length_drop, Array.length_toList, hDl, ← Nat.add_mul]
    congr 2; omega
   have hall : (X ++ M ++ D ++ S).length = cur.size := by
    rw [List.length_append, List.length_append, List.length_append, hXl, hMl, hDl, hSl, ← Nat.add_mul, ← Nat.add_mul, show i + m + (n - i) = n + m by omega]
    omega
   have c2 := fun ty => run_copy_k (P := P) w1 t ty e zs.length g (i * zs.length) (n + m - i) (c - i) ⟨gu, 0, none⟩ m cu (X ++ M ++ D ++ S).toArray e ys EL.under hsz e1 m (by omega) hyl (hYat w1 (o1 gu hne))
    (by rw [List.size_toArray, hall, hyl, ← Nat.add_mul]; exact Nat.le_trans (Nat.mul_le_mul_right _ (by omega)) hcs') h1y
   have hsplit : X ++ M ++ D ++ S = X ++ (M ++ (D ++ S)) := by simp
   rw [List.toList_toArray, hsplit, seg_put X ys _ hXl.symm, hyl, ← hMl, List.drop_left] at c2
   have hbl : w.shape? g = some (e, cur.size) := by simp [World.shape?, hg]
   refine (R.r3 w g n c i gu m cu hm hlt hroom' hcm'' hne e e curu.size cur.size (by simp [World.shape?, hgu]) hbl (by have := Nat.mul_pos (show 0 < c by omega) hkp; omega) (by simp [World.frozen?, hgu]) (by simp [World.frozen?, hgu]) w1 _ _ _ c1 c2).mono ?_
   rintro e' w'' ⟨rfl, rfl⟩
   refine ⟨_, rfl, ⟨hres, .inr ⟨g, c, _, rfl, Nat.zero_le _, setRow_heap w1 _ _ _ _ _ e1, hroom', hcm', ?_, ?_⟩⟩, ?_, ?_, ?_, ?_, fun b hb hn => (setRow_other w1 _ _ _ ?_).trans (o1 b ?_), fun b hb => .inl hb⟩
   ·rw [List.size_toArray, ← List.append_assoc, List.length_append, hres, hSl]
    omega
   ·rw [List.toList_toArray, ← List.append_assoc, ← hres, List.take_left]
   ·rw [hw1]; rfl
   ·rw [hw1]; rfl
   ·rw [hw1]; rfl
   ·rw [hw1]; simp
   ·intro h; subst h; exact hn (by simp [Value.blk, Value.ownBlock])
   ·intro h; subst h; exact hn (by simp [Value.blk, Value.ownBlock])
structure DelRoads (P : Program) (f t k : Nat) : Prop where
 r1 : ∀ (w : World) (A : Option Addr) (n c i : Nat), i ≤ n → n ≤ c → c ≤ 9223372036854775807 → Calls P f #[.slice A n c, .int .i64 i, .int .i64 i] w fun e w'' => e = .returned (.slice A n c) ∧ w'' = w
 r2 : ∀ (w : World) (g n c i j : Nat), i < j → j ≤ n → n ≤ c → c ≤ 9223372036854775807 → ∀ (w1 w2 : World) (x2 : Value),
  (∀ ty, (Builtin.append_ #[t, t] ty #[.slice (some ⟨g, 0, none⟩) i c, .slice (if c = j then some ⟨g, 0, none⟩ else some ⟨g, j * k, none⟩) (n - j) (c - j)]).run P w.drew = .ok (.slice (some ⟨g, 0, none⟩) (i + (n - j)) c) w1) →
  (∀ ty, (Builtin.clear_ #[t] ty #[.slice (some ⟨g, (i + (n - j)) * k, none⟩) (n - (i + (n - j))) (c - (i + (n - j)))]).run P w1 = .ok x2 w2) →
  Calls P f #[.slice (some ⟨g, 0, none⟩) n c, .int .i64 i, .int .i64 j] w fun e w'' => e = .returned (.slice (some ⟨g, 0, none⟩) (i + (n - j)) c) ∧ w'' = w2
theorem run_clear_k (w : World) (t ty e : TypeId) (zs : List Value) (bytes g o n cap : Nat) (EL : Elem P t e zs bytes) (cur : Array Value) (te : TypeId) (hn : 0 < n) (hg : w.heap[g]? = some (.cells cur te (0, 0))) (hfit : o + n * zs.length ≤ cur.size) (h1 : ∀ v ∈ zs, v.oneCell' = true) :
  (Builtin.clear_ #[t] ty #[.slice (some ⟨g, o, none⟩) n cap]).run P w = .ok (.tuple #[]) (w.setRow g (cur.toList.take o ++ (List.replicate n zs).flatten ++ cur.toList.drop (o + (List.replicate n zs).flatten.length)).toArray) := by
 obtain ⟨i0, z, q2, q3, q4, q5, q6⟩ := EL.info
 have hz0 := zeros_flat zs EL.pos n
 have hl : (List.replicate n zs).flatten.length = n * zs.length := by simp
 have hst := run_storeCells_at P g o te (List.replicate n zs).flatten 0 cur w hg (by rw [hl]; simpa using hfit) (fun v hv => by
  obtain ⟨l, hl', hv'⟩ := List.mem_flatten.1 hv
  rw [(List.mem_replicate.1 hl').2] at hv'
  exact h1 v hv')
 obtain ⟨m, rfl⟩ : ∃ m, n = m + 1 := ⟨n - 1, by omega⟩
 simp [Builtin.clear_, run_underlying EL.under, zeroValue, typeInfo, q2, q3, q6, hz0, hst]
theorem del_core {f t e k bytes : Nat} {zs : List Value} (R : DelRoads P f t k) (EL : Elem P t e zs bytes) (hk : zs.length = k) (hz1 : ∀ v ∈ zs, v.oneCell' = true) {w : World} {v : Value} {n i j : Nat} {xs : List Value}
  (hv : ownsRw w 0 e k v n xs) (h1x : ∀ x ∈ xs, x.oneCell' = true) (hi : i ≤ j) (hj : j ≤ n) :
  Calls P f #[v, .int .i64 i, .int .i64 j] w (MoveEnds w e k v (i + (n - j)) (xs.take (i * k) ++ xs.drop (j * k))) := by
 subst hk
 have hxl := hv.1
 have hkp := EL.pos
 obtain ⟨i0, z, q2, q3, q4, q5, q6⟩ := EL.info
 by_cases hij : i = j
 ·subst hij
  obtain ⟨A, c, rfl, hnc, hcm, _⟩ := row_form hv
  refine (R.r1 w A n c i hj hnc (by simpa [maxLen] using hcm)).mono ?_
  rintro e' w'' ⟨rfl, rfl⟩
  exact ⟨_, rfl, by rw [List.take_append_drop, show i + (n - i) = n by omega]; exact hv, rfl, rfl, rfl, Nat.le_refl _, fun _ _ _ => rfl, fun b hb => .inl hb⟩
 ·have hlt : i < j := by omega
  rcases hv.2 with ⟨_, h0⟩ | ⟨g, c, cur, rfl, _, hg, hnc, hcm', hcs, hct⟩
  ·omega
  have hcm'' : c ≤ 9223372036854775807 := by simpa [maxLen] using hcm'
  have hcs' : c * zs.length ≤ cur.size := hcs
  have hXl : (xs.take (i * zs.length)).length = i * zs.length := by
   rw [List.length_take, hxl]; exact Nat.min_eq_left (Nat.mul_le_mul_right _ (by omega))
  have hDl : (xs.drop (j * zs.length)).length = (n - j) * zs.length := by rw [List.length_drop, hxl, Nat.sub_mul]
  have h1D : ∀ x ∈ xs.drop (j * zs.length), x.oneCell' = true := fun x hx => h1x x (List.mem_of_mem_drop hx)
  have cellx : ∀ q x, xs[q]? = some x → w.drew.cell? ⟨g, q, none⟩ = some x := fun q x hq => by
   have := cell_of_row w.drew g q cur e (0, 0) hg
   rw [this]
   rw [← hct, List.getElem?_take] at hq
   split at hq
   ·simpa using hq
   ·cases hq
  obtain ⟨Y, hY⟩ : ∃ Y, cur.toList = xs.take (i * zs.length) ++ Y := ⟨cur.toList.drop (i * zs.length), by
   rw [← hct, List.take_take, Nat.min_eq_left (Nat.mul_le_mul_right _ (by omega)), List.take_append_drop]⟩
  generalize hX : xs.take (i * zs.length) = X at *
  generalize hD : xs.drop (j * zs.length) = D at *
  have hcl : (X ++ Y).length = cur.size := by rw [← hY, Array.length_toList]
  have hd : w.drew.heap[g]? = some (.cells cur e (0, 0)) := hg
  have hneed : i + (n - j) ≤ c := by omega
  have hst := run_storeCells_at P g (i * zs.length) e D 0 cur w.drew hd (by rw [Nat.add_zero, hDl, ← Nat.add_mul]; exact Nat.le_trans (Nat.mul_le_mul_right _ hneed) hcs') h1D
  obtain ⟨w1, hw1⟩ : ∃ w1, w1 = w.drew.setRow g (X ++ D ++ Y.drop D.length).toArray := ⟨_, rfl⟩
  rw [hY, Nat.add_zero, seg_put X D Y hXl.symm, ← hw1] at hst
  have hadd : (⟨g, 0, none⟩ : Addr).add (i * zs.length) = ⟨g, i * zs.length, none⟩ := by rw [addr_add, Nat.zero_add]
  have hld : ∀ a : Addr, (n = j ∨ a = ⟨g, j * zs.length, none⟩) → (Builtin.firstCells zs.length (n - j) (.slice (some a) (n - j) (c - j))).run P w.drew = .ok D.toArray w.drew := fun a ha => by
   refine run_firstCells_some w.drew zs.length (n - j) a _ _ D hDl fun q x hq => ?_
   rcases ha with h0 | rfl
   ·have : D = [] := List.eq_nil_of_length_eq_zero (by rw [hDl, h0]; simp)
    rw [this] at hq; simp at hq
   ·rw [addr_add]
    rw [← hD, List.getElem?_drop] at hq
    exact cellx _ x hq
  have hrun1 : ∀ ty, (Builtin.append_ #[t, t] ty #[.slice (some ⟨g, 0, none⟩) i c, .slice (if c = j then some ⟨g, 0, none⟩ else some ⟨g, j * zs.length, none⟩) (n - j) (c - j)]).run P w.drew = .ok (.slice (some ⟨g, 0, none⟩) (i + (n - j)) c) w1 := fun ty => by
   have hl : ∃ a, (if c = j then some (⟨g, 0, none⟩ : Addr) else some ⟨g, j * zs.length, none⟩) = some a ∧ (n = j ∨ a = ⟨g, j * zs.length, none⟩) := by
    by_cases hcj : c = j
    ·exact ⟨_, by rw [if_pos hcj], .inl (by omega)⟩
    ·exact ⟨_, by rw [if_neg hcj], .inr rfl⟩
   obtain ⟨a, ha, ha'⟩ := hl
   rw [ha]
   have := hld a ha'
   simp [Builtin.append_, run_underlying EL.under, sizeOf, typeInfo, q2, q4, Builtin.lenOf, hneed, this, hadd, hst]
  have e1 : w1.heap[g]? = some (.cells (X ++ D ++ Y.drop D.length).toArray e (0, 0)) := by rw [hw1]; exact setRow_heap w.drew _ _ _ _ _ hd
  have hXDl : (X ++ D).length = (i + (n - j)) * zs.length := by rw [List.length_append, hXl, hDl, Nat.add_mul]
  have hall : (X ++ D ++ Y.drop D.length).length = cur.size := by
   have h2 : D.length ≤ Y.length := by
    rw [List.length_append, hXl] at hcl
    have : (i + (n - j)) * zs.length ≤ c * zs.length := Nat.mul_le_mul_right _ hneed
    rw [Nat.add_mul] at this
    omega
   rw [List.length_append, List.length_append, List.length_drop]
   rw [List.length_append] at hcl
   omega
  have c2 := fun ty => run_clear_k (P := P) w1 t ty e zs bytes g ((i + (n - j)) * zs.length) (n - (i + (n - j))) (c - (i + (n - j))) EL _ e (by omega) e1 (by rw [List.size_toArray, hall, ← Nat.add_mul]; exact Nat.le_trans (Nat.mul_le_mul_right _ (by omega)) hcs') hz1
  rw [List.toList_toArray, seg_put (X ++ D) _ _ hXDl.symm] at c2
  refine (R.r2 w g n c i j hlt hj hnc hcm'' w1 _ _ hrun1 c2).mono ?_
  rintro e' w'' ⟨rfl, rfl⟩
  refine ⟨_, rfl, ⟨hXDl, .inr ⟨g, c, _, rfl, Nat.zero_le _, setRow_heap w1 _ _ _ _ _ e1, hneed, hcm', ?_, ?_⟩⟩, ?_, ?_, ?_, ?_, fun b hb hn => (setRow_other w1 _ _ _ ?_).trans ?_, fun b hb => .inl hb⟩
  ·have h3 : (List.replicate (n - (i + (n - j))) zs).flatten.length = (n - (i + (n - j))) * zs.length := by simp
   have h4 : (List.replicate (n - (i + (n - j))) zs).flatten.length ≤ (Y.drop D.length).length := by
    rw [h3]
    have h5 : (Y.drop D.length).length = cur.size - (i + (n - j)) * zs.length := by
     rw [List.length_append, hXDl] at hall
     omega
    rw [h5]
    have h6 : (n - (i + (n - j)) + (i + (n - j))) * zs.length ≤ c * zs.length := Nat.mul_le_mul_right _ (by omega)
    rw [Nat.add_mul] at h6
    omega
   rw [List.size_toArray, List.length_append, List.length_append, List.length_drop]
   rw [List.length_append] at hall
   omega
  ·rw [List.toList_toArray, ← hXDl, List.append_assoc, List.take_left]
  ·rw [hw1]; rfl
  ·rw [hw1]; rfl
  ·rw [hw1]; rfl
  ·rw [hw1]; simp
  ·intro h; subst h; exact hn (by simp [Value.blk, Value.ownBlock])
  ·rw [hw1]; exact setRow_other w.drew _ _ _ (fun h => by subst h; exact hn (by simp [Value.blk, Value.ownBlock]))
theorem own_arg {w : World} {t : TypeId} {s : Sh} {u : Value} {xs : List s.D} {G : List Nat} (h : (Sh.sl t s).ow w u.cells.toList xs G) (hf : resForm (.sl t s) u) :
  ∃ vs Fs, ownsRw w 0 s.ty s.size u xs.length vs.flatten ∧ Ow2 (s.ow w) vs xs Fs ∧ G = Value.blk u ++ Fs.flatten := by
 obtain ⟨v, vs, Fs, e1, h1, h2, e2⟩ := h
 have h1c := hf.2 rfl
 rw [cells_one h1c] at e1
 simp only [List.cons.injEq, and_true] at e1
 subst e1
 exact ⟨vs, Fs, h1, h2, e2⟩
theorem Ow2.one {w : World} {s : Sh} : ∀ {vs : List (List Value)} {xs : List s.D} {Fs : List (List Nat)}, Ow2 (s.ow w) vs xs Fs → ∀ u ∈ vs.flatten, u.oneCell' = true
 | [], [], [], _, u, hu => by simp at hu
 | _ :: _, _ :: _, _ :: _, h, u, hu => by
  rcases List.mem_append.1 hu with hu | hu
  ·exact s.ow_one h.1 u hu
  ·exact Ow2.one h.2 u hu
theorem Ow2.lens' {w : World} {s : Sh} : ∀ {vs : List (List Value)} {xs : List s.D} {Fs : List (List Nat)}, Ow2 (s.ow w) vs xs Fs → ∀ v ∈ vs, v.length = s.size
 | [], [], [], _, v, hv => by simp at hv
 | _ :: _, _ :: _, _ :: _, h, v, hv => by
  rcases List.mem_cons.1 hv with rfl | hv
  ·exact s.ow_len h.1
  ·exact Ow2.lens' h.2 v hv
theorem Ow2.drop' {α : Type} {O : List Value → α → List Nat → Prop} : ∀ {vs : List (List Value)} {xs : List α} {Fs : List (List Nat)} (k : Nat), Ow2 O vs xs Fs → Ow2 O (vs.drop k) (xs.drop k) (Fs.drop k)
 | [], [], [], k, _ => by simp [Ow2]
 | _ :: _, _ :: _, _ :: _, 0, h => h
 | _ :: _, _ :: _, _ :: _, k + 1, h => Ow2.drop' k h.2
theorem flat_take {vs : List (List Value)} {k : Nat} (h : ∀ v ∈ vs, v.length = k) (i : Nat) : vs.flatten.take (i * k) = (vs.take i).flatten := by
 rcases Nat.lt_or_ge vs.length i with hi | hi
 ·rw [List.take_of_length_le (l := vs.flatten) (by rw [flat_len_of h]; exact Nat.mul_le_mul_right _ (by omega)), List.take_of_length_le (l := vs) (by omega)]
 ·obtain ⟨r, hr⟩ := flatten_take vs i
  have hl : (vs.take i).flatten.length = i * k := by rw [flat_len_of (fun v hv => h v (List.mem_of_mem_take hv)), List.length_take, Nat.min_eq_left hi]
  rw [hr, ← hl, List.take_left]
def insAt {α : Type} (xs : List α) (i : Nat) (ys : List α) : List α := xs.take i ++ ys ++ xs.drop i
def delAt {α : Type} (xs : List α) (i j : Nat) : List α := xs.take i ++ xs.drop j
def insSum (f t ti : Nat) (s : Sh) (bytes : Nat) : Sum := { fid := f, dom := [.sl t s, .int ti, .sl t s], cod := [.sl t s], dp := true, kinds := [.tk, .rd, .tk], pre := fun x => (0 ≤ x.2.1 ∧ x.2.1 ≤ ((List.length (α := s.D) x.1 : Nat) : Int)) ∧ 0 < List.length (α := s.D) x.2.2.1 ∧ (List.length (α := s.D) x.1 + List.length (α := s.D) x.2.2.1) * bytes ≤ 140737488355328, g := fun x => (insAt x.1 (x.2.1 : Int).toNat x.2.2.1, ()) }
def delSum (f t ti tj : Nat) (s : Sh) : Sum := { fid := f, dom := [.sl t s, .int ti, .int tj], cod := [.sl t s], dp := true, kinds := [.tk, .rd, .rd], pre := fun x => (0 : Int) ≤ x.2.1 ∧ (x.2.1 : Int) ≤ x.2.2.1 ∧ (x.2.2.1 : Int) ≤ ((List.length (α := s.D) x.1 : Nat) : Int), g := fun x => (delAt x.1 (x.2.1 : Int).toNat (x.2.2.1 : Int).toNat, ()) }
theorem int_arg {w : World} {Z : Nat → Prop} {t : TypeId} {u : Value} {n : Int} (h : argRd w Z (.int t) u n) : u = .int .i64 n := by
 have h1 := h.1
 rw [cells_one (h.2.2 rfl)] at h1
 have h2 : ([u] : List Value) = [.int .i64 n] := h1
 simpa using h2
theorem insert_ok {f t tI ti bytes : Nat} (s : Sh) (R : InsRoads P f t tI s.size) (EL : Elem P t s.ty s.zs bytes) (htI : P.underlying tI = some (.int .i64)) : FnOK P f (insSum f t ti s bytes) := by
 show FnOKI P f (insSum f t ti s bytes)
 rintro w Z us ⟨xs, n0, ys, _⟩ F hZ hargs hFn hF hpre
 obtain ⟨n, hn0⟩ : ∃ n : Int, n = n0 := ⟨n0, rfl⟩
 subst hn0
 match us, hargs with
 | [v, ui, u], hargs =>
  obtain ⟨G1, H1, rfl, ⟨ho1, hf1⟩, G2, H2, rfl, ⟨hrd, rfl⟩, G3, H3, rfl, ⟨ho3, hf3⟩, rfl⟩ := hargs
  obtain ⟨vs, Fs, a1, a2, rfl⟩ := own_arg ho1 hf1
  obtain ⟨us, Gs, b1, b2, rfl⟩ := own_arg ho3 hf3
  have hui := int_arg hrd
  subst hui
  obtain ⟨⟨p1, p2⟩, p3, p4⟩ := hpre
  have p1 : (0 : Int) ≤ n := p1
  have p2 : (n : Int) ≤ ((List.length xs : Nat) : Int) := p2
  have p3 : 0 < List.length ys := p3
  have p4 : (List.length xs + List.length ys) * bytes ≤ 140737488355328 := p4
  obtain ⟨i, rfl⟩ : ∃ i : Nat, n = i := ⟨n.toNat, by omega⟩
  have hi : i ≤ List.length xs := by omega
  simp only [List.nil_append, List.append_nil] at hFn hF ⊢
  have hn := List.nodup_append.1 hFn
  have hn1 := List.nodup_append.1 hn.1
  have hn2 := List.nodup_append.1 hn.2.1
  refine (ins_core R EL s.zs_len htI a1 b1 a2.one b2.one (fun b hb hb' => hn.2.2 b (List.mem_append.2 (.inl hb)) b (List.mem_append.2 (.inl hb')) rfl) p3 hi p4).mono ?_
  rintro e' w' ⟨v', rfl, k1, k2, k3, k4, k5, k6, k7⟩
  have hl1 := a2.lens'
  have hlx := a2.len
  rw [flat_take hl1, flatten_drop vs i s.size hl1 (by rw [hlx.1]; exact hi), ← List.flatten_append, ← List.flatten_append] at k1
  have keepF : ∀ b ∈ Fs.flatten, w'.heap[b]? = w.heap[b]? := fun b hb => k6 b (hF b (List.mem_append.2 (.inl (List.mem_append.2 (.inr hb))))).1 fun hbl => hn1.2.2 b hbl b hb rfl
  have keepG : ∀ b ∈ Gs.flatten, w'.heap[b]? = w.heap[b]? := fun b hb => k6 b (hF b (List.mem_append.2 (.inr (List.mem_append.2 (.inr hb))))).1 fun hbl => hn.2.2 b (List.mem_append.2 (.inl hbl)) b (List.mem_append.2 (.inr hb)) rfl
  have a3 : Ow2 (s.ow w') vs xs Fs := a2.keep fun c x F hF' ho => s.ow_keep ho fun b hb => keepF b (hF' b hb)
  have b3 : Ow2 (s.ow w') us ys Gs := b2.keep fun c x F hF' ho => s.ow_keep ho fun b hb => keepG b (hF' b hb)
  have hels : Ow2 (s.ow w') (vs.take i ++ us ++ vs.drop i) (xs.take i ++ ys ++ xs.drop i) (Fs.take i ++ Gs ++ Fs.drop i) := ((a3.take i).append b3).append (a3.drop' i)
  have hperm : (Fs.take i ++ Gs ++ Fs.drop i).flatten.Perm (Fs.flatten ++ Gs.flatten) := by
   have e1 : Fs.flatten = (Fs.take i).flatten ++ (Fs.drop i).flatten := by rw [← List.flatten_append, List.take_append_drop]
   rw [List.flatten_append, List.flatten_append, e1, List.append_assoc, List.append_assoc]
   exact List.Perm.append_left _ List.perm_append_comm
  have hmem : ∀ b ∈ (Fs.take i ++ Gs ++ Fs.drop i).flatten, b ∈ Fs.flatten ∨ b ∈ Gs.flatten := fun b hb => List.mem_append.1 (hperm.mem_iff.1 hb)
  have hmemF : ∀ b ∈ (Fs.take i ++ Gs ++ Fs.drop i).flatten, b ∈ (Value.blk v ++ Fs.flatten) ++ (Value.blk u ++ Gs.flatten) := fun b hb => by
   rcases hmem b hb with h' | h'
   ·exact List.mem_append.2 (.inl (List.mem_append.2 (.inr h')))
   ·exact List.mem_append.2 (.inr (List.mem_append.2 (.inr h')))
  have hone : v'.oneCell' = true := by obtain ⟨A, c, e, _⟩ := row_form k1; rw [e]; rfl
  refine ⟨[v'], [], Value.blk v' ++ (Fs.take i ++ Gs ++ Fs.drop i).flatten, rfl, ⟨[], [], rfl, rfl, [], [], rfl, rfl, [], [], rfl, rfl, rfl⟩, fun _ => ?_, ?_, ?_, ?_⟩
  ·refine ⟨_, [], (List.append_nil _).symm, ?_, ⟨fun h => (by cases h), fun _ => hone⟩, rfl⟩
   refine ⟨v', vs.take i ++ us ++ vs.drop i, Fs.take i ++ Gs ++ Fs.drop i, by rw [cells_one hone], ?_, hels, rfl⟩
   have e1 : List.length (xs.take i ++ ys ++ xs.drop i) = List.length xs + List.length ys := by simp; omega
   show ownsRw w' 0 s.ty s.size v' (List.length (α := s.D) (insAt xs ((i : Nat) : Int).toNat ys)) _
   rw [Int.toNat_natCast]
   show ownsRw w' 0 s.ty s.size v' (List.length (xs.take i ++ ys ++ xs.drop i)) _
   rw [e1]
   exact k1
  ·rw [List.nil_append]
   refine List.nodup_append.2 ⟨blk_nodup v', hperm.nodup_iff.2 (List.nodup_append.2 ⟨hn1.2.1, hn2.2.1, fun b hb c hc e => ?_⟩), fun b hb c hc e => ?_⟩
   ·exact hn.2.2 b (List.mem_append.2 (.inr hb)) c (List.mem_append.2 (.inr hc)) e
   ·subst e
    rcases k7 b hb with h' | h'
    ·rcases hmem b hc with h2 | h2
     ·exact hn1.2.2 b h' b h2 rfl
     ·exact hn.2.2 b (List.mem_append.2 (.inl h')) b (List.mem_append.2 (.inr h2)) rfl
    ·have := (hF b (hmemF b hc)).1; omega
  ·intro b hb
   rw [List.nil_append] at hb
   rcases List.mem_append.1 hb with hb | hb
   ·refine ⟨blk_lt k1 b hb, ?_⟩
    rcases k7 b hb with h' | h'
    ·exact .inr (List.mem_append.2 (.inl (List.mem_append.2 (.inl h'))))
    ·exact .inl h'
   ·have := (hF b (hmemF b hb)).1
    exact ⟨by omega, .inr (hmemF b hb)⟩
  ·exact ⟨k2, k3, k4, k5, fun b hb hn' => k6 b hb fun hbl => hn' (List.mem_append.2 (.inl (List.mem_append.2 (.inl hbl))))⟩
theorem delete_ok {f t ti tj bytes : Nat} (s : Sh) (R : DelRoads P f t s.size) (EL : Elem P t s.ty s.zs bytes) (hz1 : (s.zs.all fun v => v.oneCell') = true) : FnOK P f (delSum f t ti tj s) := by
 show FnOKI P f (delSum f t ti tj s)
 rintro w Z us ⟨xs, n0, m0, _⟩ F hZ hargs hFn hF hpre
 obtain ⟨n, hn0⟩ : ∃ n : Int, n = n0 := ⟨n0, rfl⟩
 obtain ⟨m, hm0⟩ : ∃ m : Int, m = m0 := ⟨m0, rfl⟩
 subst hn0; subst hm0
 match us, hargs with
 | [v, ui, uj], hargs =>
  obtain ⟨G1, H1, rfl, ⟨ho1, hf1⟩, G2, H2, rfl, ⟨hrd, rfl⟩, G3, H3, rfl, ⟨hrd2, rfl⟩, rfl⟩ := hargs
  obtain ⟨vs, Fs, a1, a2, rfl⟩ := own_arg ho1 hf1
  have hui := int_arg hrd
  have huj := int_arg hrd2
  subst hui; subst huj
  obtain ⟨p1, p2, p3⟩ := hpre
  have p1 : (0 : Int) ≤ n := p1
  have p2 : (n : Int) ≤ m := p2
  have p3 : (m : Int) ≤ ((List.length xs : Nat) : Int) := p3
  obtain ⟨i, rfl⟩ : ∃ i : Nat, n = i := ⟨n.toNat, by omega⟩
  obtain ⟨j, rfl⟩ : ∃ j : Nat, m = j := ⟨m.toNat, by omega⟩
  have hi : i ≤ j := by omega
  have hj : j ≤ List.length xs := by omega
  simp only [List.nil_append, List.append_nil] at hFn hF ⊢
  have hn1 := List.nodup_append.1 hFn
  refine (del_core R EL s.zs_len (fun v hv => List.all_eq_true.1 hz1 v hv) a1 a2.one hi hj).mono ?_
  rintro e' w' ⟨v', rfl, k1, k2, k3, k4, k5, k6, k7⟩
  have hl1 := a2.lens'
  have hlx := a2.len
  rw [flat_take hl1, flatten_drop vs j s.size hl1 (by rw [hlx.1]; exact hj), ← List.flatten_append] at k1
  have keepF : ∀ b ∈ Fs.flatten, w'.heap[b]? = w.heap[b]? := fun b hb => k6 b (hF b (List.mem_append.2 (.inr hb))).1 fun hbl => hn1.2.2 b hbl b hb rfl
  have a3 : Ow2 (s.ow w') vs xs Fs := a2.keep fun c x F hF' ho => s.ow_keep ho fun b hb => keepF b (hF' b hb)
  have hels : Ow2 (s.ow w') (vs.take i ++ vs.drop j) (xs.take i ++ xs.drop j) (Fs.take i ++ Fs.drop j) := (a3.take i).append (a3.drop' j)
  have hsub : (Fs.take i ++ Fs.drop j).flatten.Sublist Fs.flatten := by
   have e1 : Fs.flatten = (Fs.take i).flatten ++ (Fs.drop i).flatten := by rw [← List.flatten_append, List.take_append_drop]
   have e2 : (Fs.drop i).flatten = ((Fs.drop i).take (j - i)).flatten ++ (Fs.drop j).flatten := by
    rw [← List.flatten_append]
    congr 1
    have : Fs.drop j = (Fs.drop i).drop (j - i) := by rw [List.drop_drop]; congr 1; omega
    rw [this, List.take_append_drop]
   rw [List.flatten_append, e1, e2]
   exact List.Sublist.append_left (List.sublist_append_right _ _) _
  have hone : v'.oneCell' = true := by obtain ⟨A, c, e, _⟩ := row_form k1; rw [e]; rfl
  refine ⟨[v'], [], Value.blk v' ++ (Fs.take i ++ Fs.drop j).flatten, rfl, ⟨[], [], rfl, rfl, [], [], rfl, rfl, [], [], rfl, rfl, rfl⟩, fun _ => ?_, ?_, ?_, ?_⟩
  ·refine ⟨_, [], (List.append_nil _).symm, ?_, ⟨fun h => (by cases h), fun _ => hone⟩, rfl⟩
   refine ⟨v', vs.take i ++ vs.drop j, Fs.take i ++ Fs.drop j, by rw [cells_one hone], ?_, hels, rfl⟩
   have e1 : List.length (xs.take i ++ xs.drop j) = i + (List.length xs - j) := by simp; omega
   show ownsRw w' 0 s.ty s.size v' (List.length (α := s.D) (delAt xs ((i : Nat) : Int).toNat ((j : Nat) : Int).toNat)) _
   rw [Int.toNat_natCast, Int.toNat_natCast]
   show ownsRw w' 0 s.ty s.size v' (List.length (xs.take i ++ xs.drop j)) _
   rw [e1]
   exact k1
  ·rw [List.nil_append]
   refine List.nodup_append.2 ⟨blk_nodup v', hsub.nodup hn1.2.1, fun b hb c hc e => ?_⟩
   subst e
   rcases k7 b hb with h' | h'
   ·exact hn1.2.2 b h' b (hsub.subset hc) rfl
   ·have := (hF b (List.mem_append.2 (.inr (hsub.subset hc)))).1; omega
  ·intro b hb
   rw [List.nil_append] at hb
   rcases List.mem_append.1 hb with hb | hb
   ·refine ⟨blk_lt k1 b hb, ?_⟩
    rcases k7 b hb with h' | h'
    ·exact .inr (List.mem_append.2 (.inl h'))
    ·exact .inl h'
   ·have := (hF b (List.mem_append.2 (.inr (hsub.subset hb)))).1
    exact ⟨by omega, .inr (List.mem_append.2 (.inr (hsub.subset hb)))⟩
  ·exact ⟨k2, k3, k4, k5, fun b hb hn' => k6 b hb fun hbl => hn' (List.mem_append.2 (.inl hbl))⟩
theorem wp_copy_runI (w : World) {o : Oper} {a : Act} {K : Act → World → Prop} {Q : Exit → Act → World → Prop} (d s : Operand) (t t' : TypeId)
  (ho : o.op = .call { callee := .builtin .copy, args := #[d, s], argTypes := #[t, t'] }) (v u : Value) (hd : a.eval d = v) (hs : a.eval s = u) {v' : Value} {w' : World}
  (hr : (Builtin.copy_ #[t, t'] o.type #[v, u]).run P w = .ok v' w') (h : K (a.put o.dst v') w') : o.wp P a w K Q := by
 unfold Oper.wp execOp
 simp only [ho, resolve, invoke, builtin, Sem.run_bind, Sem.run_pure, Result.andThen_ok, List.map_toArray, List.map_cons, List.map_nil, hd, hs, hr]
 exact h
theorem wpList_copy_runI (w : World) {ops : Array Oper} {rest : List Oper} {o : Oper} {a : Act} {Q : Exit → Act → World → Prop} (hgd : o.guard = none) (d s : Operand) (t t' : TypeId)
  (ho : o.op = .call { callee := .builtin .copy, args := #[d, s], argTypes := #[t, t'] }) (v u : Value) (hd : a.eval d = v) (hs : a.eval s = u) {v' : Value} {w' : World}
  (hr : (Builtin.copy_ #[t, t'] o.type #[v, u]).run P w = .ok v' w') (h : wpList P ops Q rest (a.put o.dst v') w') : wpList P ops Q (o :: rest) a w :=
 wpList_plain hgd fun _ hK => wp_copy_runI w d s t t' ho v u hd hs hr (hK _ _ h)
theorem step_copy_runI {ops : Array Oper} {o : Oper} {a : Act} {w : World} {K : Act → World → Prop} {Q : Exit → Act → World → Prop} {E : Prop}
  (hg : o.guard = none) (d x : Operand) (dT sT : TypeId) (hop : o.op = Op.call { callee := Callee.builtin Builtin.copy, args := #[d, x], argTypes := #[dT, sT] })
  (v u : Value) (hd : a.eval d = v) (hx : a.eval x = u) {v' : Value} {w' : World} (hr : (Builtin.copy_ #[dT, sT] o.type #[v, u]).run P w = .ok v' w') (hK : K (a.put o.dst v') w') :
  if Region.wanted o (yielded ops a.tmps) = true then Oper.wp P o a w K Q else E := by
 have hw : Region.wanted o (yielded ops a.tmps) = true := by simp [Region.wanted, hg]
 rw [if_pos hw]
 unfold Oper.wp
 simp [execOp, hop, resolve, invoke, builtin, hd, hx, hr, Result.andThen]
 exact hK
theorem step_append_runI {ops : Array Oper} {o : Oper} {a : Act} {w : World} {K : Act → World → Prop} {Q : Exit → Act → World → Prop} {E : Prop}
  (hg : o.guard = none) (d x : Operand) (dT sT : TypeId) (hop : o.op = Op.call { callee := Callee.builtin Builtin.append, args := #[d, x], argTypes := #[dT, sT] })
  (v u : Value) (hd : a.eval d = v) (hx : a.eval x = u) {v' : Value} {w' : World} (hr : (Builtin.append_ #[dT, sT] o.type #[v, u]).run P w = .ok v' w') (hK : K (a.put o.dst v') w') :
  if Region.wanted o (yielded ops a.tmps) = true then Oper.wp P o a w K Q else E := by
 have hw : Region.wanted o (yielded ops a.tmps) = true := by simp [Region.wanted, hg]
 rw [if_pos hw]
 unfold Oper.wp
 simp [execOp, hop, resolve, invoke, builtin, hd, hx, hr, Result.andThen]
 exact hK
theorem wp_clear_runI (w : World) {o : Oper} {a : Act} {K : Act → World → Prop} {Q : Exit → Act → World → Prop} (s : Operand) (t : TypeId)
  (ho : o.op = .call { callee := .builtin .clear, args := #[s], argTypes := #[t] }) (u : Value) (hs : a.eval s = u) {v' : Value} {w' : World}
  (hr : (Builtin.clear_ #[t] o.type #[u]).run P w = .ok v' w') (h : K (a.put o.dst v') w') : o.wp P a w K Q := by
 unfold Oper.wp execOp
 simp only [ho, resolve, invoke, builtin, Sem.run_bind, Sem.run_pure, Result.andThen_ok, List.map_toArray, List.map_cons, List.map_nil, hs, hr]
 exact h
theorem wpList_clear_runI (w : World) {ops : Array Oper} {rest : List Oper} {o : Oper} {a : Act} {Q : Exit → Act → World → Prop} (hgd : o.guard = none) (s : Operand) (t : TypeId)
  (ho : o.op = .call { callee := .builtin .clear, args := #[s], argTypes := #[t] }) (u : Value) (hs : a.eval s = u) {v' : Value} {w' : World}
  (hr : (Builtin.clear_ #[t] o.type #[u]).run P w = .ok v' w') (h : wpList P ops Q rest (a.put o.dst v') w') : wpList P ops Q (o :: rest) a w :=
 wpList_plain hgd fun _ hK => wp_clear_runI w s t ho u hs hr (hK _ _ h)
end Go.Proofs.YtekgoacohhdijaaGreat
