/- Plain words for memory, over any program: how a Go value in memory reads as a Lean datum ('Rp'), what a call leaves alone ('Ext'). No condition. -/
import Derived.WalkKit
import Derived.Outline
import Derived.LoopTactic
import Derived.OwnWalk
import Derived.Below
import Derived.Lib.Hide
import Derived.Deep.QuietTactic
import Derived.BigQuiet
import Derived.Deep.AppendLies
import Derived.Maps.AppendAt
namespace Go.Proofs.YtekgoacohhdijaaGreat
open Go.RowKit
def I64 (n : Int) : Prop := -9223372036854775808 ≤ n ∧ n ≤ 9223372036854775807
theorem I64.nat {k : Nat} (h : k ≤ 1152921504606846976) : I64 (k : Int) := ⟨by omega, by omega⟩
structure Ext (B : Nat) (w : World) where
 val : World
 ok : Below B w val
def Ext.here (B : Nat) (w : World) : Ext B w := ⟨w, Below.refl _ _⟩
instance (B : Nat) (w : World) : Nonempty (Ext B w) := ⟨Ext.here B w⟩
theorem Ext.cell {B : Nat} {w : World} (x : Ext B w) {p : Addr} (h : p.block < B) : x.val.cell? p = w.cell? p := x.ok.cell h
theorem Ext.size {B : Nat} {w : World} (x : Ext B w) : w.heap.size ≤ x.val.heap.size := x.ok.size
theorem Ext.of {B : Nat} {w w' : World} (h : Below B w w') : ∃ x : Ext B w, w' = x.val := ⟨⟨w', h⟩, rfl⟩
theorem Ext.step {B : Nat} {w w' : World} (x : Ext B w) (h : Below B x.val w') : ∃ y : Ext B w, w' = y.val := ⟨⟨w', x.ok.trans h⟩, rfl⟩
theorem Ext.alloc {B : Nat} {w : World} (x : Ext B w) (h : B ≤ x.val.heap.size) (o : Obj) : ∃ y : Ext B w, x.val.alloc o = y.val := ⟨⟨_, x.ok.alloc h o⟩, rfl⟩
theorem wp_region_ext {P : Program} {id : Nat} {Q : Exit → Act → World → Prop} {a : Act} {w : World} {l : List Oper} (B : Nat) (hm : P.follows .mixedOrders = true) (hB : Region.lexB .any l.toArray = true)
  (h : wpQuiet P l.toArray (fun w' => ∃ x : Ext B w, w' = x.val) (fun a' => ∀ w', (∃ x : Ext B w, w' = x.val) → Q .normal a' w') l a) : (Code.region id l.toArray true).wp P Q a w :=
 wp_region_quiet (C := fun w' => ∃ x : Ext B w, w' = x.val) hm hB ⟨⟨_, (Below.refl B w).drew⟩, rfl⟩ (by simpa using h)
theorem Calls.ext {P : Program} {f : FuncId} {args : Array Value} {B : Nat} {w : World} (x : Ext B w) {v : Value} (hB : B ≤ w.heap.size)
  (h : Calls P f args x.val fun e w' => e = .returned v ∧ Below x.val.heap.size x.val w') : Calls P f args x.val fun e w'' => e = .returned v ∧ ∃ y : Ext B w, w'' = y.val :=
 h.mono fun _ _ ⟨he, hb⟩ => ⟨he, x.step (hb.mono (Nat.le_trans hB x.size))⟩
theorem Calls.ext0 {P : Program} {f : FuncId} {args : Array Value} {B : Nat} {w : World} (x : Ext B w) {v : Value}
  (h : Calls P f args x.val fun e w' => e = .returned v ∧ x.val = w') : Calls P f args x.val fun e w'' => e = .returned v ∧ ∃ y : Ext B w, w'' = y.val :=
 h.mono fun _ _ ⟨he, hb⟩ => ⟨he, x, hb.symm⟩
def allTo (f : Nat → Bool) : Nat → Bool
 | 0 => true
 | k + 1 => allTo f k && f k
theorem allTo_false {f : Nat → Bool} {k n : Nat} (h : k < n) (hf : f k = false) : allTo f n = false := by
 induction n with
 | zero => omega
 | succ n ih =>
  rw [allTo]
  by_cases hk : k = n
  ·subst hk; rw [hf]; simp
  ·rw [ih (by omega)]; rfl
theorem heap_lt {w : World} {b : Nat} {o : Obj} (h : w.heap[b]? = some o) : b < w.heap.size := by
 rcases Nat.lt_or_ge b w.heap.size with h' | h'
 ·exact h'
 ·rw [Array.getElem?_eq_none h'] at h; cases h
structure Rp (α : Type) where
 ty : TypeId
 size : Nat
 agg : Bool
 rd : World → Nat → List Value → α → Prop
 ow : World → List Value → α → List Nat → Prop
 rd_len : ∀ {w B cs a}, rd w B cs a → cs.length = size
 rd_one : ∀ {w B cs a}, rd w B cs a → ∀ u ∈ cs, u.oneCell' = true
 rd_keep : ∀ {w w' B cs a}, rd w B cs a → (∀ p : Addr, p.block < B → w'.cell? p = w.cell? p) → rd w' B cs a
 rd_more : ∀ {w B B' cs a}, rd w B cs a → B ≤ B' → rd w B' cs a
 ow_keep : ∀ {w w' cs a F}, ow w cs a F → (∀ b ∈ F, w'.heap[b]? = w.heap[b]?) → ow w' cs a F
 ow_lt : ∀ {w cs a F}, ow w cs a F → ∀ b ∈ F, b < w.heap.size
 ow_rd : ∀ {w B cs a F}, ow w cs a F → (∀ b ∈ F, b < B) → rd w B cs a
def Rp.val {α : Type} (R : Rp α) (cs : List Value) : Value := if R.agg then .agg cs.toArray else cs.headD undef
section
variable {α : Type} (R : Rp α) {w w' : World} {B : Nat} {cs : List Value} {a : α} {F : List Nat}
theorem Rp.rd_ext {R : Rp α} (h : R.rd w B cs a) (x : Ext B w) : R.rd x.val B cs a := R.rd_keep h fun _ hp => x.cell hp
theorem Rp.rd_below {R : Rp α} {B' : Nat} (h : R.rd w B cs a) (x : Below B' w w') (hB : B ≤ B') : R.rd w' B cs a := R.rd_keep h fun _ hp => x.cell (by omega)
theorem Rp.ow_below {R : Rp α} (h : R.ow w cs a F) (x : Below w.heap.size w w') : R.ow w' cs a F := R.ow_keep h fun b hb => x.block b (R.ow_lt h b hb)
theorem Rp.ow_len {R : Rp α} (h : R.ow w cs a F) : cs.length = R.size := R.rd_len (R.ow_rd (B := w.heap.size) h (R.ow_lt h))
theorem Rp.ow_one {R : Rp α} (h : R.ow w cs a F) : ∀ u ∈ cs, u.oneCell' = true := R.rd_one (R.ow_rd (B := w.heap.size) h (R.ow_lt h))
end
def Rp.int (t : TypeId) : Rp Int where
 ty := t
 size := 1
 agg := false
 rd _ _ cs n := cs = [.int .i64 n] ∧ I64 n
 ow _ cs n F := cs = [.int .i64 n] ∧ I64 n ∧ F = []
 rd_len h := by rw [h.1]; rfl
 rd_one h := by rw [h.1]; simp [Value.oneCell']
 rd_keep h _ := h
 rd_more h _ := h
 ow_keep h _ := h
 ow_lt h := by rw [h.2.2]; simp
 ow_rd h _ := ⟨h.1, h.2.1⟩
def Rp.bool (t : TypeId) : Rp Bool where
 ty := t
 size := 1
 agg := false
 rd _ _ cs n := cs = [.bool n]
 ow _ cs n F := cs = [.bool n] ∧ F = []
 rd_len h := by rw [h]; rfl
 rd_one h := by rw [h]; simp [Value.oneCell']
 rd_keep h _ := h
 rd_more h _ := h
 ow_keep h _ := h
 ow_lt h := by rw [h.2]; simp
 ow_rd h _ := h.1
def Rp.pair {α β : Type} (t : TypeId) (R : Rp α) (S : Rp β) : Rp (α × β) where
 ty := t
 size := R.size + S.size
 agg := true
 rd w B cs x := ∃ c d, cs = c ++ d ∧ R.rd w B c x.1 ∧ S.rd w B d x.2
 ow w cs x F := ∃ c d G H, cs = c ++ d ∧ F = G ++ H ∧ R.ow w c x.1 G ∧ S.ow w d x.2 H
 rd_len := by rintro _ _ _ _ ⟨c, d, rfl, h, k⟩; rw [List.length_append, R.rd_len h, S.rd_len k]
 rd_one := by
  rintro _ _ _ _ ⟨c, d, rfl, h, k⟩ u hu
  rcases List.mem_append.1 hu with hu | hu
  ·exact R.rd_one h u hu
  ·exact S.rd_one k u hu
 rd_keep := by rintro _ _ _ _ _ ⟨c, d, rfl, h, k⟩ e; exact ⟨c, d, rfl, R.rd_keep h e, S.rd_keep k e⟩
 rd_more := by rintro _ _ _ _ _ ⟨c, d, rfl, h, k⟩ e; exact ⟨c, d, rfl, R.rd_more h e, S.rd_more k e⟩
 ow_keep := by
  rintro _ _ _ _ _ ⟨c, d, G, H, rfl, rfl, h, k⟩ e
  exact ⟨c, d, G, H, rfl, rfl, R.ow_keep h fun b hb => e b (List.mem_append.2 (.inl hb)), S.ow_keep k fun b hb => e b (List.mem_append.2 (.inr hb))⟩
 ow_lt := by
  rintro _ _ _ _ ⟨c, d, G, H, rfl, rfl, h, k⟩ b hb
  rcases List.mem_append.1 hb with hb | hb
  ·exact R.ow_lt h b hb
  ·exact S.ow_lt k b hb
 ow_rd := by
  rintro _ _ _ _ _ ⟨c, d, G, H, rfl, rfl, h, k⟩ e
  exact ⟨c, d, rfl, R.ow_rd h fun b hb => e b (List.mem_append.2 (.inl hb)), S.ow_rd k fun b hb => e b (List.mem_append.2 (.inr hb))⟩
def Rp.as {α β : Type} (t : TypeId) (ag : Bool) (R : Rp α) (f : β → α) : Rp β where
 ty := t
 size := R.size
 agg := ag
 rd w B cs x := R.rd w B cs (f x)
 ow w cs x F := R.ow w cs (f x) F
 rd_len := R.rd_len
 rd_one := R.rd_one
 rd_keep := R.rd_keep
 rd_more := R.rd_more
 ow_keep := R.ow_keep
 ow_lt := R.ow_lt
 ow_rd := R.ow_rd
def Rds {α : Type} (R : Rp α) (w : World) (B : Nat) : List (List Value) → List α → Prop
 | [], [] => True
 | c :: cs, x :: xs => R.rd w B c x ∧ Rds R w B cs xs
 | _, _ => False
def Ows {α : Type} (R : Rp α) (w : World) : List (List Value) → List α → List (List Nat) → Prop
 | [], [], [] => True
 | c :: cs, x :: xs, F :: Fs => R.ow w c x F ∧ Ows R w cs xs Fs
 | _, _, _ => False
section
variable {α : Type} {R : Rp α} {w w' : World} {B : Nat}
theorem Rds.len : ∀ {vs : List (List Value)} {xs : List α}, Rds R w B vs xs → vs.length = xs.length
 | [], [], _ => rfl
 | _ :: _, _ :: _, h => by simp [Rds.len h.2]
theorem Rds.at_ : ∀ {vs : List (List Value)} {xs : List α} {i : Nat} (h : i < xs.length), Rds R w B vs xs → ∃ c, vs[i]? = some c ∧ R.rd w B c xs[i]
 | [], [], _, h, _ => absurd h (by simp)
 | c :: _, _ :: _, 0, _, h => ⟨c, rfl, h.1⟩
 | _ :: _, _ :: _, i + 1, hi, h => by
  obtain ⟨c, hc, hr⟩ := Rds.at_ (i := i) (by simpa using hi) h.2
  exact ⟨c, by simpa using hc, by simpa using hr⟩
theorem Rds.imp : ∀ {B' : Nat} {vs : List (List Value)} {xs : List α}, (∀ c x, R.rd w B c x → R.rd w' B' c x) → Rds R w B vs xs → Rds R w' B' vs xs
 | _, [], [], _, _ => trivial
 | _, _ :: _, _ :: _, f, h => ⟨f _ _ h.1, h.2.imp f⟩
theorem Rds.one : ∀ {vs : List (List Value)} {xs : List α}, Rds R w B vs xs → ∀ u ∈ vs.flatten, u.oneCell' = true
 | [], [], _, u, hu => by simp at hu
 | _ :: _, _ :: _, h, u, hu => by
  rcases List.mem_append.1 hu with hu | hu
  ·exact R.rd_one h.1 u hu
  ·exact h.2.one u hu
theorem Rds.flat_len : ∀ {vs : List (List Value)} {xs : List α}, Rds R w B vs xs → vs.flatten.length = xs.length * R.size
 | [], [], _ => by simp
 | _ :: _, _ :: _, h => by simp only [List.flatten_cons, List.length_append, List.length_cons, h.2.flat_len, R.rd_len h.1, Nat.add_mul]; omega
theorem Rds.flat_at : ∀ {vs : List (List Value)} {xs : List α} {i j : Nat} {c : List Value} {u : Value}, Rds R w B vs xs → vs[i]? = some c → c[j]? = some u → vs.flatten[i * R.size + j]? = some u
 | [], [], _, _, _, _, _, h, _ => by simp at h
 | c :: _, _ :: _, 0, j, _, u, h, hc, hj => by
  simp only [List.length_cons, Nat.zero_lt_succ, List.getElem?_eq_getElem, List.getElem_cons_zero, Option.some.injEq] at hc
  subst hc
  have : j < c.length := by rcases Nat.lt_or_ge j c.length with h' | h'; exact h'; rw [List.getElem?_eq_none h'] at hj; cases hj
  rw [List.flatten_cons, List.getElem?_append_left (by omega)]
  simpa using hj
 | c :: vs, _ :: _, i + 1, j, _, u, h, hc, hj => by
  have h1 := Rds.flat_at (i := i) h.2 (by simpa using hc) hj
  have hl := R.rd_len h.1
  rw [List.flatten_cons, List.getElem?_append_right (by rw [hl, Nat.add_mul]; omega), ← h1]
  congr 1
  rw [hl, Nat.add_mul]
  omega
theorem Rds.snoc : ∀ {vs : List (List Value)} {xs : List α} {c : List Value} {x : α}, Rds R w B vs xs → R.rd w B c x → Rds R w B (vs ++ [c]) (xs ++ [x])
 | [], [], _, _, _, k => ⟨k, trivial⟩
 | _ :: _, _ :: _, _, _, h, k => ⟨h.1, h.2.snoc k⟩
theorem Ows.len : ∀ {vs : List (List Value)} {xs : List α} {Fs : List (List Nat)}, Ows R w vs xs Fs → vs.length = xs.length ∧ Fs.length = xs.length
 | [], [], [], _ => ⟨rfl, rfl⟩
 | _ :: _, _ :: _, _ :: _, h => by have := Ows.len h.2; simp [this.1, this.2]
theorem Ows.keep : ∀ {vs : List (List Value)} {xs : List α} {Fs : List (List Nat)}, Ows R w vs xs Fs → (∀ b ∈ Fs.flatten, w'.heap[b]? = w.heap[b]?) → Ows R w' vs xs Fs
 | [], [], [], _, _ => trivial
 | _ :: _, _ :: _, _ :: _, h, e => ⟨R.ow_keep h.1 fun b hb => e b (List.mem_append.2 (.inl hb)), h.2.keep fun b hb => e b (List.mem_append.2 (.inr hb))⟩
theorem Ows.lt : ∀ {vs : List (List Value)} {xs : List α} {Fs : List (List Nat)}, Ows R w vs xs Fs → ∀ b ∈ Fs.flatten, b < w.heap.size
 | [], [], [], _, b, hb => by simp at hb
 | _ :: _, _ :: _, _ :: _, h, b, hb => by
  rcases List.mem_append.1 hb with hb | hb
  ·exact R.ow_lt h.1 b hb
  ·exact h.2.lt b hb
theorem Ows.rds : ∀ {vs : List (List Value)} {xs : List α} {Fs : List (List Nat)}, Ows R w vs xs Fs → (∀ b ∈ Fs.flatten, b < B) → Rds R w B vs xs
 | [], [], [], _, _ => trivial
 | _ :: _, _ :: _, _ :: _, h, e => ⟨R.ow_rd h.1 fun b hb => e b (List.mem_append.2 (.inl hb)), h.2.rds fun b hb => e b (List.mem_append.2 (.inr hb))⟩
theorem Ows.snoc : ∀ {vs : List (List Value)} {xs : List α} {Fs : List (List Nat)} {c : List Value} {x : α} {F : List Nat}, Ows R w vs xs Fs → R.ow w c x F → Ows R w (vs ++ [c]) (xs ++ [x]) (Fs ++ [F])
 | [], [], [], _, _, _, _, k => ⟨k, trivial⟩
 | _ :: _, _ :: _, _ :: _, _, _, _, h, k => ⟨h.1, h.2.snoc k⟩
end
def Value.blk (v : Value) : List Nat := v.ownBlock.toList
def Rp.slice {α : Type} (t : TypeId) (R : Rp α) : Rp (List α) where
 ty := t
 size := 1
 agg := false
 rd w B cs xs := ∃ A c vs, cs = [.slice A xs.length c] ∧ xs.length ≤ c ∧ c ≤ maxLen ∧ Rds R w B vs xs ∧
  (0 < xs.length → ∃ b off, A = some ⟨b, off, none⟩ ∧ b < B ∧ ∀ j u, vs.flatten[j]? = some u → w.cell? ⟨b, off + j, none⟩ = some u)
 ow w cs xs F := ∃ v vs Fs, cs = [v] ∧ w.ownsRow 0 R.ty R.size v xs.length vs.flatten ∧ Ows R w vs xs Fs ∧ F = Value.blk v ++ Fs.flatten
 rd_len := by rintro _ _ _ _ ⟨A, c, vs, rfl, _⟩; rfl
 rd_one := by rintro _ _ _ _ ⟨A, c, vs, rfl, _⟩; simp [Value.oneCell']
 rd_keep := by
  rintro _ _ _ _ _ ⟨A, c, vs, rfl, h1, h2, h3, h4⟩ e
  refine ⟨A, c, vs, rfl, h1, h2, h3.imp fun c x h => R.rd_keep h e, fun hn => ?_⟩
  obtain ⟨b, off, hA, hb, hc⟩ := h4 hn
  exact ⟨b, off, hA, hb, fun j u hu => (e _ hb).trans (hc j u hu)⟩
 rd_more := by
  rintro _ _ _ _ _ ⟨A, c, vs, rfl, h1, h2, h3, h4⟩ e
  refine ⟨A, c, vs, rfl, h1, h2, h3.imp fun c x h => R.rd_more h e, fun hn => ?_⟩
  obtain ⟨b, off, hA, hb, hc⟩ := h4 hn
  exact ⟨b, off, hA, by omega, hc⟩
 ow_keep := by
  rintro w w' _ _ _ ⟨v, vs, Fs, rfl, h1, h2, rfl⟩ e
  refine ⟨v, vs, Fs, rfl, ⟨h1.1, ?_⟩, h2.keep fun b hb => e b (List.mem_append.2 (.inr hb)), rfl⟩
  rcases h1.2 with h | ⟨g, cap, cur, hv, hb, hg, h⟩
  ·exact .inl h
  ·exact .inr ⟨g, cap, cur, hv, hb, by rw [e g (List.mem_append.2 (.inl (by rw [hv]; simp [Value.blk, Value.ownBlock])))]; exact hg, h⟩
 ow_lt := by
  rintro w _ _ _ ⟨v, vs, Fs, rfl, h1, h2, rfl⟩ b hb
  rcases List.mem_append.1 hb with hb | hb
  ·rcases h1.2 with ⟨rfl, _⟩ | ⟨g, cap, cur, rfl, _, hg, h⟩
   ·simp [Value.blk, Value.ownBlock] at hb
   ·simp only [Value.blk, Value.ownBlock, Option.toList_some, List.mem_singleton] at hb
    subst hb
    exact heap_lt hg
  ·exact h2.lt b hb
 ow_rd := by
  rintro w B _ xs _ ⟨v, vs, Fs, rfl, h1, h2, rfl⟩ e
  have h3 := h2.rds (B := B) fun b hb => e b (List.mem_append.2 (.inr hb))
  rcases h1.2 with ⟨rfl, hn⟩ | ⟨g, cap, cur, rfl, _, hg, hnc, hcm, hcs, ht⟩
  ·exact ⟨none, 0, vs, by rw [hn], by omega, by simp [maxLen], h3, fun h => by omega⟩
  ·refine ⟨_, cap, vs, rfl, hnc, hcm, h3, fun _ => ⟨g, 0, rfl, e g (List.mem_append.2 (.inl (by simp [Value.blk, Value.ownBlock]))), fun j u hu => ?_⟩⟩
   rw [← ht] at hu
   rw [Nat.zero_add, cell_of_row w g j cur _ (0, 0) hg]
   rw [List.getElem?_take] at hu
   split at hu
   ·simpa using hu
   ·cases hu
section
variable {α : Type} {R : Rp α} {t : TypeId} {w w' : World} {B : Nat} {v : Value} {xs : List α} {F : List Nat}
theorem rd_slice (h : (Rp.slice t R).rd w B [v] xs) : ∃ A c, v = .slice A xs.length c ∧ xs.length ≤ c ∧ c ≤ maxLen := by
 obtain ⟨A, c, vs, e, h1, h2, _⟩ := h
 exact ⟨A, c, by simpa using e, h1, h2⟩
theorem rd_elem {A : Option Addr} {n c : Nat} (h : (Rp.slice t R).rd w B [.slice A n c] xs) {i : Nat} (hi : i < xs.length) :
  ∃ b off cs, A = some ⟨b, off, none⟩ ∧ b < B ∧ R.rd w B cs xs[i] ∧ ∀ j u, cs[j]? = some u → w.cell? ⟨b, off + i * R.size + j, none⟩ = some u := by
 obtain ⟨A', c', vs, e, h1, h2, h3, h4⟩ := h
 obtain ⟨b, off, rfl, hb, hc⟩ := h4 (by omega)
 obtain ⟨cs, hcs, hr⟩ := h3.at_ hi
 have e' := congrArg (fun l => l.headD undef) e
 simp only [List.headD_cons, Value.slice.injEq] at e'
 refine ⟨b, off, cs, e'.1, hb, hr, fun j u hu => ?_⟩
 rw [Nat.add_assoc]
 exact hc _ u (h3.flat_at hcs hu)
end
def SameBut (F : List Nat) (w w' : World) : Prop := w'.os = w.os ∧ w'.tape = w.tape ∧ w'.output = w.output ∧ w.heap.size ≤ w'.heap.size ∧ ∀ b, b < w.heap.size → b ∉ F → w'.heap[b]? = w.heap[b]?
theorem SameBut.refl (F : List Nat) (w : World) : SameBut F w w := ⟨rfl, rfl, rfl, Nat.le_refl _, fun _ _ _ => rfl⟩
theorem SameBut.trans {F : List Nat} {a b c : World} (h : SameBut F a b) (k : SameBut F b c) : SameBut F a c :=
 ⟨k.1.trans h.1, k.2.1.trans h.2.1, k.2.2.1.trans h.2.2.1, Nat.le_trans h.2.2.2.1 k.2.2.2.1, fun x hx hF => (k.2.2.2.2 x (Nat.lt_of_lt_of_le hx h.2.2.2.1) hF).trans (h.2.2.2.2 x hx hF)⟩
theorem SameBut.more {F G : List Nat} {a b : World} (h : SameBut F a b) (k : ∀ x ∈ F, x ∈ G) : SameBut G a b :=
 ⟨h.1, h.2.1, h.2.2.1, h.2.2.2.1, fun x hx hG => h.2.2.2.2 x hx fun hF => hG (k x hF)⟩
theorem SameBut.setCell {F : List Nat} {a w : World} (h : SameBut F a w) {p : Addr} (hp : p.block ∈ F) (u : Value) : SameBut F a (w.setCell p u) :=
 ⟨h.1, h.2.1, h.2.2.1, by simpa using h.2.2.2.1, fun x hx hF => (Below.heap_setCell w p u x (fun e => hF (by rw [e]; exact hp))).trans (h.2.2.2.2 x hx hF)⟩
theorem SameBut.below {F : List Nat} {B : Nat} {a w : World} (h : SameBut F a w) (hB : B ≤ a.heap.size) (hF : ∀ b ∈ F, B ≤ b) : Below B a w :=
 ⟨h.1, h.2.1, h.2.2.1, h.2.2.2.1, fun x hx => h.2.2.2.2 x (by omega) fun hm => by have := hF x hm; omega⟩
theorem SameBut.of_below {F : List Nat} {a w : World} (h : Below a.heap.size a w) : SameBut F a w :=
 ⟨h.os, h.tape, h.output, h.size, fun x hx _ => h.block x hx⟩
theorem SameBut.size {F : List Nat} {a w : World} (h : SameBut F a w) : a.heap.size ≤ w.heap.size := h.2.2.2.1
def Own {α : Type} (R : Rp α) (B : Nat) (w : World) (cs : List Value) (a : α) (F : List Nat) : Prop := R.ow w cs a F ∧ F.Nodup ∧ ∀ b ∈ F, B ≤ b
def Ret {α : Type} (R : Rp α) (w : World) (r : α) (e : Ending) (w' : World) : Prop :=
 ∃ cs F, e = .returned (R.val cs) ∧ Own R w.heap.size w' cs r F ∧ Below w.heap.size w w'
section
variable {α : Type} {R : Rp α} {B : Nat} {w w' : World} {cs : List Value} {a : α} {F G : List Nat}
theorem Own.rd (h : Own R B w cs a F) : R.rd w w.heap.size cs a := R.ow_rd h.1 (R.ow_lt h.1)
theorem Own.lt (h : Own R B w cs a F) : ∀ b ∈ F, b < w.heap.size := R.ow_lt h.1
theorem Own.below (h : Own R B w cs a F) (x : Below w.heap.size w w') : Own R B w' cs a F := ⟨R.ow_below h.1 x, h.2⟩
theorem Own.drop {B' : Nat} (h : Own R B w cs a F) (hB : B' ≤ B) : Own R B' w cs a F := ⟨h.1, h.2.1, fun b hb => Nat.le_trans hB (h.2.2 b hb)⟩
theorem Own.same (h : Own R B w cs a F) (x : SameBut G w w') (hd : ∀ b ∈ F, b ∉ G) : Own R B w' cs a F := ⟨R.ow_keep h.1 fun b hb => x.2.2.2.2 b (R.ow_lt h.1 b hb) (hd b hb), h.2⟩
theorem Own.keep (h : Own R B w cs a F) (x : ∀ b ∈ F, w'.heap[b]? = w.heap[b]?) : Own R B w' cs a F := ⟨R.ow_keep h.1 x, h.2⟩
theorem Own.far (h : Own R B w cs a F) {p : Addr} (hp : p.block ∉ F) (u : Value) : Own R B (w.setCell p u) cs a F :=
 ⟨R.ow_keep h.1 fun b hb => Below.heap_setCell w p u b (fun e => hp (e ▸ hb)), h.2⟩
theorem Own.alloc (h : Own R B w cs a F) (o : Obj) : Own R B (w.alloc o) cs a F :=
 ⟨R.ow_keep h.1 fun b hb => Below.heap_alloc w o b (R.ow_lt h.1 b hb), h.2⟩
theorem Own.apart {B' : Nat} (h : ∀ b ∈ F, b < B') (k : ∀ b ∈ G, B' ≤ b) : ∀ b ∈ F, b ∉ G := fun b hb hg => by have := h b hb; have := k b hg; omega
theorem Own.apart' {B' : Nat} (h : ∀ b ∈ F, b < B') (k : ∀ b ∈ G, B' ≤ b) : ∀ b ∈ G, b ∉ F := fun b hb hg => by have := h b hg; have := k b hb; omega
end
structure Elem (P : Program) (t e : TypeId) (zs : List Value) (bytes : Nat) : Prop where
 under : P.underlying t = some (.slice e)
 info : ∃ i z, P.info? e = some i ∧ i.zero = some z ∧ i.size = zs.length ∧ i.bytes = bytes ∧ z.cells = zs.toArray
 pos : 0 < zs.length
 pos' : 0 < bytes
theorem Elem.of {P : Program} {t e : TypeId} {zs : List Value} {bytes : Nat} (z : Value) (h : P.underlying t = some (.slice e))
  (h1 : (P.info? e).map (fun i => (i.zero, i.size, i.bytes)) = some (some z, zs.length, bytes)) (h2 : z.cells = zs.toArray) (h3 : 0 < zs.length) (h4 : 0 < bytes) : Elem P t e zs bytes := by
 obtain ⟨i, hi, a, b, c⟩ := info_parts h1
 exact ⟨h, ⟨i, z, hi, a, b, c, h2⟩, h3, h4⟩
theorem made_flat (zs : List Value) (n : Nat) (h : 0 < zs.length) : (madeCells zs.toArray (n * zs.length)).toList = (List.replicate n zs).flatten := by
 apply List.ext_getElem?
 intro j
 simp only [madeCells, List.size_toArray, Array.toList_map, Array.toList_range, List.getElem?_map]
 have key : ∀ m, (List.replicate m zs).flatten[j]? = if j < m * zs.length then zs[j % zs.length]? else none := by
  intro m
  induction m generalizing j with
  | zero => simp
  | succ m ih =>
   rw [List.replicate_succ, List.flatten_cons]
   rcases Nat.lt_or_ge j zs.length with hj | hj
   ·rw [List.getElem?_append_left hj, Nat.mod_eq_of_lt hj, if_pos (by rw [Nat.add_mul]; omega)]
   ·rw [List.getElem?_append_right hj, ih, ← Nat.mod_eq_sub_mod hj]
    by_cases hlt : j < (m + 1) * zs.length
    ·rw [if_pos hlt, if_pos (by rw [Nat.add_mul] at hlt; omega)]
    ·rw [if_neg hlt, if_neg (by rw [Nat.add_mul] at hlt; omega)]
 rw [key]
 by_cases hj : j < n * zs.length
 ·have hm := Nat.mod_lt j h
  rw [if_pos hj, List.getElem?_range hj]
  simp [List.getElem?_eq_getElem hm, Option.map]
 ·rw [if_neg hj, List.getElem?_eq_none (by simpa using hj)]
  rfl
theorem blk_none : Value.blk (.slice none 0 0) = [] := rfl
theorem blk_nodup (v : Value) : (Value.blk v).Nodup := by unfold Value.blk; cases v.ownBlock <;> simp
theorem own_zero {w : World} {base : Nat} {e : TypeId} {size : Nat} {v : Value} {n : Nat} {xs : List Value} (h : w.ownsRow base e size v n xs) : w.ownsRow 0 e size v n xs := by
 refine ⟨h.1, ?_⟩
 rcases h.2 with h | ⟨g, cap, cur, h1, _, h3⟩
 ·exact .inl h
 ·exact .inr ⟨g, cap, cur, h1, Nat.zero_le _, h3⟩
theorem own_ge {w : World} {base : Nat} {e : TypeId} {size : Nat} {v : Value} {n : Nat} {xs : List Value} (h : w.ownsRow base e size v n xs) : ∀ b ∈ Value.blk v, base ≤ b := by
 intro b hb
 exact (h.lt b (by simpa [Value.blk] using hb)).1
theorem own_base {w : World} {base B : Nat} {e : TypeId} {size : Nat} {v : Value} {n : Nat} {xs : List Value} (h : w.ownsRow base e size v n xs) (hB : ∀ b ∈ Value.blk v, B ≤ b) : w.ownsRow B e size v n xs := by
 refine ⟨h.1, ?_⟩
 rcases h.2 with h | ⟨g, cap, cur, rfl, _, h3⟩
 ·exact .inl h
 ·exact .inr ⟨g, cap, cur, rfl, hB g (by simp [Value.blk, Value.ownBlock]), h3⟩
section
variable {P : Program} {t e : TypeId} {zs : List Value} {bytes : Nat} {ops : Array Oper} {rest : List Oper} {o : Oper} {a : Act} {Q : Exit → Act → World → Prop}
theorem wpList_mk (w : World) (E : Elem P t e zs bytes) (hg : o.guard = none) (l c : Operand) (hop : o.op = Op.makeSlice t l c) (n : Nat) (B : Nat) (hl : a.eval l = .int .i64 (n : Int)) (hc : a.eval c = .int .i64 (n : Int))
  (hn : n * bytes ≤ 140737488355328) (hB : B ≤ w.heap.size)
  (hK : ∀ w', w'.ownsRow B e zs.length (.slice (some ⟨w.heap.size, 0, none⟩) n n) n (List.replicate n zs).flatten → Below w.heap.size w w' → wpList P ops Q rest (a.put o.dst (.slice (some ⟨w.heap.size, 0, none⟩) n n)) w') :
  wpList P ops Q (o :: rest) a w := by
 obtain ⟨i, z, h2, h3, h4, h5, h6⟩ := E.info
 have hle : n ≤ n * bytes := Nat.le_mul_of_pos_right n E.pos'
 refine wpList_plain hg fun K hK' => ?_
 have h63 : n ≤ maxLen := by simp only [maxLen]; omega
 have hby : i.bytes * n ≤ 281474976710656 := by rw [h5, Nat.mul_comm]; omega
 obtain ⟨w', hrun, r1, r2⟩ := run_make_full (P := P) w B t e i z zs.length E.under h2 h3 h4 .i64 .i64 n hby h63 hB
 unfold Oper.wp
 simp [execOp, hop, hl, hc, hrun, Result.andThen]
 rw [h6, made_flat _ _ E.pos] at r1
 exact hK' _ _ (hK w' r1 ((Below.refl _ _).grown r2 (Nat.le_refl _) (by simp)))
theorem cells_of_new (w : World) (cs : List Value) (e : TypeId) : ∀ j u, cs[j]? = some u → (w.alloc (.cells cs.toArray e)).cell? ((⟨w.heap.size, 0, none⟩ : Addr).add j) = some u := by
 intro j u hu
 have : ((⟨w.heap.size, 0, none⟩ : Addr).add j) = ⟨w.heap.size, j, none⟩ := by
  unfold Addr.add
  split
  ·rename_i h; rw [h]
  ·simp
 rw [this, cell_of_row (w.alloc (.cells cs.toArray e)) w.heap.size j cs.toArray e (0, 0) (heap_alloc_new w _)]
 simpa using hu
theorem wpList_push (w0 wr : World) (E : Elem P t e zs bytes) (hgd : o.guard = none) (s x : Operand) (ho : o.op = .call { callee := .builtin .append, args := #[s, x], argTypes := #[t, t] })
  (B : Nat) (v : Value) (n : Nat) (xs : List Value) (hs : a.eval s = v) (hown : wr.ownsRow B e zs.length v n xs) (cs : List Value) (hx : a.eval x = .slice (some ⟨wr.heap.size, 0, none⟩) 1 1)
  (hl : cs.length = zs.length) (h1 : ∀ u ∈ cs, u.oneCell' = true) (hn : (n + 1) * bytes ≤ 140737488355328) (hb : Below B w0 wr) (hB : B ≤ w0.heap.size)
  (h : ∀ v' w', w'.ownsRow B e zs.length v' (n + 1) (xs ++ cs) → Below B w0 w' → SameBut (Value.blk v) wr w' → (∀ b ∈ Value.blk v', b ∈ Value.blk v ∨ wr.heap.size ≤ b) → wpList P ops Q rest (a.put o.dst v') w') :
  wpList P ops Q (o :: rest) a (wr.alloc (.cells cs.toArray e)) := by
 obtain ⟨i, z, h2, h3, h4, h5, h6⟩ := E.info
 have hle : n + 1 ≤ (n + 1) * bytes := Nat.le_mul_of_pos_right _ E.pos'
 refine wpList_plain hgd fun K hK' => ?_
 have hB' : B ≤ (wr.alloc (.cells cs.toArray e)).heap.size := by have := hb.size; simp; omega
 obtain ⟨v', w', hrun, k2, k3, _, k5⟩ := run_append_own_at (P := P) (w := wr.alloc (.cells cs.toArray e)) B t o.type e i z zs.length bytes E.under h2 h3 h4 h5 (by rw [h6]; simp) E.pos v n xs (hown.alloc _) ⟨wr.heap.size, 0, none⟩ 1 1 cs
  (by omega) (cells_of_new wr cs e) h1 (by simp only [maxLen]; omega) hn hB'
 unfold Oper.wp execOp
 simp only [ho, resolve, invoke, builtin, Sem.run_bind, Sem.run_pure, Result.andThen_ok, List.map_toArray, List.map_cons, List.map_nil, hs, hx, hrun]
 refine hK' _ _ (h v' w' k2 ((hb.alloc (by have := hb.size; omega) _).grown k3 hB' (fun k hk => (hown.lt k hk).1)) ⟨k3.os, k3.tape, k3.output, ?_, ?_⟩ ?_)
 ·have := k3.size; simp at this; omega
 ·intro b hb' hF
  rw [k3.block b (by simp; omega) (fun e => hF (by simp [Value.blk, ← e])), Below.heap_alloc _ _ _ hb']
 ·intro b hb'
  rcases k5 with k5 | k5
  ·left; simpa [Value.blk, k5] using hb'
  ·right; simp [Value.blk, k5] at hb'; omega
theorem wpList_appendAll {α : Type} {R : Rp α} {tt : TypeId} (w0 wr : World) (E : Elem P t e zs bytes) (hgd : o.guard = none) (s x : Operand) (ho : o.op = .call { callee := .builtin .append, args := #[s, x], argTypes := #[t, t] })
  (B : Nat) (v : Value) (n : Nat) (xs : List Value) (hs : a.eval s = v) (hown : wr.ownsRow B e zs.length v n xs) (B' : Nat) (u : Value) (ys : List α) (hx : a.eval x = u) (hu : (Rp.slice tt R).rd wr B' [u] ys) (hR : R.size = zs.length)
  (hn : (n + ys.length) * bytes ≤ 140737488355328) (hb : Below B w0 wr) (hB : B ≤ w0.heap.size)
  (h : ∀ v' w' vs, Rds R wr B' vs ys → w'.ownsRow B e zs.length v' (n + ys.length) (xs ++ vs.flatten) → Below B w0 w' → SameBut (Value.blk v) wr w' → (∀ b ∈ Value.blk v', b ∈ Value.blk v ∨ wr.heap.size ≤ b) → wpList P ops Q rest (a.put o.dst v') w') :
  wpList P ops Q (o :: rest) a wr := by
 obtain ⟨i, z, h2, h3, h4, h5, h6⟩ := E.info
 obtain ⟨A, c, vs, e1, hc1, hc2, hvs, hcell⟩ := hu
 simp only [List.cons.injEq, and_true] at e1
 subst e1
 refine wpList_plain hgd fun K hK' => ?_
 by_cases h0 : ys.length = 0
 ·have hy : ys = [] := List.eq_nil_of_length_eq_zero h0
  subst hy
  have hv : vs = [] := by cases vs with | nil => rfl | cons _ _ => exact hvs.elim
  subst hv
  have hrun : ∃ v', (Builtin.append_ #[t, t] o.type #[v, .slice A 0 c]).run P wr = .ok v' wr ∧ v' = v := by
   rcases hown.2 with ⟨rfl, rfl⟩ | ⟨g, cap, cur, rfl, _, _, hnc, _⟩
   ·rcases A with _ | ad
    ·exact ⟨_, by simp [Builtin.append_, run_underlying E.under, sizeOf, typeInfo, h2, Builtin.lenOf, Builtin.firstCells], rfl⟩
    ·exact ⟨_, by simp [Builtin.append_, run_underlying E.under, sizeOf, typeInfo, h2, Builtin.lenOf, Builtin.firstCells, loadCells, loadCellsFrom], rfl⟩
   ·rcases A with _ | ad
    ·exact ⟨_, by simp [Builtin.append_, run_underlying E.under, sizeOf, typeInfo, h2, Builtin.lenOf, Builtin.firstCells, hnc, storeCells], rfl⟩
    ·exact ⟨_, by simp [Builtin.append_, run_underlying E.under, sizeOf, typeInfo, h2, Builtin.lenOf, Builtin.firstCells, hnc, storeCells, loadCells, loadCellsFrom], rfl⟩
  obtain ⟨v', hrun, rfl⟩ := hrun
  unfold Oper.wp execOp
  simp only [ho, resolve, invoke, builtin, Sem.run_bind, Sem.run_pure, Result.andThen_ok, List.map_toArray, List.map_cons, List.map_nil, hs, hx, List.length_nil, hrun]
  exact hK' _ _ (h v' wr [] trivial (by simpa using hown) hb (SameBut.refl _ _) (fun b hb => .inl hb))
 ·obtain ⟨b, off, rfl, _, hc⟩ := hcell (by omega)
  have hle : n + ys.length ≤ (n + ys.length) * bytes := Nat.le_mul_of_pos_right _ E.pos'
  have hB' : B ≤ wr.heap.size := by have := hb.size; omega
  obtain ⟨v', w', hrun, k2, k3, _, k5⟩ := run_append_own_at (P := P) (w := wr) B t o.type e i z zs.length bytes E.under h2 h3 h4 h5 (by rw [h6]; simp) E.pos v n xs hown ⟨b, off, none⟩ ys.length c vs.flatten
   (by rw [← hR]; exact hvs.flat_len) (fun j u hu => by
    have : ((⟨b, off, none⟩ : Addr).add j) = ⟨b, off + j, none⟩ := by
     unfold Addr.add
     split
     ·rename_i h; rw [h]; rfl
     ·rfl
    rw [this]; exact hc j u hu) hvs.one (by simp only [maxLen]; omega) hn hB'
  unfold Oper.wp execOp
  simp only [ho, resolve, invoke, builtin, Sem.run_bind, Sem.run_pure, Result.andThen_ok, List.map_toArray, List.map_cons, List.map_nil, hs, hx, hrun]
  refine hK' _ _ (h v' w' vs hvs k2 (hb.grown k3 hB' (fun k hk => (hown.lt k hk).1)) ⟨k3.os, k3.tape, k3.output, k3.size, ?_⟩ ?_)
  ·intro b hb' hF
   exact k3.block b hb' (fun e => hF (by simp [Value.blk, ← e]))
  ·intro b hb'
   rcases k5 with k5 | k5
   ·left; simpa [Value.blk, k5] using hb'
   ·right; simp [Value.blk, k5] at hb'; omega
end
end Go.Proofs.YtekgoacohhdijaaGreat
