/- An element of a deep row, opened and shut again; tests on nil. No program is named; no condition. -/
import Derived.Test.YtekgoacohhdijaaGreatPR
namespace Go.Proofs.YtekgoacohhdijaaGreat
open Go.RowKit
set_option linter.unusedVariables false
set_option linter.unusedSimpArgs false
theorem Ow2.ins {α : Type} {O : List Value → α → List Nat → Prop} : ∀ {i : Nat} {vs : List (List Value)} {xs : List α} {Fs : List (List Nat)} {us : List Value} {y : α} {G : List Nat}, Ow2 O (vs.eraseIdx i) (xs.eraseIdx i) Fs → vs[i]? = some us → i < xs.length → O us y G →
  ∃ Gs, Ow2 O vs (xs.set i y) Gs ∧ Gs.flatten.Perm (G ++ Fs.flatten)
 | 0, v :: vs, x :: xs, Fs, us, y, G, h, hv, _, hy => by
  simp only [List.getElem?_cons_zero, Option.some.injEq] at hv
  subst hv
  exact ⟨G :: Fs, ⟨hy, h⟩, by simp⟩
 | i + 1, v :: vs, x :: xs, F :: Fs, us, y, G, h, hv, hi, hy => by
  obtain ⟨Gs, h1, h2⟩ := Ow2.ins (i := i) h.2 (by simpa using hv) (by simpa using hi) hy
  refine ⟨F :: Gs, ⟨h.1, h1⟩, ?_⟩
  simp only [List.flatten_cons]
  exact (h2.append_left F).trans (by rw [← List.append_assoc, ← List.append_assoc]; exact List.perm_append_comm.append_right _)
 | 0, [], _, _, _, _, _, _, hv, _, _ => by simp at hv
 | 0, _ :: _, [], _, _, _, _, _, _, hi, _ => by simp at hi
 | i + 1, [], _, _, _, _, _, _, hv, _, _ => by simp at hv
 | i + 1, _ :: _, [], _, _, _, _, _, _, hi, _ => by simp at hi
 | i + 1, _ :: _, _ :: _, [], _, _, _, h, _, _, _ => h.elim
theorem Ow2.del {α : Type} {O : List Value → α → List Nat → Prop} : ∀ {i : Nat} {vs : List (List Value)} {xs : List α} {Fs : List (List Nat)} (hi : i < xs.length), Ow2 O vs xs Fs →
  ∃ c G, vs[i]? = some c ∧ O c xs[i] G ∧ Ow2 O (vs.eraseIdx i) (xs.eraseIdx i) (Fs.eraseIdx i) ∧ Fs.flatten.Perm (G ++ (Fs.eraseIdx i).flatten)
 | 0, v :: vs, x :: xs, F :: Fs, _, h => ⟨v, F, rfl, h.1, h.2, by simp⟩
 | i + 1, v :: vs, x :: xs, F :: Fs, hi, h => by
  obtain ⟨c, G, h1, h2, h3, h4⟩ := Ow2.del (i := i) (by simpa using hi) h.2
  refine ⟨c, G, by simpa using h1, by simpa using h2, ⟨h.1, h3⟩, ?_⟩
  simp only [List.flatten_cons, List.eraseIdx_cons_succ]
  exact (h4.append_left F).trans (by rw [← List.append_assoc, ← List.append_assoc]; exact List.perm_append_comm.append_right _)
 | _, [], [], [], hi, _ => by simp at hi
 | _, [], [], _ :: _, _, h => h.elim
 | _, [], _ :: _, _, _, h => h.elim
 | _, _ :: _, [], _, _, h => h.elim
 | _, _ :: _, _ :: _, [], _, h => h.elim
def opR (r i : Nat) (ids : List Nat) (u : Out) (σ : St) : Option (St × List Prop) := match σ.obj r with
 | some (.row true s xs) => bif Nat.ble s.cnt ids.length && nodupB ids && ids.all fun j => !memB j σ.ids then
   match u.go (ids ++ σ.ids) (σ.add ([(r, some (.op s xs i (resC true s (xs.getD i s.z) ids).1))] ++ (resC true s (xs.getD i s.z) ids).2.1 ++ gone [r])) with
   | some s' => some (s', [i < xs.length])
   | none => none
  else none
 | _ => none
def shutM (r : Nat) : RM (List (Nat × Option Ob)) := .obj r fun
 | .op s xs i cs => (owC s cs).bind fun y => bif nodupB (r :: y.2) then .ret ((r, some (.row true s (xs.set i y.1))) :: gone y.2) else .fail
 | _ => .fail
def shutR (r : Nat) (u : Out) (σ : St) : Option (St × List Prop) := match (shutM r).run σ with
 | some l => match u.go σ.ids (σ.add l) with
  | some s' => some (s', (shutM r).obl σ)
  | none => none
 | none => none
section
variable {P : Program} {w0 : World} {Z0 : Nat → Prop} {L : List Nat} {N : Nat} {K : List Nat} {σ σ' : St} {a : Act} {w : World} {Z : Nat → Prop} {E : Env} {Q : Exit → Act → World → Prop}
theorem RelE.openE (h : RelE w0 Z0 L N K σ a w E Z) {r i : Nat} {s : Sh} {xs : List s.D} (hr : σ.obj r = some (.row true s xs)) (hi : i < xs.length) {ids : List Nat} (hc : s.cnt ≤ ids.length) (hn : ids.Nodup) (hk : ∀ j ∈ ids, j ∉ K) :
  ∃ E' K', RelE w0 Z0 L N K' (σ.add ([(r, some (.op s xs i (resC true s (xs.getD i s.z) ids).1))] ++ (resC true s (xs.getD i s.z) ids).2.1 ++ gone [r])) a w E' Z ∧ ∀ j ∈ K', j ∈ ids ++ K := by
 obtain ⟨vs, Fs, h1, h2, h3⟩ := h.obj r _ hr
 have h2 : Ow2 (s.ow w) vs xs Fs := h2
 obtain ⟨c, G, hc', hG, hdel, hperm⟩ := h2.del hi
 have hgd : xs.getD i s.z = xs[i] := by simp [List.getD, hi]
 rw [hgd]
 have hnd := h.nodup r _ hr
 rw [h3] at hnd
 have hnd' := List.nodup_append.1 hnd
 have hndp := List.nodup_append.1 (hperm.nodup_iff.1 hnd'.2.1)
 have hGF : ∀ b ∈ G, b ∈ Fs.flatten := fun b hb => hperm.mem_iff.2 (List.mem_append.2 (.inl hb))
 have hEF : ∀ b ∈ (Fs.eraseIdx i).flatten, b ∈ Fs.flatten := fun b hb => hperm.mem_iff.2 (List.mem_append.2 (.inr hb))
 have l1 := h.lend (l := [r]) (by simp [hr]) (SameBut.refl _ w)
 have hfree : ∀ b ∈ E.fp r, Free w0 L (σ.add (gone [r])) w E Z b := fun b hb => by
  have hf := h.free r _ hr b hb
  refine ⟨hf.1, hf.2.1, hf.2.2, fun o x ho hbo => ?_⟩
  have ho := add_gone ho
  exact h.apart o x r _ ho.2 hr (fun e => ho.1 (by simp [e])) b hbo hb
 obtain ⟨E1, K1, r1, d1, i1, j1, k1, e1, f1⟩ := adopt_res s (dp := true) (y := xs[i]) l1 (ow_res s hG) hndp.1 (fun b hb => hfree b (by rw [h3]; exact List.mem_append.2 (.inr (hGF b hb)))) hn hk hc
 have hrK := (h.oids r _ hr).1
 have hresn : ∀ q ∈ (resC true s xs[i] ids).2.1, q.1 ∈ ids := by
  have hres : ∀ (s : Sh) (x : s.D) (ids : List Nat), s.cnt ≤ ids.length → (resC true s x ids).2.2 = ids.drop s.cnt ∧ ∀ q ∈ (resC true s x ids).2.1, q.1 ∈ ids := by
   intro s
   induction s with
   | pair p q ihp ihq =>
    intro x ids hle
    have hle : p.cnt + q.cnt ≤ ids.length := hle
    have e1 := ihp x.1 ids (by omega)
    have e2 := ihq x.2 (ids.drop p.cnt) (by rw [List.length_drop]; omega)
    refine ⟨?_, fun z hz => ?_⟩
    ·show (resC true q x.2 (resC true p x.1 ids).2.2).2.2 = ids.drop (p.cnt + q.cnt)
     rw [e1.1, e2.1, List.drop_drop]
    ·have hz : z ∈ (resC true q x.2 (resC true p x.1 ids).2.2).2.1 ++ (resC true p x.1 ids).2.1 := hz
     rw [e1.1] at hz
     rcases List.mem_append.1 hz with hz | hz
     ·exact List.mem_of_mem_drop (e2.2 z hz)
     ·exact e1.2 z hz
   | st t p ih => intro x ids hle; exact ih x ids hle
   | sl t p _ =>
    intro x ids hle
    cases ids with
    | nil => simp [Sh.cnt] at hle
    | cons i ids => exact ⟨by simp [resC, Sh.cnt], by simp [resC]⟩
   | int t => intro x ids _; exact ⟨by simp [resC, Sh.cnt], by simp [resC]⟩
   | bool t => intro x ids _; exact ⟨by simp [resC, Sh.cnt], by simp [resC]⟩
   | u8 t => intro x ids _; exact ⟨by simp [resC, Sh.cnt], by simp [resC]⟩
   | str t => intro x ids _; exact ⟨by simp [resC, Sh.cnt], by simp [resC]⟩
   | fn0 f => intro x ids _; exact ⟨by simp [resC, Sh.cnt], by simp [resC]⟩
   | fn f p _ => intro x ids _; exact ⟨by simp [resC, Sh.cnt], by simp [resC]⟩
   | pt p _ => intro x ids _; exact ⟨by simp [resC, Sh.cnt], by simp [resC]⟩
  exact (hres s xs[i] ids hc).2
 have hno : ((σ.add (gone [r])).add (resC true s xs[i] ids).2.1).obj r = none := by
  rw [add_none fun q hq e => hk r (by rw [← e]; exact hresn q hq) hrK]
  cases hg : (σ.add (gone [r])).obj r with
  | none => rfl
  | some z => exact absurd (by simp) (add_gone hg).1
 have hhd1 : E1.hdr r = E.hdr r := e1 r hrK
 have hset : ∀ j, (E1.set r (E1.hdr r) (Value.blk (E.hdr r) ++ (Fs.eraseIdx i).flatten)).hdr j = E1.hdr j := fun j => by
  by_cases e : j = r
  ·subst e; simp [Env.set]
  ·simp [Env.set, e]
 have hcl : c.length = s.size := s.ow_len hG
 have r2 := r1.readopt (id := r) ((k1 r).2 (.inr hrK)) hno (ob := .op s xs i (resC true s xs[i] ids).1) (F := Value.blk (E.hdr r) ++ (Fs.eraseIdx i).flatten)
  ⟨vs, c, Fs.eraseIdx i, by rw [hhd1]; exact h1, ⟨hi, h2.len.1, hc', hcl⟩, d1.keep (fun j _ => hset j) (fun _ h => h) (fun _ _ => rfl) i1, hdel, by rw [hhd1]⟩
  (List.nodup_append.2 ⟨hnd'.1, hndp.2.1, fun b hb d hd e => hnd'.2.2 b hb d (hEF d hd) e⟩)
  (fun b hb => by
   have hbr : b ∈ E.fp r := by
    rw [h3]
    rcases List.mem_append.1 hb with hb | hb
    ·exact List.mem_append.2 (.inl hb)
    ·exact List.mem_append.2 (.inr (hEF b hb))
   refine f1 b (hfree b hbr) fun hg => ?_
   rcases List.mem_append.1 hb with hb | hb
   ·exact hnd'.2.2 b hb b (hGF b hg) rfl
   ·exact hndp.2.2 b hg b hb rfl) i1
 refine ⟨_, K1, by rw [← add_add, ← add_add]; exact r2, fun j hj => ?_⟩
 rcases (k1 j).1 hj with h' | h'
 ·exact List.mem_append.2 (.inl (List.mem_of_mem_take h'))
 ·exact List.mem_append.2 (.inr h')
theorem at_open (r i : Nat) (ids : List Nat) (u : Out) (h : At w0 Z0 L N σ a w) {ps : List Prop} (ho : opR r i ids u σ = some (σ', ps)) (hps : AllP ps) : At w0 Z0 L N σ' a w := by
 unfold opR at ho
 split at ho
 ·rename_i s xs hr
  cases hb : Nat.ble s.cnt ids.length && nodupB ids && ids.all fun j => !memB j σ.ids with
  | false => rw [hb] at ho; cases ho
  | true =>
   rw [hb, cond_true] at ho
   simp only [Bool.and_eq_true] at hb
   split at ho
   ·rename_i s' hs
    simp only [Option.some.injEq, Prod.mk.injEq] at ho
    obtain ⟨rfl, rfl⟩ := ho
    obtain ⟨E, Z, h⟩ := h
    obtain ⟨E', K', h', hK⟩ := h.openE hr hps.1 (Nat.le_of_ble_eq_true hb.1.1) (nodupB_spec hb.1.2) (fun j hj => memB_not (by have := List.all_eq_true.1 hb.2 j hj; simpa using this))
    obtain ⟨E2, Z2, h2⟩ := more_post (ids := ids) (K := σ.ids) h' hK
    exact Stands.out ⟨E2, Z2, h2⟩ hs
   ·cases ho
 ·cases ho
theorem RelE.shutE (h : RelE w0 Z0 L N K σ a w E Z) {r : Nat} {l : List (Nat × Option Ob)} (hr : (shutM r).run σ = some l) (ho : AllP ((shutM r).obl σ)) : ∃ E', RelE w0 Z0 L N K (σ.add l) a w E' Z := by
 unfold shutM at hr ho
 obtain ⟨b, hb, hr1, ho1⟩ := obj_split hr ho
 match b, hb, hr1, ho1 with
 | .op s xs i cs, hb, hr1, ho1 =>
  obtain ⟨y, hy, hyo, hr2, _⟩ := bind_split hr1 ho1
  obtain ⟨hnd, hr3⟩ := bif_some hr2
  have e1 := ret_some hr3; subst e1
  obtain ⟨y, ids⟩ := y
  have hnd' := nodupB_spec hnd
  rw [List.nodup_cons] at hnd'
  obtain ⟨vs, us, Fs, h1, h2, h3, h4, h5⟩ := h.obj r _ hb
  have how := owC_ow h s hy hyo h3
  obtain ⟨Gs, g1, g2⟩ := h4.ins h2.2.2.1 h2.1 how.1
  have hndr := h.nodup r _ hb
  rw [h5] at hndr
  have hndr' := List.nodup_append.1 hndr
  have hmem : ∀ b ∈ Gs.flatten, b ∈ ids.flatMap E.fp ∨ b ∈ Fs.flatten := fun b hb => List.mem_append.1 (g2.mem_iff.1 hb)
  have hoth : ∀ b ∈ ids.flatMap E.fp, b ∉ E.fp r := fun b hb' hbr => by
   obtain ⟨m, hm, hbm⟩ := List.mem_flatMap.1 hb'
   obtain ⟨z, hz⟩ := how.2 m hm
   exact h.apart m z r _ hz hb (fun e => hnd'.1 (e ▸ hm)) b hbm hbr
  have h6 := h.upd hb (x' := .row true s (xs.set i y)) (cons := ids) how.2 hnd'.1 (w' := w) rfl rfl rfl (Nat.le_refl _) (fun _ _ _ _ => rfl) (F := Value.blk (E.hdr r) ++ Gs.flatten)
   ⟨vs, Gs, by simpa using h1, g1, rfl⟩
   (List.nodup_append.2 ⟨hndr'.1, g2.nodup_iff.2 (List.nodup_append.2 ⟨fps_nodup h hnd'.2 how.2, hndr'.2.1, fun b hb c hc e => hoth b hb (by rw [h5, e]; exact List.mem_append.2 (.inr hc))⟩), fun b hb c hc e => by
    rcases hmem c hc with hc | hc
    ·exact hoth c hc (by rw [h5, ← e]; exact List.mem_append.2 (.inl hb))
    ·exact hndr'.2.2 b hb c hc e⟩)
   (fun b hb' => by
    rcases List.mem_append.1 hb' with hb' | hb'
    ·have : b ∈ E.fp r := by rw [h5]; exact List.mem_append.2 (.inl hb')
     exact ⟨(h.free r _ hb b this).1, .inl this⟩
    ·rcases hmem b hb' with hb' | hb'
     ·obtain ⟨m, hm, hbm⟩ := List.mem_flatMap.1 hb'
      obtain ⟨z, hz⟩ := how.2 m hm
      exact ⟨(h.free m z hz b hbm).1, .inr ⟨m, hm, hbm⟩⟩
     ·have : b ∈ E.fp r := by rw [h5]; exact List.mem_append.2 (.inr hb')
      exact ⟨(h.free r _ hb b this).1, .inl this⟩)
   (by simp [Ob.ids]) (d := none) (v := undef) (by simp)
  exact ⟨_, h6⟩
theorem at_shut (r : Nat) (u : Out) (h : At w0 Z0 L N σ a w) {ps : List Prop} (ho : shutR r u σ = some (σ', ps)) (hps : AllP ps) : At w0 Z0 L N σ' a w := by
 unfold shutR at ho
 split at ho
 ·rename_i l hl
  split at ho
  ·rename_i s' hs
   simp only [Option.some.injEq, Prod.mk.injEq] at ho
   obtain ⟨rfl, rfl⟩ := ho
   obtain ⟨E, Z, h⟩ := h
   obtain ⟨E', h'⟩ := h.shutE hl hps
   exact Stands.out ⟨E', Z, h'⟩ hs
  ·cases ho
 ·cases ho
theorem at_nil {c : Nat} {x y : Code} (n : Nat) (h : At w0 Z0 L N σ a w) (hc : σ.tmp c = .p (.c (.nb n))) (ht : n = 0 → x.wp P Q a w) (hf : y.wp P Q a w) : (Code.cond (.tmp c) x y).wp P Q a w := by
 obtain ⟨E, Z, h⟩ := h
 have h1 := h.tmp c
 rw [hc] at h1
 obtain ⟨b, hb, hn⟩ := h1
 exact wp_cond_split (t := b) hb (fun e => ht (hn e)) (fun _ => hf)
end
end Go.Proofs.YtekgoacohhdijaaGreat
