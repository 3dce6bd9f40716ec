/- maps.Keys and slices.Sorted, given what they do: a closure over a box that holds a map; a new row of its keys, sorted. No program is named; no condition. -/
import Derived.Test.YtekgoacohhdijaaGreatPU
import Derived.Lib.SlKeysI
import Derived.WideShapes
namespace Go.Proofs.YtekgoacohhdijaaGreat
open Go.RowKit Go.MapKept Go.Maps
set_option linter.unusedVariables false
set_option linter.unusedSimpArgs false
def sortK (es : List (Int × Int)) : List Int := (es.map (·.1)).mergeSort fun x y => decide (x ≤ y)
def keysM (t g : Nat) (md : Md) (ps : List PV) : RM Eff := match ps with
 | [.c (.sl r)] => .obj r fun
  | .mp _ _ => newId md fun id => .ret ⟨.p (.c (.cl g (.ccons (.ptr id 0) .cnil))), [(id, some (.bx t [.sl r]))]⟩
  | _ => .fail
 | _ => .fail
def sortedM (t g : Nat) (md : Md) (ps : List PV) : RM Eff := match ps with
 | [.c (.cl f (.ccons (.ptr o k) .cnil))] => bif f.beq g && k.beq 0 then .obj o fun
  | .bx _ [.sl r] => .obj r fun
   | .mp bo es => newId md fun id => .need (es.length ≤ 1073741824) (.ret ⟨.p (.c (.sl id)), [(id, some (.row true (.int t) (sortK es)))]⟩)
   | _ => .fail
  | _ => .fail
  else .fail
 | _ => .fail
section
variable {P : Program}
theorem keys_ok {f : FuncId} {t g : Nat} (hK : ∀ (b : Nat) (W : World), Calls P f #[.map (some b)] W fun e w' => e = .returned (.func (.func g) #[] #[.pointer (some ⟨W.heap.size, 0, none⟩)]) ∧ w' = W.alloc (.cells #[.map (some b)] t)) : PrimOK P f (keysM t g) := by
 intro w0 Z0 L N K σ a w E Z h md ps us e d hpd hpi hids hnd hdst hr ho
 unfold keysM at hr ho
 match ps, us, hpd, hpi, hr, ho with
 | [.c (.sl r)], [u], hpd, hpi, hr, ho =>
  obtain ⟨ob, hob, hr1, ho1⟩ := obj_split hr ho
  cases ob <;> first | (cases hr1; done) | skip
  rename_i bo es
  obtain ⟨id, ids, hi, hr2, ho2⟩ := newId_some hr1 ho1
  have e1 := ret_some hr2; subst e1
  have hid : id ∉ K := hids id (by simp [hi])
  obtain ⟨b, ms, clock, h2, h3, h4, h5⟩ := h.obj r _ hob
  have hu : u = .map (some b) := (show u = E.hdr r from hpd.1).trans h2
  subst hu
  refine (hK b w).mono ?_
  rintro e' w' ⟨rfl, rfl⟩
  refine ⟨_, rfl, ?_⟩
  have hrK : r ∈ K := (h.oids r _ hob).1
  have hrid : r ≠ id := fun e => hid (e ▸ hrK)
  have hset : ∀ i ∈ K, (E.set id (.pointer (some ⟨w.heap.size, 0, none⟩)) [w.heap.size]).hdr i = E.hdr i := fun i hi => by
   have : i ≠ id := fun e => hid (e ▸ hi)
   simp [Env.set, this]
  have hden : (Ob.bx t [.sl r]).den (E.set id (.pointer (some ⟨w.heap.size, 0, none⟩)) [w.heap.size]) Z (w.alloc (.cells #[.map (some b)] t)) (.pointer (some ⟨w.heap.size, 0, none⟩)) [w.heap.size] :=
   ⟨w.heap.size, [.map (some b)], rfl, rfl, heap_alloc_new w _, (show (Value.map (some b)) = _ from by rw [hset r hrK, h2]), trivial⟩
  have hoi1 : ∀ i ∈ (Ob.bx t [.sl r]).ids, i ∈ K := fun i hi => by
   have : i = r := by simpa [Ob.ids, CV.ids] using hi
   rw [this]; exact hrK
  have hoi2 : ∀ i ∈ (AV.p (.c (.cl g (.ccons (.ptr id 0) .cnil)))).ids, i ∈ id :: K := fun i hi => by
   have : i = id := by simpa [AV.ids, PV.ids, CV.ids] using hi
   simp [this]
  have := h.turn (id := id) hid (cons := []) (by simp) (w' := w.alloc (.cells #[.map (some b)] t)) rfl rfl rfl (by simp) (fun b' hb' _ => Below.heap_alloc w _ b' hb') (ob := .bx t [.sl r]) (hd := .pointer (some ⟨w.heap.size, 0, none⟩)) (F := [w.heap.size])
   hden (by simp) (by simp) rfl hoi1 (av := .p (.c (.cl g (.ccons (.ptr id 0) .cnil)))) (v := .func (.func g) #[] #[.pointer (some ⟨w.heap.size, 0, none⟩)]) (d := d)
   ⟨[.pointer (some ⟨w.heap.size, 0, none⟩)], rfl, _, _, rfl, ⟨w.heap.size, by simp [Env.set], rfl⟩, rfl⟩ hoi2 hdst
  exact more_post this (fun i hi' => by rw [hi]; rcases List.mem_cons.1 hi' with rfl | hi' <;> simp [*])
theorem owns_map {w : World} {tk b clock : Nat} {ms : Array MapEntry} {bo : Bool} {es : List (Int × Int)} (hk : P.underlying tk = some (.int .i64)) (hb : w.heap[b]? = some (.map ms clock))
  (hl : ms.toList.map (fun e => (e.key, e.val)) = es.map (fun p => (Value.int .i64 p.1, valV bo p.2))) (hs : Stamped ms clock) (hi : ∀ p ∈ es, I64 p.1) (hn : es.length ≤ 1073741824) :
  ∃ (D0 : DataW Unit), w.ownsMap P tk (fun _ => some (.nil, [])) b es.length D0 ∧ (intKeys D0).Perm (es.map (·.1)) ∧ Maps.size D0 = es.length := by
 have hlen : ms.size = es.length := by have := congrArg List.length hl; simpa using this
 have hat : ∀ e ∈ ms.toList, ∃ p ∈ es, e.key = .int .i64 p.1 := fun e he => by
  have h1 : (e.key, e.val) ∈ es.map (fun p => (Value.int .i64 p.1, valV bo p.2)) := by rw [← hl]; exact List.mem_map.2 ⟨e, he, rfl⟩
  obtain ⟨p, hp, hpe⟩ := List.mem_map.1 h1
  exact ⟨p, hp, (congrArg Prod.fst hpe).symm⟩
 have hrd : ∀ e ∈ ms.toList, ∀ n : Int, e.key = .int .i64 n → I64 n → Go.WideElems.rd (H := Unit) P tk (fun _ => some (.nil, [])) e = some (.int .i64 n, .nil) := fun e he n hen hin => by
  unfold Go.WideElems.rd
  rw [hen, keyOf_int_mk hk (by unfold I64 at hin; simpa [Lit.wf, IntKind.min, IntKind.max, IntKind.signed, IntKind.bits] using hin)]
  rfl
 have hF : Go.WideElems.Fit (H := Unit) P tk (fun _ => some (.nil, [])) ms clock := ⟨by rw [hlen]; simp only [maxLen]; omega, hs, fun e he => by
  obtain ⟨p, hp, hpe⟩ := hat e he
  exact ⟨_, hrd e he p.1 hpe (hi p hp)⟩⟩
 refine ⟨_, ⟨ms, clock, hb, hF, Nat.le_of_eq hlen, rfl⟩, ?_, ?_⟩
 ·have h1 : (intKeys (H := Unit) (.map ((ms.toList.map (Go.WideElems.rg P tk fun _ => some (.nil, []))).foldr DataW.insert []))).Perm ((ms.toList.map (Go.WideElems.rg (H := Unit) P tk fun _ => some (.nil, []))).map fun p => intOf p.1) := (Go.WideShapes.sorted_perm _).map _
  refine h1.trans ?_
  have h2 : (ms.toList.map (Go.WideElems.rg (H := Unit) P tk fun _ => some (.nil, []))).map (fun p => intOf p.1) = es.map (·.1) := by
   have h3 : (ms.toList.map fun e => (e.key, e.val)).map (fun q => match q.1 with | .int _ n => n | _ => 0) = es.map (·.1) := by
    rw [hl, List.map_map]; rfl
   rw [← h3, List.map_map, List.map_map]
   refine List.map_congr_left fun e he => ?_
   obtain ⟨p, hp, hpe⟩ := hat e he
   have := hrd e he p.1 hpe (hi p hp)
   simp only [Function.comp, Go.WideElems.rg_of this, hpe]
   rfl
  rw [h2]
 ·show (List.foldr DataW.insert [] _).length = _
  rw [length_sorted, List.length_map]; simpa using hlen
theorem sorted_ok {f : FuncId} {t g : Nat} (ht : P.underlying t = some (.int .i64)) (hS : ∀ (W : World) (Bm b nn : Nat) (D0 : DataW Unit) (R : Value → Option (DataW Unit × List MemPlace)), W.cell? ⟨Bm, 0, none⟩ = some (.map (some b)) → Bm < W.heap.size → W.ownsMap P t R b nn D0 → Maps.size D0 ≤ maxLen → Maps.size D0 * 8 ≤ 140737488355328 →
   Calls P f #[.func (.func g) #[] #[.pointer (some ⟨Bm, 0, none⟩)]] W fun e w' => ∃ (v : Value) (ss : List Int), e = .returned v ∧ ss.Perm (intKeys D0) ∧ w'.ownsRow W.heap.size t 1 v ss.length ((ss.mergeSort (fun x y => decide (x ≤ y))).map encZ) ∧ (v = .slice none 0 0 ↔ ss = []) ∧ Below W.heap.size W w') : PrimOK P f (sortedM t g) := by
 intro w0 Z0 L N K σ a w E Z h md ps us e d hpd hpi hids hnd hdst hr ho
 unfold sortedM at hr ho
 match ps, us, hpd, hpi, hr, ho with
 | [.c (.cl f' (.ccons (.ptr o k) .cnil))], [u], hpd, hpi, hr, ho =>
  obtain ⟨hfk, hr1, ho1⟩ := bif_split hr ho
  simp only [Bool.and_eq_true] at hfk
  have e1 := Nat.eq_of_beq_eq_true hfk.1
  have e2 := Nat.eq_of_beq_eq_true hfk.2
  subst e1 e2
  obtain ⟨ob, hob, hr2, ho2⟩ := obj_split hr1 ho1
  match ob, hob, hr2, ho2 with
  | .bx tb [.sl r], hob, hr2, ho2 =>
   obtain ⟨ob2, hob2, hr3, ho3⟩ := obj_split hr2 ho2
   cases ob2 <;> first | (cases hr3; done) | skip
   rename_i bo es
   obtain ⟨id, ids, hi, hr4, ho4⟩ := newId_some hr3 ho3
   obtain ⟨hn, hr5, _⟩ := need_split hr4 ho4
   have e3 := ret_some hr5; subst e3
   have hid : id ∉ K := hids id (by simp [hi])
   obtain ⟨b, ms, clock, h2, h3, h4, h5, h6, h7⟩ := h.obj r _ hob2
   obtain ⟨Bm, vs, q1, q2, q3, q4⟩ := h.obj o _ hob
   obtain ⟨u1, rfl, q5⟩ := dens_one q4
   have q6 : u1 = .map (some b) := (show u1 = E.hdr r from q5).trans h2
   subst q6
   obtain ⟨vs, hu, hc⟩ := hpd.1
   obtain ⟨x, xs, rfl, ⟨b', hx1, rfl⟩, rfl⟩ := hc
   have : b' = Bm := by rw [q1] at hx1; cases hx1; rfl
   subst this
   subst hu
   have hBm := h.free o _ hob b' (by rw [q2]; simp)
   obtain ⟨D0, hD1, hD2, hD3⟩ := owns_map (P := P) ht h4 h5 h6 h7 hn
   refine (hS w b' b es.length D0 _ (by have q7 : w.heap[b']? = some (.cells #[.map (some b)] tb (0, 0)) := q3; simp [World.cell?, q7]) hBm.1 hD1 (by rw [hD3]; simp only [maxLen]; omega) (by rw [hD3]; omega)).mono ?_
   rintro e' w' ⟨v, ss, rfl, hss, hrow, hnil, hbel⟩
   refine ⟨_, rfl, ?_⟩
   have hsort : ss.mergeSort (fun x y => decide (x ≤ y)) = sortK es := mergeSort_of_perm_i (hss.trans hD2)
   rw [hsort] at hrow
   have hlen : ss.length = (sortK es).length := by rw [← hsort, List.length_mergeSort]
   rw [hlen] at hrow
   have h1 := h.called hbel (Z' := Z) (fun _ h => h) (fun _ h => .inl h)
   have hw := ownsRw.of hrow
   have hblk : ∀ k ∈ Value.blk v, w.heap.size ≤ k ∧ k < w'.heap.size := fun k hk => by
    rcases hw.2 with ⟨rfl, _⟩ | ⟨g', cap, cur, rfl, hg1, hg2, _⟩
    ·simp [Value.blk, Value.ownBlock] at hk
    ·have : k = g' := by simpa [Value.blk, Value.ownBlock] using hk
     subst this
     exact ⟨hg1, (Array.getElem?_eq_some_iff.1 hg2).1⟩
   have hone : v.oneCell' = true := by
    rcases hw.2 with ⟨rfl, _⟩ | ⟨g', cap, cur, rfl, _⟩ <;> rfl
   have hels : Els Z w' true (.int t) ((sortK es).map fun n => [Value.int .i64 n]) (sortK es) ((sortK es).map fun _ => []) := by
    show Ow2 _ _ _ _
    generalize sortK es = l
    induction l with
    | nil => trivial
    | cons n l ih => exact ⟨⟨rfl, rfl⟩, ih⟩
   have hfl : ((sortK es).map fun n => [Value.int .i64 n]).flatten = (sortK es).map encZ := by
    generalize sortK es = l
    induction l with
    | nil => rfl
    | cons n l ih => simp [ih]
   have hfl2 : ((sortK es).map fun _ => ([] : List Nat)).flatten = [] := by
    generalize sortK es = l
    induction l with
    | nil => rfl
    | cons n l ih => simp [ih]
   have r2 := h1.adopt (id := id) hid (ob := .row true (.int t) (sortK es)) (hd := v) (F := Value.blk v) ⟨(sortK es).map fun n => [Value.int .i64 n], (sortK es).map fun _ => [], by
     rw [hfl]
     exact ⟨hw.1, hw.2.imp (fun h => h) fun ⟨g', cap, cur, p1, p2, p3⟩ => ⟨g', cap, cur, p1, Nat.zero_le _, p3⟩⟩, hels, by rw [hfl2, List.append_nil]⟩ (blk_nodup v) (fun k hk => by
    have hk2 := hblk k hk
    refine ⟨hk2.2, fun hz => by have := h.zlt k hz; omega, .inl (by have := h.frame.size; omega), fun o' x' ho' hm => ?_⟩
    have := (h.free o' x' ho' k hm).1; omega) hone (by simp [Ob.ids])
   obtain ⟨E2, Z2, hv⟩ := r2.val (d := d) (v := v) (av := .p (.c (.sl id))) hdst (show v = (E.set id v (Value.blk v)).hdr id by simp [Env.set]) (fun i hi => by
    have : i = id := by simpa [AV.ids, PV.ids, CV.ids] using hi
    simp [this]) []
   have : RelE w0 Z0 L N ([] ++ (id :: K)) (σ.app d ⟨.p (.c (.sl id)), [(id, some (.row true (.int t) (sortK es)))]⟩) (a.put d v) w' E2 Z2 := by
    have e : σ.app d ⟨.p (.c (.sl id)), [(id, some (.row true (.int t) (sortK es)))]⟩ = (σ.add [(id, some (.row true (.int t) (sortK es)))]).app d ⟨.p (.c (.sl id)), []⟩ := by cases d <;> rfl
    rw [e]; exact hv
   exact more_post this (fun i hi' => by
    rw [hi]
    rcases List.mem_cons.1 (by simpa using hi') with h' | h'
    ·simp [h']
    ·simp [h'])
end
end Go.Proofs.YtekgoacohhdijaaGreat
