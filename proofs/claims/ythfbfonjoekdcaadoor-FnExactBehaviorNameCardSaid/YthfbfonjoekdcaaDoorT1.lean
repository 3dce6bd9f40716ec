import Derived.Test.YthfbfonjoekdcaaDoorCards
import Derived.Test.YthfbfonjoekdcaaDoorTie
import Derived.WalkKit
import Derived.ProofKit
import Derived.OpenShut
import Derived.Deep.DeepHandedRow
import Derived.Lib.LaidTab
namespace Go.Proofs.YthfbfonjoekdcaaDoor.fnExactBehaviorName
open Go.ChangeShapes Go.WideShapes Go.ChangeAt Go.RowKit
set_option linter.unusedVariables false
/-- A table of strings as a row lists it. -/
def strData {H : Type} (zs : List (List UInt8)) : DataW H := .agg (zs.map fun z => .lit (.string z))
/-- The value that a string's bytes are. -/
def strV (z : List UInt8) : Value := .string ⟨z.toArray⟩
theorem strV_of (s : ByteArray) : strV s.data.toList = .string s := by cases s; simp [strV]
theorem cells_of_strs {H : Type} {enc : TypeId × Value → H} {P : Program} {w : World} {base : Nat} {sp : Nat → Bool} {held : Bool} {fuel : Nat} {t e : TypeId} {n : Nat} {cs : List Value} {zs : List (List UInt8)} {p : List MemPlace}
    (ht : P.underlying t = some (.array n e)) (he : P.underlying e = some .string) (hce : P.cellsOf e = 1) (hct : P.cellsOf t = n)
    (h : DataW.trod enc P w base sp held fuel t cs = some (strData zs, p)) : cs = zs.map strV := by
  cases fuel with
  | zero => simp [DataW.trod] at h
  | succ fuel =>
    simp only [DataW.trod, ht, hce, hct, Nat.mul_one] at h
    split at h
    · rename_i hl
      obtain ⟨xs, hm, hx⟩ := Option.map_eq_some_iff.1 h
      have hxs : xs.map (·.1) = zs.map fun z => (DataW.lit (.string z) : DataW H) := by
        have := congrArg Prod.fst hx
        simpa [strData] using this
      have hxl : xs.length = n := by simpa using Lib.mapM_length hm
      have hzl : zs.length = n := by
        have := congrArg List.length hxs
        simp at this
        omega
      apply List.ext_getElem?
      intro i
      by_cases hi : i < n
      · obtain ⟨b, hb, hf⟩ := Lib.mapM_at hm i i (by simp [hi])
        obtain ⟨s, hc, rfl, _⟩ := DataW.trod_string he hf
        have h1 : cs[i]? = some (.string s) := by
          have := congrArg (·[0]?) hc
          simpa [List.getElem?_take, List.getElem?_drop] using this
        have h2 : (xs.map (·.1))[i]? = some (DataW.lit (.string s.data.toList) : DataW H) := by simp [hb]
        rw [hxs] at h2
        simp only [List.getElem?_map, Option.map_eq_some_iff, DataW.lit.injEq, Lit.string.injEq] at h2
        obtain ⟨z', hz', rfl⟩ := h2
        simp [h1, hz', strV_of]
      · rw [List.getElem?_eq_none (by omega), List.getElem?_eq_none (by simp; omega)]
    · cases h
/-- The list's head: the variable holds just these strings. -/
theorem strs_of_head {P : Program} {W : World} {name : String} {zs : List (List UInt8)} {rest : List (String × DataW Unit)} {g : Nat} {t e : TypeId} {n : Nat}
    (hg : P.globalNamed name = some g) (hty : (P.globals[g]?).map (·.type) = some t) (ht : P.underlying t = some (.array n e)) (he : P.underlying e = some .string) (hce : P.cellsOf e = 1) (hct : P.cellsOf t = n)
    (h : laidMet P ((name, strData zs) :: rest) W) : W.var? P name = some (zs.map strV).toArray := by
  obtain ⟨ps, ⟨g', t', cs, fuel, p, q, hg', ht', hvar, hd, _, _⟩, _⟩ := h
  obtain rfl := Option.some.inj (hg.symm.trans hg')
  obtain rfl := Option.some.inj (hty.symm.trans ht')
  have := cells_of_strs ht he hce hct hd
  rw [hvar, ← this]
def names : List (List UInt8) := [[104, 111, 110, 101, 115, 116], [112, 111, 108, 108, 117, 116, 101], [115, 105, 108, 101, 110, 116], [114, 101, 112, 101, 97, 116], [112, 111, 108, 108, 117, 116, 101, 45, 115, 111, 109, 101]]
theorem own : ownKnob Tryd.prog.godebug = none := by kernel_rfl
theorem gTab : Tryd.prog.globalNamed "loop.example/g00513/impl.behaviorNames" = some 0 := by kernel_rfl
theorem gTabType : (Tryd.prog.globals[0]?).map (·.type) = some 25 := by kernel_rfl
theorem cells25 : Tryd.prog.cellsOf 25 = 5 := by kernel_rfl
theorem cells9 : Tryd.prog.cellsOf 9 = 1 := by kernel_rfl
theorem table {W : World} (h : laidMetH Tryd.prog Rows.fnExactBehaviorNameRow.laid W) : W.var? Tryd.prog "loop.example/g00513/impl.behaviorNames" = some (names.map strV).toArray :=
  strs_of_head (rest := []) gTab gTabType Tryd.underlying25 Tryd.underlying9 cells9 cells25 h
theorem trod_tab {H : Type} (enc : TypeId × Value → H) (w : World) (sp : Nat → Bool) (n : Nat) : DataW.trod enc Tryd.prog w 0 sp true (n + 2) 25 (names.map strV) = some (strData names, []) := by kernel_rfl
theorem trod_tab1 {H : Type} (enc : TypeId × Value → H) (w : World) (sp : Nat → Bool) : DataW.trod enc Tryd.prog w 0 sp true 1 25 (names.map strV) = none := by kernel_rfl
theorem trod_tab0 {H : Type} (enc : TypeId × Value → H) (w : World) (sp : Nat → Bool) : DataW.trod enc Tryd.prog w 0 sp true 0 25 (names.map strV) = none := by kernel_rfl
def nameOf (a : Int) : List UInt8 := if 0 ≤ a ∧ a ≤ 4 then names.getD a.toNat [] else []
theorem in8 (a : Int) (w : World) : Calls Tryd.prog 6 #[.int .i64 a] w fun e w' => e = .returned (.bool (decide (0 ≤ a ∧ a ≤ 4))) ∧ Grown w w' := by
  by_cases h1 : 0 ≤ a <;> by_cases h2 : a ≤ 4
  all_goals go_enter Tryd.func6, Tryd.ntmps6
  all_goals go_wp2
  all_goals go_ret
  all_goals exact ⟨by simp [h1, h2], by repeat (first | exact Grown.refl _ | apply Grown.drew | apply Grown.alloc)⟩
end Go.Proofs.YthfbfonjoekdcaaDoor.fnExactBehaviorName
