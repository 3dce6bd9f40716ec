/- Contracts of HonestNodes, the program's and the reference's. -/
import Derived.Test.YtpjflcllpmjjiaaInts
namespace Go.Proofs.Ytpjflcllpmjjiaa
open Go.RowKit

/-- the indexes below k at which xs holds 0 -/
def honestTo (xs : List Int) (k : Nat) : List Int := (List.range k).filterMap fun i : Nat => if xs[i]? = some 0 then some (i : Int) else none
theorem honestTo_succ (xs : List Int) (k : Nat) (h : k < xs.length) : honestTo xs (k + 1) = honestTo xs k ++ if xs[k] = 0 then [(k : Int)] else [] := by
  unfold honestTo
  rw [List.range_succ, List.filterMap_append]
  congr 1
  by_cases e : xs[k] = 0 <;> simp [h, e]
theorem honestTo_len (xs : List Int) (k : Nat) : (honestTo xs k).length ≤ k := by
  unfold honestTo
  have := List.length_filterMap_le (fun i : Nat => if xs[i]? = some 0 then some (i : Int) else none) (List.range k)
  simpa using this
def dHonestNodes (xs : List Int) : List Int := honestTo xs xs.length
theorem dHonestNodes_cnt (xs : List Int) (h : szIntS xs ≤ 1048576) : (Mk.list Mk.int).n (dHonestNodes xs) ≤ 1000000000000 := by
  rw [mkInts_n]; have := honestTo_len xs xs.length; unfold szIntS at h; unfold dHonestNodes; omega
theorem honestTo_i64 (xs : List Int) (k : Nat) (hk : k ≤ 1048576) : ∀ x ∈ honestTo xs k, I64 x := by
  intro x hx
  unfold honestTo at hx
  rw [List.mem_filterMap] at hx
  obtain ⟨i, hi, he⟩ := hx
  rw [List.mem_range] at hi
  split at he
  · cases he; exact ⟨by omega, by omega⟩
  · cases he


set_option maxHeartbeats 400000 in
theorem specHonestNodes_c (w : World) (v : Value) (xs : List Int) (hv : rIntS.rd w w.heap.size [v] xs) (hz : szIntS xs ≤ 1048576) :
    Calls Try.prog 11 #[v] w (Ret rIntS w (dHonestNodes xs)) := by
  obtain ⟨A, c, rfl, hc1, hc2⟩ := rd_slice hv
  have HV := Lib.hid hv
  have hl : xs.length ≤ 1048576 := hz
  clear hv hc1 hc2 hz
  go_enter Try.func11, Try.ntmps11
  go_wp2
  go_loopw [3, 4] (fun o i wr => ∃ k : Nat, k ≤ xs.length ∧ i = .int .i64 k ∧ wr.ownsRow w.heap.size 3 1 o (honestTo xs k).length (icells (honestTo xs k)) ∧ Below w.heap.size w wr) (fun _ i _ => xs.length - (intOf i).toNat)
  case atStart => exact ⟨0, Nat.zero_le _, rfl, World.ownsRow_made w #[] 0 (Nat.le_refl _) (by simp [maxLen]) rfl, (Below.refl _ _).alloc (Nat.le_refl _) _⟩
  case round =>
    obtain ⟨k, hk, rfl, ho, hb⟩ := hrel
    by_cases hlt : k < xs.length
    · obtain ⟨b, off, rfl, hbb, hi1, h1⟩ := IntS_at HV.out hlt
      have c1 : wr.cell? ⟨b, off + k, none⟩ = some (.int .i64 xs[k]) := (hb.cell hbb).trans h1
      have hlen := honestTo_len xs k
      clear h1
      by_cases he : xs[k] = 0
      · have HS : Hid (honestTo xs (k + 1) = honestTo xs k ++ [(k : Int)]) := by have := honestTo_succ xs k hlt; rw [if_pos he] at this; exact this
        have he' : (xs[k] == 0) = true := by simp [he]
        clear he
        go_wp2_with (at_builtin; go_loud (refine wpList_push w wr elIntS rfl _ _ rfl w.heap.size _ _ _ rfl (by exact ho) [.int .i64 k] rfl rfl (by simp [Value.oneCell']) (by omega) hb (Nat.le_refl _) ?_); intro v1 w1 ho1 hb1 _ _)
        go_roundw
        case rel => exact ⟨k + 1, by omega, by go_num, by rw [HS.out]; simpa using ho1, hb1⟩
        case measure => simp [intOf]; omega
      · have HS : Hid (honestTo xs (k + 1) = honestTo xs k) := by have := honestTo_succ xs k hlt; rw [if_neg he, List.append_nil] at this; exact this
        have he' : (xs[k] == 0) = false := by simp [he]
        clear he
        go_wp2
        go_roundw
        case rel => exact ⟨k + 1, by omega, by go_num, by rw [HS.out]; exact ho, hb⟩
        case measure => simp [intOf]; omega
    · go_wp2
      go_ret
      have hk' : k = xs.length := by omega
      subst hk'
      exact Ret.ints ho (honestTo_i64 _ _ (by omega)) hb

set_option maxHeartbeats 400000 in
theorem implHonestNodes_c (w : World) (v : Value) (xs : List Int) (hv : rIntS.rd w w.heap.size [v] xs) (hz : szIntS xs ≤ 1048576) :
    Calls Try.prog 13 #[v] w (Ret rIntS w (dHonestNodes xs)) := by
  obtain ⟨A, c, rfl, hc1, hc2⟩ := rd_slice hv
  have HV := Lib.hid hv
  have hl : xs.length ≤ 1048576 := hz
  clear hv hc1 hc2 hz
  go_enter Try.func13, Try.ntmps13
  go_wp2
  go_loopw [3, 8] (fun o i wr => ∃ k : Nat, k ≤ xs.length ∧ i = .int .i64 k ∧ wr.ownsRow w.heap.size 3 1 o (honestTo xs k).length (icells (honestTo xs k)) ∧ Below w.heap.size w wr) (fun _ i _ => xs.length - (intOf i).toNat)
  case atStart => exact ⟨0, Nat.zero_le _, rfl, World.ownsRow_nil _ _ _ _, Below.refl _ _⟩
  case round =>
    obtain ⟨k, hk, rfl, ho, hb⟩ := hrel
    by_cases hlt : k < xs.length
    · obtain ⟨b, off, rfl, hbb, hi1, h1⟩ := IntS_at HV.out hlt
      have c1 : wr.cell? ⟨b, off + k, none⟩ = some (.int .i64 xs[k]) := (hb.cell hbb).trans h1
      have hlen := honestTo_len xs k
      clear h1
      by_cases he : xs[k] = 0
      · have HS : Hid (honestTo xs (k + 1) = honestTo xs k ++ [(k : Int)]) := by have := honestTo_succ xs k hlt; rw [if_pos he] at this; exact this
        have he' : (xs[k] == 0) = true := by simp [he]
        clear he
        go_wp2_with (at_builtin; go_loud (refine wpList_push w wr elIntS rfl _ _ rfl w.heap.size _ _ _ rfl (by exact ho) [.int .i64 k] rfl rfl (by simp [Value.oneCell']) (by omega) hb (Nat.le_refl _) ?_); intro v1 w1 ho1 hb1 _ _)
        go_roundw
        case rel => exact ⟨k + 1, by omega, by go_num, by rw [HS.out]; simpa using ho1, hb1⟩
        case measure => simp [intOf]; omega
      · have HS : Hid (honestTo xs (k + 1) = honestTo xs k) := by have := honestTo_succ xs k hlt; rw [if_neg he, List.append_nil] at this; exact this
        have he' : (xs[k] == 0) = false := by simp [he]
        clear he
        go_wp2
        go_roundw
        case rel => exact ⟨k + 1, by omega, by go_num, by rw [HS.out]; exact ho, hb⟩
        case measure => simp [intOf]; omega
    · go_wp2
      go_ret
      have hk' : k = xs.length := by omega
      subst hk'
      exact Ret.ints ho (honestTo_i64 _ _ (by omega)) hb
end Go.Proofs.Ytpjflcllpmjjiaa
