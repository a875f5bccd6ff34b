/-
  catalog, cursor: small functions.
-/
import Derived.Test.YthnkdbjeefemoaaGreatBytes
set_option linter.unusedVariables false
set_option linter.unusedSimpArgs false
namespace Go.Abs
open Go Go.RowKit Go.Proofs
set_option maxRecDepth 10000
set_option linter.unusedSectionVars false

theorem s84 (s : ByteArray) (hs : s.size < 1000000000) (σ : Heap) : wp (Call 84 #[.string s] σ) fun r => r = (.bool (decide (1 ≤ s.size ∧ s.size ≤ 32)), σ) := by
  refine wp_call (args := [_]) rfl Tryz.func84 rfl (Nat.le_of_ble_eq_true rfl) 20 ?_
  simp -implicitDefEqProofs (disch := first | decide | omega | assumption | exact Nat.le_of_ble_eq_true rfl | (simp only [Array.size_push, size_set, Array.size_setIfInBounds]; omega)) only [↓pB, qB, ↓reduceIte, Nat.reduceLT, Nat.reduceEqDiff, Int.reducePow, Int.reduceMul, Int.reduceAdd, Int.reduceSub, Int.reduceMod, Int.reduceLT, Nat.reduceAdd, Nat.reduceMul, Int.reduceLE, Int.reduceToNat, Int.reduceEq, ↓p84, q84]
  (refine wp_ifK_dec (fun h1 => ?_) (fun h1 => ?_) <;> simp only [H_o, H_d, N_hold] <;> simp -implicitDefEqProofs (disch := first | decide | omega | assumption | exact Nat.le_of_ble_eq_true rfl | (simp only [Array.size_push, size_set, Array.size_setIfInBounds]; omega)) only [↓pB, qB, ↓reduceIte, Nat.reduceLT, Nat.reduceEqDiff, Int.reducePow, Int.reduceMul, Int.reduceAdd, Int.reduceSub, Int.reduceMod, Int.reduceLT, Nat.reduceAdd, Nat.reduceMul, Int.reduceLE, Int.reduceToNat, Int.reduceEq, ↓p84, q84, h1])
  · have : decide (1 ≤ s.size ∧ s.size ≤ 32) = decide ((s.size : Int) ≤ 32) := by
      rw [decide_eq_decide]; omega
    rw [this]
  · have : ¬ (1 ≤ s.size ∧ s.size ≤ 32) := by omega
    simp [this]
section
variable {σ : Heap} {p : Nat} {a : Option Addr} {n c i : Nat} {e : Int} (h : row? σ p = some ⟨#[.slice a n c, .int .i64 i, .int .i64 e], false⟩) (hi : i ≤ n) (hn : n < 1099511627776)
include h hi hn
theorem s55 : wp (Call 55 #[.pointer (some ⟨p, 0, none⟩)] σ) fun r => r = (.int .i64 ((n - i : Nat) : Int), σ) := by
  refine wp_call (args := [_]) rfl Tryz.func55 rfl (Nat.le_of_ble_eq_true rfl) 20 ?_
  simp -implicitDefEqProofs (disch := first | decide | omega | assumption | exact Nat.le_of_ble_eq_true rfl | (simp only [Array.size_push, size_set, Array.size_setIfInBounds]; omega)) only [↓pB, qB, ↓reduceIte, Nat.reduceLT, Nat.reduceEqDiff, Int.reducePow, Int.reduceMul, Int.reduceAdd, Int.reduceSub, Int.reduceMod, Int.reduceLT, Nat.reduceAdd, Nat.reduceMul, Int.reduceLE, Int.reduceToNat, Int.reduceEq, ↓p55, q55, h]
  refine wp_drawn dr55x1 ?_
  simp -implicitDefEqProofs (disch := first | decide | omega | assumption | exact Nat.le_of_ble_eq_true rfl | (simp only [Array.size_push, size_set, Array.size_setIfInBounds]; omega)) only [↓pB, qB, ↓reduceIte, Nat.reduceLT, Nat.reduceEqDiff, Int.reducePow, Int.reduceMul, Int.reduceAdd, Int.reduceSub, Int.reduceMod, Int.reduceLT, Nat.reduceAdd, Nat.reduceMul, Int.reduceLE, Int.reduceToNat, Int.reduceEq, ↓p55, q55, h]
  rw [show ((n : Int) - i) = ((n - i : Nat) : Int) by omega]
theorem s51 : wp (Call 51 #[.pointer (some ⟨p, 0, none⟩)] σ) fun r => r = (.bool (decide (e = 0)), σ) := by
  refine wp_call (args := [_]) rfl Tryz.func51 rfl (Nat.le_of_ble_eq_true rfl) 20 ?_
  simp -implicitDefEqProofs (disch := first | decide | omega | assumption | exact Nat.le_of_ble_eq_true rfl | (simp only [Array.size_push, size_set, Array.size_setIfInBounds]; omega)) only [↓pB, qB, ↓reduceIte, Nat.reduceLT, Nat.reduceEqDiff, Int.reducePow, Int.reduceMul, Int.reduceAdd, Int.reduceSub, Int.reduceMod, Int.reduceLT, Nat.reduceAdd, Nat.reduceMul, Int.reduceLE, Int.reduceToNat, Int.reduceEq, ↓p51, q51, h]
theorem s162 (e' : Int) : wp (Call 162 #[.pointer (some ⟨p, 0, none⟩), .int .i64 e'] σ) fun r => r = (.tuple #[], if e = 0 then aSetRow σ p ⟨#[.slice a n c, .int .i64 i, .int .i64 e'], false⟩ else σ) := by
  refine wp_call (args := [_, _]) rfl Tryz.func162 rfl (Nat.le_of_ble_eq_true rfl) 20 ?_
  simp -implicitDefEqProofs (disch := first | decide | omega | assumption | exact Nat.le_of_ble_eq_true rfl | (simp only [Array.size_push, size_set, Array.size_setIfInBounds]; omega)) only [↓pB, qB, ↓reduceIte, Nat.reduceLT, Nat.reduceEqDiff, Int.reducePow, Int.reduceMul, Int.reduceAdd, Int.reduceSub, Int.reduceMod, Int.reduceLT, Nat.reduceAdd, Nat.reduceMul, Int.reduceLE, Int.reduceToNat, Int.reduceEq, ↓p162, q162, h]
  (refine wp_ifK_dec (fun h1 => ?_) (fun h1 => ?_) <;> simp only [H_o, H_d, N_hold] <;> simp -implicitDefEqProofs (disch := first | decide | omega | assumption | exact Nat.le_of_ble_eq_true rfl | (simp only [Array.size_push, size_set, Array.size_setIfInBounds]; omega)) only [↓pB, qB, ↓reduceIte, Nat.reduceLT, Nat.reduceEqDiff, Int.reducePow, Int.reduceMul, Int.reduceAdd, Int.reduceSub, Int.reduceMod, Int.reduceLT, Nat.reduceAdd, Nat.reduceMul, Int.reduceLE, Int.reduceToNat, Int.reduceEq, ↓p162, q162, h1, h])
theorem s56 : wp (Call 56 #[.pointer (some ⟨p, 0, none⟩)] σ) fun r => r = (.int .i64 (if e = 0 ∧ i < n then 2 else e), σ) := by
  refine wp_call (args := [_]) rfl Tryz.func56 rfl (Nat.le_of_ble_eq_true rfl) 20 ?_
  simp -implicitDefEqProofs (disch := first | decide | omega | assumption | exact Nat.le_of_ble_eq_true rfl | (simp only [Array.size_push, size_set, Array.size_setIfInBounds]; omega)) only [↓pB, qB, ↓reduceIte, Nat.reduceLT, Nat.reduceEqDiff, Int.reducePow, Int.reduceMul, Int.reduceAdd, Int.reduceSub, Int.reduceMod, Int.reduceLT, Nat.reduceAdd, Nat.reduceMul, Int.reduceLE, Int.reduceToNat, Int.reduceEq, ↓p56, q56, h]
  (refine wp_ifK_dec (fun h1 => ?_) (fun h1 => ?_) <;> simp only [H_o, H_d, N_hold] <;> simp -implicitDefEqProofs (disch := first | decide | omega | assumption | exact Nat.le_of_ble_eq_true rfl | (simp only [Array.size_push, size_set, Array.size_setIfInBounds]; omega)) only [↓pB, qB, ↓reduceIte, Nat.reduceLT, Nat.reduceEqDiff, Int.reducePow, Int.reduceMul, Int.reduceAdd, Int.reduceSub, Int.reduceMod, Int.reduceLT, Nat.reduceAdd, Nat.reduceMul, Int.reduceLE, Int.reduceToNat, Int.reduceEq, ↓p56, q56, h1, h])
  · refine wp_bindK (s55 h hi hn) ?_
    rintro _ rfl
    simp -implicitDefEqProofs (disch := first | decide | omega | assumption | exact Nat.le_of_ble_eq_true rfl | (simp only [Array.size_push, size_set, Array.size_setIfInBounds]; omega)) only [↓pB, qB, ↓reduceIte, Nat.reduceLT, Nat.reduceEqDiff, Int.reducePow, Int.reduceMul, Int.reduceAdd, Int.reduceSub, Int.reduceMod, Int.reduceLT, Nat.reduceAdd, Nat.reduceMul, Int.reduceLE, Int.reduceToNat, Int.reduceEq, ↓p56, q56, h]
    (refine wp_ifK_dec (fun h2 => ?_) (fun h2 => ?_) <;> simp only [H_o, H_d, N_hold] <;> simp -implicitDefEqProofs (disch := first | decide | omega | assumption | exact Nat.le_of_ble_eq_true rfl | (simp only [Array.size_push, size_set, Array.size_setIfInBounds]; omega)) only [↓pB, qB, ↓reduceIte, Nat.reduceLT, Nat.reduceEqDiff, Int.reducePow, Int.reduceMul, Int.reduceAdd, Int.reduceSub, Int.reduceMod, Int.reduceLT, Nat.reduceAdd, Nat.reduceMul, Int.reduceLE, Int.reduceToNat, Int.reduceEq, ↓p56, q56, h2, h])
    · have : i < n := by omega
      simp [this]
    · have : ¬ i < n := by omega
      simp [this, h1]
  · simp [h1]
end
end Go.Abs
