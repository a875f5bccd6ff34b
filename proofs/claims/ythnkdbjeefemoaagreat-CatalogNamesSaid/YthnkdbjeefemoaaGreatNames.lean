/-
  CatalogNames: Names, Compare, awake, the law.
-/
import Derived.Test.YthnkdbjeefemoaaGreatCatalog3
set_option linter.unusedVariables false
set_option linter.unusedSimpArgs false
set_option linter.unusedSectionVars false
namespace Go.Abs
open Go Go.RowKit Go.Proofs
set_option maxRecDepth 10000

/-- how strings compare -/
def cmp3 : List UInt8 → List UInt8 → Int
  | [], [] => 0
  | [], _ :: _ => -1
  | _ :: _, [] => 1
  | a :: x, b :: y => if a.toNat < b.toNat then -1 else if b.toNat < a.toNat then 1 else cmp3 x y
theorem cmp3_drop {a b : List UInt8} {i : Nat} (ha : i < a.length) (hb : i < b.length) : cmp3 (a.drop i) (b.drop i) =
    if (a[i]?.getD 0).toNat < (b[i]?.getD 0).toNat then -1 else if (b[i]?.getD 0).toNat < (a[i]?.getD 0).toNat then 1 else cmp3 (a.drop (i + 1)) (b.drop (i + 1)) := by
  rw [List.drop_eq_getElem_cons ha, List.drop_eq_getElem_cons hb, List.getElem?_eq_getElem ha, List.getElem?_eq_getElem hb]
  rfl
theorem cmp3_nil_left (b : List UInt8) : cmp3 [] b = if 0 < b.length then -1 else 0 := by cases b <;> simp [cmp3]
theorem cmp3_nil_right (a : List UInt8) : cmp3 a [] = if 0 < a.length then 1 else 0 := by cases a <;> simp [cmp3]
/-- hopperref07.Compare -/
theorem s29 (a b : List UInt8) (ha : a.length < 1000000000) (hb : b.length < 1000000000) (σ : Heap) : wp (Call 29 #[.string (bs a), .string (bs b)] σ) fun r => r = (.int .i64 (cmp3 a b), σ) := by
  refine wp_call (args := [_, _]) rfl Tryz.func29 rfl (Nat.le_of_ble_eq_true rfl) (a.length + 5) ?_
  simp -implicitDefEqProofs (disch := first | decide | omega | assumption | exact Nat.le_of_ble_eq_true rfl | (simp only [Array.size_push, size_set, Array.size_setIfInBounds]; omega)) only [↓pB, qB, ↓reduceIte, Nat.reduceLT, Nat.reduceEqDiff, Int.reducePow, Int.reduceMul, Int.reduceAdd, Int.reduceSub, Int.reduceMod, Int.reduceLT, Nat.reduceAdd, Nat.reduceMul, Int.reduceLE, Int.reduceToNat, Int.reduceEq, ↓p29, q29]
  refine wp_loop keep29x2 (fun k ρ σ' => σ' = σ ∧ ∃ i : Nat, k = a.length - i ∧ i ≤ a.length ∧ i ≤ b.length ∧ cmp3 (a.drop i) (b.drop i) = cmp3 a b ∧ ρ 0 = .string (bs a) ∧ ρ 1 = .string (bs b) ∧ ρ 5 = .int .i64 i)
    (fun e ρ σ' => σ' = σ ∧ ((e = .exit 0 ∧ ρ 0 = .string (bs a) ∧ ρ 1 = .string (bs b) ∧ cmp3 a b = if a.length < b.length then -1 else if b.length < a.length then 1 else 0) ∨ (e = .ret ∧ ρ 4 = .int .i64 (cmp3 a b)))) a.length (by omega) ?_ ?_ ?_
  · refine ⟨rfl, 0, rfl, by omega, by omega, rfl, ?_⟩
    simp -implicitDefEqProofs (disch := first | decide | omega | assumption | exact Nat.le_of_ble_eq_true rfl | (simp only [Array.size_push, size_set, Array.size_setIfInBounds]; omega)) only [↓pB, qB, ↓reduceIte, Nat.reduceLT, Nat.reduceEqDiff, Int.reducePow, Int.reduceMul, Int.reduceAdd, Int.reduceSub, Int.reduceMod, Int.reduceLT, Nat.reduceAdd, Nat.reduceMul, Int.reduceLE, Int.reduceToNat, Int.reduceEq, ↓p29, q29]
    simp
  · rintro k ρ _ ⟨rfl, i, rfl, hi, hi', hc, r0, r1, r5⟩
    simp -implicitDefEqProofs (disch := first | decide | omega | assumption | exact Nat.le_of_ble_eq_true rfl | (simp only [Array.size_push, size_set, Array.size_setIfInBounds]; omega)) only [↓pB, qB, ↓reduceIte, Nat.reduceLT, Nat.reduceEqDiff, Int.reducePow, Int.reduceMul, Int.reduceAdd, Int.reduceSub, Int.reduceMod, Int.reduceLT, Nat.reduceAdd, Nat.reduceMul, Int.reduceLE, Int.reduceToNat, Int.reduceEq, ↓p29, q29, restrictE_def, List.foldl_cons, List.foldl_nil, r0, r1, r5]
    by_cases h1 : (i : Int) < (a.length : Nat)
    · by_cases h2 : (i : Int) < (b.length : Nat)
      · have hd := cmp3_drop (a := a) (b := b) (i := i) (by omega) (by omega)
        simp -implicitDefEqProofs (disch := first | decide | omega | assumption | exact Nat.le_of_ble_eq_true rfl | (simp only [Array.size_push, size_set, Array.size_setIfInBounds]; omega)) only [↓pB, qB, ↓reduceIte, Nat.reduceLT, Nat.reduceEqDiff, Int.reducePow, Int.reduceMul, Int.reduceAdd, Int.reduceSub, Int.reduceMod, Int.reduceLT, Nat.reduceAdd, Nat.reduceMul, Int.reduceLE, Int.reduceToNat, Int.reduceEq, ↓p29, q29, h1, h2]
        refine wp_drawn dr29x4 ?_
        have hx := (a[i]?.getD 0).toNat_lt
        have hy := (b[i]?.getD 0).toNat_lt
        simp -implicitDefEqProofs (disch := first | decide | omega | assumption | exact Nat.le_of_ble_eq_true rfl | (simp only [Array.size_push, size_set, Array.size_setIfInBounds]; omega)) only [↓pB, qB, ↓reduceIte, Nat.reduceLT, Nat.reduceEqDiff, Int.reducePow, Int.reduceMul, Int.reduceAdd, Int.reduceSub, Int.reduceMod, Int.reduceLT, Nat.reduceAdd, Nat.reduceMul, Int.reduceLE, Int.reduceToNat, Int.reduceEq, ↓p29, q29, bv]
        refine wp_ifK_dec (fun h3 => ?_) (fun h3 => ?_)
        · simp only [N_hold]
          simp -implicitDefEqProofs (disch := first | decide | omega | assumption | exact Nat.le_of_ble_eq_true rfl | (simp only [Array.size_push, size_set, Array.size_setIfInBounds]; omega)) only [↓pB, qB, ↓reduceIte, Nat.reduceLT, Nat.reduceEqDiff, Int.reducePow, Int.reduceMul, Int.reduceAdd, Int.reduceSub, Int.reduceMod, Int.reduceLT, Nat.reduceAdd, Nat.reduceMul, Int.reduceLE, Int.reduceToNat, Int.reduceEq, ↓p29, q29]
          rw [if_pos (by omega)] at hd
          rw [← hc, hd]
          exact ⟨trivial, .inr ⟨trivial, rfl⟩⟩
        · simp only [N_hold]
          simp -implicitDefEqProofs (disch := first | decide | omega | assumption | exact Nat.le_of_ble_eq_true rfl | (simp only [Array.size_push, size_set, Array.size_setIfInBounds]; omega)) only [↓pB, qB, ↓reduceIte, Nat.reduceLT, Nat.reduceEqDiff, Int.reducePow, Int.reduceMul, Int.reduceAdd, Int.reduceSub, Int.reduceMod, Int.reduceLT, Nat.reduceAdd, Nat.reduceMul, Int.reduceLE, Int.reduceToNat, Int.reduceEq, ↓p29, q29]
          rw [if_neg (by omega)] at hd
          refine wp_drawn dr29x6 ?_
          simp -implicitDefEqProofs (disch := first | decide | omega | assumption | exact Nat.le_of_ble_eq_true rfl | (simp only [Array.size_push, size_set, Array.size_setIfInBounds]; omega)) only [↓pB, qB, ↓reduceIte, Nat.reduceLT, Nat.reduceEqDiff, Int.reducePow, Int.reduceMul, Int.reduceAdd, Int.reduceSub, Int.reduceMod, Int.reduceLT, Nat.reduceAdd, Nat.reduceMul, Int.reduceLE, Int.reduceToNat, Int.reduceEq, ↓p29, q29, bv]
          refine wp_ifK_dec (fun h4 => ?_) (fun h4 => ?_)
          · simp only [N_hold]
            simp -implicitDefEqProofs (disch := first | decide | omega | assumption | exact Nat.le_of_ble_eq_true rfl | (simp only [Array.size_push, size_set, Array.size_setIfInBounds]; omega)) only [↓pB, qB, ↓reduceIte, Nat.reduceLT, Nat.reduceEqDiff, Int.reducePow, Int.reduceMul, Int.reduceAdd, Int.reduceSub, Int.reduceMod, Int.reduceLT, Nat.reduceAdd, Nat.reduceMul, Int.reduceLE, Int.reduceToNat, Int.reduceEq, ↓p29, q29]
            rw [if_pos (by omega)] at hd
            rw [← hc, hd]
            exact ⟨trivial, .inr ⟨trivial, rfl⟩⟩
          · simp only [N_hold]
            simp -implicitDefEqProofs (disch := first | decide | omega | assumption | exact Nat.le_of_ble_eq_true rfl | (simp only [Array.size_push, size_set, Array.size_setIfInBounds]; omega)) only [↓pB, qB, ↓reduceIte, Nat.reduceLT, Nat.reduceEqDiff, Int.reducePow, Int.reduceMul, Int.reduceAdd, Int.reduceSub, Int.reduceMod, Int.reduceLT, Nat.reduceAdd, Nat.reduceMul, Int.reduceLE, Int.reduceToNat, Int.reduceEq, ↓p29, q29]
            rw [if_neg (by omega)] at hd
            refine ⟨a.length - (i + 1), by omega, trivial, i + 1, rfl, by omega, by omega, by rw [← hd, hc], ?_⟩
            simp
      · simp -implicitDefEqProofs (disch := first | decide | omega | assumption | exact Nat.le_of_ble_eq_true rfl | (simp only [Array.size_push, size_set, Array.size_setIfInBounds]; omega)) only [↓pB, qB, ↓reduceIte, Nat.reduceLT, Nat.reduceEqDiff, Int.reducePow, Int.reduceMul, Int.reduceAdd, Int.reduceSub, Int.reduceMod, Int.reduceLT, Nat.reduceAdd, Nat.reduceMul, Int.reduceLE, Int.reduceToNat, Int.reduceEq, ↓p29, q29, h1, h2]
        refine ⟨trivial, .inl ⟨trivial, trivial, trivial, ?_⟩⟩
        rw [← hc, List.drop_eq_nil_of_le (show b.length ≤ i by omega), cmp3_nil_right, List.length_drop, if_pos (by omega), if_neg (by omega), if_pos (by omega)]
    · simp -implicitDefEqProofs (disch := first | decide | omega | assumption | exact Nat.le_of_ble_eq_true rfl | (simp only [Array.size_push, size_set, Array.size_setIfInBounds]; omega)) only [↓pB, qB, ↓reduceIte, Nat.reduceLT, Nat.reduceEqDiff, Int.reducePow, Int.reduceMul, Int.reduceAdd, Int.reduceSub, Int.reduceMod, Int.reduceLT, Nat.reduceAdd, Nat.reduceMul, Int.reduceLE, Int.reduceToNat, Int.reduceEq, ↓p29, q29, h1]
      refine ⟨trivial, .inl ⟨trivial, trivial, trivial, ?_⟩⟩
      rw [← hc, List.drop_eq_nil_of_le (show a.length ≤ i by omega), cmp3_nil_left, List.length_drop]
      by_cases h2 : a.length < b.length
      · rw [if_pos (by omega), if_pos h2]
      · rw [if_neg (by omega), if_neg h2, if_neg (by omega)]
  · rintro e ρ _ ⟨rfl, ⟨rfl, r0, r1, hc⟩ | ⟨rfl, r4⟩⟩
    · simp -implicitDefEqProofs (disch := first | decide | omega | assumption | exact Nat.le_of_ble_eq_true rfl | (simp only [Array.size_push, size_set, Array.size_setIfInBounds]; omega)) only [↓pB, qB, ↓reduceIte, Nat.reduceLT, Nat.reduceEqDiff, Int.reducePow, Int.reduceMul, Int.reduceAdd, Int.reduceSub, Int.reduceMod, Int.reduceLT, Nat.reduceAdd, Nat.reduceMul, Int.reduceLE, Int.reduceToNat, Int.reduceEq, ↓p29, q29, restrictE_def, List.foldl_cons, List.foldl_nil, r0, r1]
      refine wp_ifK_dec (fun h1 => ?_) (fun h1 => ?_)
      · simp only [N_hold]
        simp -implicitDefEqProofs (disch := first | decide | omega | assumption | exact Nat.le_of_ble_eq_true rfl | (simp only [Array.size_push, size_set, Array.size_setIfInBounds]; omega)) only [↓pB, qB, ↓reduceIte, Nat.reduceLT, Nat.reduceEqDiff, Int.reducePow, Int.reduceMul, Int.reduceAdd, Int.reduceSub, Int.reduceMod, Int.reduceLT, Nat.reduceAdd, Nat.reduceMul, Int.reduceLE, Int.reduceToNat, Int.reduceEq, ↓p29, q29]
        rw [hc, if_pos (by omega)]
      · simp only [N_hold]
        simp -implicitDefEqProofs (disch := first | decide | omega | assumption | exact Nat.le_of_ble_eq_true rfl | (simp only [Array.size_push, size_set, Array.size_setIfInBounds]; omega)) only [↓pB, qB, ↓reduceIte, Nat.reduceLT, Nat.reduceEqDiff, Int.reducePow, Int.reduceMul, Int.reduceAdd, Int.reduceSub, Int.reduceMod, Int.reduceLT, Nat.reduceAdd, Nat.reduceMul, Int.reduceLE, Int.reduceToNat, Int.reduceEq, ↓p29, q29]
        refine wp_ifK_dec (fun h2 => ?_) (fun h2 => ?_)
        · simp only [N_hold]
          simp -implicitDefEqProofs (disch := first | decide | omega | assumption | exact Nat.le_of_ble_eq_true rfl | (simp only [Array.size_push, size_set, Array.size_setIfInBounds]; omega)) only [↓pB, qB, ↓reduceIte, Nat.reduceLT, Nat.reduceEqDiff, Int.reducePow, Int.reduceMul, Int.reduceAdd, Int.reduceSub, Int.reduceMod, Int.reduceLT, Nat.reduceAdd, Nat.reduceMul, Int.reduceLE, Int.reduceToNat, Int.reduceEq, ↓p29, q29]
          rw [hc, if_neg (by omega), if_pos (by omega)]
        · simp only [N_hold]
          simp -implicitDefEqProofs (disch := first | decide | omega | assumption | exact Nat.le_of_ble_eq_true rfl | (simp only [Array.size_push, size_set, Array.size_setIfInBounds]; omega)) only [↓pB, qB, ↓reduceIte, Nat.reduceLT, Nat.reduceEqDiff, Int.reducePow, Int.reduceMul, Int.reduceAdd, Int.reduceSub, Int.reduceMod, Int.reduceLT, Nat.reduceAdd, Nat.reduceMul, Int.reduceLE, Int.reduceToNat, Int.reduceEq, ↓p29, q29]
          rw [hc, if_neg (by omega), if_neg (by omega)]
    · simp -implicitDefEqProofs (disch := first | decide | omega | assumption | exact Nat.le_of_ble_eq_true rfl | (simp only [Array.size_push, size_set, Array.size_setIfInBounds]; omega)) only [↓pB, qB, ↓reduceIte, Nat.reduceLT, Nat.reduceEqDiff, Int.reducePow, Int.reduceMul, Int.reduceAdd, Int.reduceSub, Int.reduceMod, Int.reduceLT, Nat.reduceAdd, Nat.reduceMul, Int.reduceLE, Int.reduceToNat, Int.reduceEq, ↓p29, q29, restrictE_def, List.foldl_cons, List.foldl_nil, r4]
end Go.Abs
