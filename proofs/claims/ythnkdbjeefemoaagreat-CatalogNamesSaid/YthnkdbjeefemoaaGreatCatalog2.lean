/-
  catalog, of tables without segments.
-/
import Derived.Test.YthnkdbjeefemoaaGreatCatalog
set_option linter.unusedVariables false
set_option linter.unusedSimpArgs false
set_option linter.unusedSectionVars false
namespace Go.Abs
open Go Go.RowKit Go.Proofs
set_option maxRecDepth 10000

theorem putNum_len (n : Nat) : (putNum n).length ≤ n + 1 := by
  induction n using Nat.strongRecOn with
  | _ n ih =>
    rw [putNum]
    split
    · simp
    · have := ih (n / 128) (by omega)
      simp only [List.length_cons]
      omega
/-- Catalog.Rows: no such table -/
theorem s26none {σ : Heap} {p : Nat} {m : Ents} (h : Cat σ p m) {k : ByteArray} (hm : mfind k m 0 = none) : wp (Call 26 #[.pointer (some ⟨p, 0, none⟩), .string k] σ) fun r => r = (.tuple #[.slice none 0 0, .int .i64 7], σ) := by
  refine wp_call (args := [_, _]) rfl Tryz.func26 rfl (Nat.le_of_ble_eq_true rfl) 20 ?_
  obtain ⟨b, c, h0, h1⟩ := h
  simp -implicitDefEqProofs (disch := first | decide | omega | assumption | exact Nat.le_of_ble_eq_true rfl | (simp only [Array.size_push, size_set, Array.size_setIfInBounds]; omega)) only [↓pB, qB, ↓reduceIte, Nat.reduceLT, Nat.reduceEqDiff, Int.reducePow, Int.reduceMul, Int.reduceAdd, Int.reduceSub, Int.reduceMod, Int.reduceLT, Nat.reduceAdd, Nat.reduceMul, Int.reduceLE, Int.reduceToNat, Int.reduceEq, ↓p26, q26, h0, lk142 h1, hm]
/-- Catalog.Export: of a table without segments -/
theorem s25e {σ : Heap} {p t i n : Nat} {m : Ents} (h : Cat σ p m) {k : ByteArray} (hm : mfind k m 0 = some (i, t)) (ht : row? σ t = some ⟨#[.int .i64 n, .slice none 0 0, .slice none 0 0, .int .i64 0], false⟩) (hn : n < 1000) :
    wp (Call 25 #[.pointer (some ⟨p, 0, none⟩), .string k] σ) fun r => ∃ v, r.1 = .tuple #[v, .int .i64 0] ∧ FSl σ.size r.2 v ((putNum n ++ putNum 0) ++ wordBytes (crcOf (putNum n ++ putNum 0))) ∧ Grows σ r.2 := by
  refine wp_call (args := [_, _]) rfl Tryz.func25 rfl (Nat.le_of_ble_eq_true rfl) 20 ?_
  obtain ⟨b, c, h0, h1⟩ := h
  simp -implicitDefEqProofs (disch := first | decide | omega | assumption | exact Nat.le_of_ble_eq_true rfl | (simp only [Array.size_push, size_set, Array.size_setIfInBounds]; omega)) only [↓pB, qB, ↓reduceIte, Nat.reduceLT, Nat.reduceEqDiff, Int.reducePow, Int.reduceMul, Int.reduceAdd, Int.reduceSub, Int.reduceMod, Int.reduceLT, Nat.reduceAdd, Nat.reduceMul, Int.reduceLE, Int.reduceToNat, Int.reduceEq, ↓p25, q25, h0, lk142 h1, hm]
  refine wp_drawn dr25x4 ?_
  simp -implicitDefEqProofs (disch := first | decide | omega | assumption | exact Nat.le_of_ble_eq_true rfl | (simp only [Array.size_push, size_set, Array.size_setIfInBounds]; omega)) only [↓pB, qB, ↓reduceIte, Nat.reduceLT, Nat.reduceEqDiff, Int.reducePow, Int.reduceMul, Int.reduceAdd, Int.reduceSub, Int.reduceMod, Int.reduceLT, Nat.reduceAdd, Nat.reduceMul, Int.reduceLE, Int.reduceToNat, Int.reduceEq, ↓p25, q25, h0, ht]
  refine wp_bindK (s89 (by omega) σ) ?_
  rintro ⟨v1, σ1⟩ ⟨f1, g1⟩
  simp only at f1 g1
  have ht1 := g1.row ht
  rw [C_ef_chk g1.1 (by
    simp only [chkAll, chkL, lupd_same, chkRead, opAt_zero, opAt_succ, aRead, ld_51, ht1, offs_nil, mask_nil, unmask_nil, cellAt_some]
    rfl)]
  simp -implicitDefEqProofs (disch := first | decide | omega | assumption | exact Nat.le_of_ble_eq_true rfl | (simp only [Array.size_push, size_set, Array.size_setIfInBounds]; omega)) only [↓pB, qB, ↓reduceIte, Nat.reduceLT, Nat.reduceEqDiff, Int.reducePow, Int.reduceMul, Int.reduceAdd, Int.reduceSub, Int.reduceMod, Int.reduceLT, Nat.reduceAdd, Nat.reduceMul, Int.reduceLE, Int.reduceToNat, Int.reduceEq, ↓p25, q25, h0, ht]
  refine wp_bindK (s89 (n := 0) (by omega) σ1) ?_
  rintro ⟨v2, σ2⟩ ⟨f2, g2⟩
  simp only at f2 g2
  have z2 := g2.1
  have f2' := f2.mono g1.1
  obtain ⟨a1, c1, rfl⟩ := f1.bsl.slice
  obtain ⟨a2, c2, rfl⟩ := f2.bsl.slice
  simp -implicitDefEqProofs (disch := first | decide | omega | assumption | exact Nat.le_of_ble_eq_true rfl | (simp only [Array.size_push, size_set, Array.size_setIfInBounds]; omega)) only [↓pB, qB, ↓reduceIte, Nat.reduceLT, Nat.reduceEqDiff, Int.reducePow, Int.reduceMul, Int.reduceAdd, Int.reduceSub, Int.reduceMod, Int.reduceLT, Nat.reduceAdd, Nat.reduceMul, Int.reduceLE, Int.reduceToNat, Int.reduceEq, ↓p25, q25, h0, ht]
  have l1 := putNum_len n
  have l2 := putNum_len 0
  obtain ⟨v3, σ3, q1, q2, q3, q4⟩ := app_bytes (f1.grows g2) (g1.trans g2).1 f2.bsl (by omega)
  rw [q1]
  have g3 : Grows σ σ3 := by
    have g12 := g1.trans g2
    refine ⟨Nat.le_trans g12.1 q3, fun b hb => ?_⟩
    rw [q4 b (Nat.lt_of_lt_of_le hb g12.1) (fun a n c e => (Nat.ne_of_lt (Nat.lt_of_lt_of_le hb (f1.own e))).symm)]
    exact g12.2 b hb
  have ht3 := g3.row ht
  simp -implicitDefEqProofs (disch := first | decide | omega | assumption | exact Nat.le_of_ble_eq_true rfl | (simp only [Array.size_push, size_set, Array.size_setIfInBounds]; omega)) only [↓pB, qB, ↓reduceIte, Nat.reduceLT, Nat.reduceEqDiff, Int.reducePow, Int.reduceMul, Int.reduceAdd, Int.reduceSub, Int.reduceMod, Int.reduceLT, Nat.reduceAdd, Nat.reduceMul, Int.reduceLE, Int.reduceToNat, Int.reduceEq, ↓p25, q25, h0, ht3]
  have hl3 : (putNum n ++ putNum 0).length = (putNum n).length + (putNum 0).length := List.length_append
  refine wp_loop keep25x6 (fun k ρ σ' => k = 0 ∧ σ' = σ3 ∧ ρ 8 = v3 ∧ ρ 38 = .int .i64 0 ∧ ρ 39 = .int .i64 0)
    (fun e ρ σ' => e = .exit 0 ∧ σ' = σ3 ∧ ρ 8 = v3) 0 (by omega) ?_ ?_ ?_
  · refine ⟨rfl, rfl, ?_⟩
    simp -implicitDefEqProofs (disch := first | decide | omega | assumption | exact Nat.le_of_ble_eq_true rfl | (simp only [Array.size_push, size_set, Array.size_setIfInBounds]; omega)) only [↓pB, qB, ↓reduceIte, Nat.reduceLT, Nat.reduceEqDiff, Int.reducePow, Int.reduceMul, Int.reduceAdd, Int.reduceSub, Int.reduceMod, Int.reduceLT, Nat.reduceAdd, Nat.reduceMul, Int.reduceLE, Int.reduceToNat, Int.reduceEq, ↓p25, q25]
    simp
  · rintro k ρ _ ⟨rfl, rfl, r8, r38, r39⟩
    simp -implicitDefEqProofs (disch := first | decide | omega | assumption | exact Nat.le_of_ble_eq_true rfl | (simp only [Array.size_push, size_set, Array.size_setIfInBounds]; omega)) only [↓pB, qB, ↓reduceIte, Nat.reduceLT, Nat.reduceEqDiff, Int.reducePow, Int.reduceMul, Int.reduceAdd, Int.reduceSub, Int.reduceMod, Int.reduceLT, Nat.reduceAdd, Nat.reduceMul, Int.reduceLE, Int.reduceToNat, Int.reduceEq, ↓p25, q25, restrictE_def, List.foldl_cons, List.foldl_nil, r8, r38, r39]
    exact ⟨trivial, trivial, trivial⟩
  · rintro e ρ _ ⟨rfl, rfl, r8⟩
    simp -implicitDefEqProofs (disch := first | decide | omega | assumption | exact Nat.le_of_ble_eq_true rfl | (simp only [Array.size_push, size_set, Array.size_setIfInBounds]; omega)) only [↓pB, qB, ↓reduceIte, Nat.reduceLT, Nat.reduceEqDiff, Int.reducePow, Int.reduceMul, Int.reduceAdd, Int.reduceSub, Int.reduceMod, Int.reduceLT, Nat.reduceAdd, Nat.reduceMul, Int.reduceLE, Int.reduceToNat, Int.reduceEq, ↓p25, q25, restrictE_def, List.foldl_cons, List.foldl_nil, r8]
    refine wp_bindK (s91 q2.bsl (by omega)) ?_
    rintro ⟨v4, σ4⟩ ⟨f4, g4⟩
    simp -implicitDefEqProofs (disch := first | decide | omega | assumption | exact Nat.le_of_ble_eq_true rfl | (simp only [Array.size_push, size_set, Array.size_setIfInBounds]; omega)) only [↓pB, qB, ↓reduceIte, Nat.reduceLT, Nat.reduceEqDiff, Int.reducePow, Int.reduceMul, Int.reduceAdd, Int.reduceSub, Int.reduceMod, Int.reduceLT, Nat.reduceAdd, Nat.reduceMul, Int.reduceLE, Int.reduceToNat, Int.reduceEq, ↓p25, q25]
    exact ⟨_, rfl, f4.mono g3.1, g3.trans g4⟩
end Go.Abs
