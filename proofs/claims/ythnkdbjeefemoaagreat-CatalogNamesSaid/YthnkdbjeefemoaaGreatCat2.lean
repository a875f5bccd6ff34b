/-
  crc, cursor: bytes.
-/
import Derived.Test.YthnkdbjeefemoaaGreatCat1
set_option linter.unusedVariables false
set_option linter.unusedSimpArgs false
set_option linter.unusedSectionVars false
namespace Go.Abs
open Go Go.RowKit Go.Proofs
set_option maxRecDepth 10000

/-- slices.Clone of bytes -/
theorem s106 {σ : Heap} {v : Value} {l : List UInt8} (h : BSl σ v l) (hl : l.length < 549755813888) : wp (Call 106 #[v] σ) fun r => FSl σ.size r.2 r.1 l ∧ Grows σ r.2 := by
  refine wp_call (args := [_]) rfl Tryz.func106 rfl (Nat.le_of_ble_eq_true rfl) 20 ?_
  obtain ⟨a, c, rfl⟩ := h.slice
  simp -implicitDefEqProofs (disch := first | decide | omega | assumption | exact Nat.le_of_ble_eq_true rfl | (simp only [Array.size_push, size_set, Array.size_setIfInBounds]; omega)) only [↓pB, qB, ↓reduceIte, Nat.reduceLT, Nat.reduceEqDiff, Int.reducePow, Int.reduceMul, Int.reduceAdd, Int.reduceSub, Int.reduceMod, Int.reduceLT, Nat.reduceAdd, Nat.reduceMul, Int.reduceLE, Int.reduceToNat, Int.reduceEq, ↓p106, q106]
  cases a with
  | none =>
    generalize hn : l.length = n at h
    cases h
    simp -implicitDefEqProofs (disch := first | decide | omega | assumption | exact Nat.le_of_ble_eq_true rfl | (simp only [Array.size_push, size_set, Array.size_setIfInBounds]; omega)) only [↓pB, qB, ↓reduceIte, Nat.reduceLT, Nat.reduceEqDiff, Int.reducePow, Int.reduceMul, Int.reduceAdd, Int.reduceSub, Int.reduceMod, Int.reduceLT, Nat.reduceAdd, Nat.reduceMul, Int.reduceLE, Int.reduceToNat, Int.reduceEq, ↓p106, q106, Option.isNone_none]
    exact ⟨.nil, Grows.refl _⟩
  | some a =>
    simp -implicitDefEqProofs (disch := first | decide | omega | assumption | exact Nat.le_of_ble_eq_true rfl | (simp only [Array.size_push, size_set, Array.size_setIfInBounds]; omega)) only [↓pB, qB, ↓reduceIte, Nat.reduceLT, Nat.reduceEqDiff, Int.reducePow, Int.reduceMul, Int.reduceAdd, Int.reduceSub, Int.reduceMod, Int.reduceLT, Nat.reduceAdd, Nat.reduceMul, Int.reduceLE, Int.reduceToNat, Int.reduceEq, ↓p106, q106, Option.isNone_some]
    have g : Grows σ (σ.push (some (.row ⟨#[], false⟩))) := (Grows.refl σ).push _
    obtain ⟨v, σ', h1, h2, h3, h4⟩ := app_bytes (B := σ.size) (l := []) (FSl.row (Nat.le_refl _) row?_push_eq (.inr rfl)) g.1 (h.grows g) (by simpa using by omega)
    have h1' : aAppend Tryz.prog 22 (.slice (some ⟨σ.size, 0, some 1⟩) 0 1) (.slice (some a) l.length c) (σ.push (some (.row ⟨#[], false⟩))) = some (v, σ') := h1
    rw [h1']
    simp -implicitDefEqProofs (disch := first | decide | omega | assumption | exact Nat.le_of_ble_eq_true rfl | (simp only [Array.size_push, size_set, Array.size_setIfInBounds]; omega)) only [↓pB, qB, ↓reduceIte, Nat.reduceLT, Nat.reduceEqDiff, Int.reducePow, Int.reduceMul, Int.reduceAdd, Int.reduceSub, Int.reduceMod, Int.reduceLT, Nat.reduceAdd, Nat.reduceMul, Int.reduceLE, Int.reduceToNat, Int.reduceEq, ↓p106, q106]
    refine ⟨h2, Nat.le_trans g.1 h3, fun b hb => ?_⟩
    rw [h4 b (by simp; omega) (fun a n c e => by cases e; exact (Nat.ne_of_lt hb).symm)]
    exact g.2 b hb
theorem s146 (x : Nat) (hx : x < 4294967296) (σ : Heap) : wp (Call 146 #[.int .u32 x] σ) fun r => r = (.slice (some ⟨σ.size, 0, some 1⟩) 4 5, σ.push (some (.row ⟨bcells [UInt8.ofNat x, UInt8.ofNat (x / 256), UInt8.ofNat (x / 65536), UInt8.ofNat (x / 16777216)], false⟩))) := by
  refine wp_call (args := [_]) rfl Tryz.func146 rfl (Nat.le_of_ble_eq_true rfl) 20 ?_
  simp -implicitDefEqProofs (disch := first | decide | omega | assumption | exact Nat.le_of_ble_eq_true rfl | (simp only [Array.size_push, size_set, Array.size_setIfInBounds]; omega)) only [↓pB, qB, ↓reduceIte, Nat.reduceLT, Nat.reduceEqDiff, Int.reducePow, Int.reduceMul, Int.reduceAdd, Int.reduceSub, Int.reduceMod, Int.reduceLT, Nat.reduceAdd, Nat.reduceMul, Int.reduceLE, Int.reduceToNat, Int.reduceEq, ↓p146, q146]
  have e : #[Value.int .u8 ((x : Int) % 256), .int .u8 ((x : Int) / 256 % 256), .int .u8 ((x : Int) / 65536 % 256), .int .u8 ((x : Int) / 16777216)] =
      bcells [UInt8.ofNat x, UInt8.ofNat (x / 256), UInt8.ofNat (x / 65536), UInt8.ofNat (x / 16777216)] := by
    simp only [bcells, bv, List.map_cons, List.map_nil, UInt8.toNat_ofNat']
    have : x / 16777216 % 256 = x / 16777216 := by omega
    simp [this]
  rw [e]

/-- cursor.New -/
theorem s49 {σ : Heap} {v : Value} {l : List UInt8} (h : BSl σ v l) (hl : l.length < 549755813888) : wp (Call 49 #[v] σ) fun r => ∃ p a c, r.1 = .pointer (some ⟨p, 0, none⟩) ∧ σ.size ≤ p ∧ row? r.2 p = some ⟨#[.slice a l.length c, .int .i64 0, .int .i64 0], false⟩ ∧
    FSl σ.size r.2 (.slice a l.length c) l ∧ Grows σ r.2 := by
  refine wp_call (args := [_]) rfl Tryz.func49 rfl (Nat.le_of_ble_eq_true rfl) 20 ?_
  simp -implicitDefEqProofs (disch := first | decide | omega | assumption | exact Nat.le_of_ble_eq_true rfl | (simp only [Array.size_push, size_set, Array.size_setIfInBounds]; omega)) only [↓pB, qB, ↓reduceIte, Nat.reduceLT, Nat.reduceEqDiff, Int.reducePow, Int.reduceMul, Int.reduceAdd, Int.reduceSub, Int.reduceMod, Int.reduceLT, Nat.reduceAdd, Nat.reduceMul, Int.reduceLE, Int.reduceToNat, Int.reduceEq, ↓p49, q49]
  refine wp_bindK (s106 h hl) ?_
  rintro ⟨v', σ'⟩ ⟨hv, hg⟩
  simp only at hv hg
  have hb := hv.bsl.slice
  obtain ⟨a, c, rfl⟩ := hb
  simp -implicitDefEqProofs (disch := first | decide | omega | assumption | exact Nat.le_of_ble_eq_true rfl | (simp only [Array.size_push, size_set, Array.size_setIfInBounds]; omega)) only [↓pB, qB, ↓reduceIte, Nat.reduceLT, Nat.reduceEqDiff, Int.reducePow, Int.reduceMul, Int.reduceAdd, Int.reduceSub, Int.reduceMod, Int.reduceLT, Nat.reduceAdd, Nat.reduceMul, Int.reduceLE, Int.reduceToNat, Int.reduceEq, ↓p49, q49]
  refine ⟨_, _, _, rfl, hg.1, row?_push_eq, ?_, hg.push _⟩
  exact hv.grows ((Grows.refl _).push _)

/-- slices.Equal of bytes -/
theorem s161 {σ : Heap} {u v : Value} {l l' : List UInt8} (h : BSl σ u l) (h' : BSl σ v l') (hl : l.length < 549755813888) (hl' : l'.length < 549755813888) : wp (Call 161 #[u, v] σ) fun r => r = (.bool (decide (l = l')), σ) := by
  refine wp_call (args := [_, _]) rfl Tryz.func161 rfl (Nat.le_of_ble_eq_true rfl) (l.length + 5) ?_
  obtain ⟨a, c, rfl⟩ := h.slice
  obtain ⟨a', c', rfl⟩ := h'.slice
  simp -implicitDefEqProofs (disch := first | decide | omega | assumption | exact Nat.le_of_ble_eq_true rfl | (simp only [Array.size_push, size_set, Array.size_setIfInBounds]; omega)) only [↓pB, qB, ↓reduceIte, Nat.reduceLT, Nat.reduceEqDiff, Int.reducePow, Int.reduceMul, Int.reduceAdd, Int.reduceSub, Int.reduceMod, Int.reduceLT, Nat.reduceAdd, Nat.reduceMul, Int.reduceLE, Int.reduceToNat, Int.reduceEq, ↓p161, q161]
  (refine wp_ifK_dec (fun h1 => ?_) (fun h1 => ?_) <;> simp only [H_o, H_d, N_hold] <;> simp -implicitDefEqProofs (disch := first | decide | omega | assumption | exact Nat.le_of_ble_eq_true rfl | (simp only [Array.size_push, size_set, Array.size_setIfInBounds]; omega)) only [↓pB, qB, ↓reduceIte, Nat.reduceLT, Nat.reduceEqDiff, Int.reducePow, Int.reduceMul, Int.reduceAdd, Int.reduceSub, Int.reduceMod, Int.reduceLT, Nat.reduceAdd, Nat.reduceMul, Int.reduceLE, Int.reduceToNat, Int.reduceEq, ↓p161, q161, h1])
  rotate_left
  · have : ¬ l = l' := fun e => h1 (by rw [e])
    simp [this]
  · have hll : l.length = l'.length := by omega
    refine wp_loop keep161x4 (fun k ρ σ' => σ' = σ ∧ ∃ i : Nat, k = l.length - i ∧ i ≤ l.length ∧ (∀ j, j < i → l[j]? = l'[j]?) ∧ ρ 0 = .slice a l.length c ∧ ρ 1 = .slice a' l'.length c' ∧ ρ 12 = .int .i64 l.length ∧ ρ 13 = .int .i64 (i : Nat))
      (fun e ρ σ' => σ' = σ ∧ ((e = .exit 0 ∧ l = l') ∨ (e = .ret ∧ l ≠ l' ∧ ρ 4 = .bool false))) l.length (by omega) ?_ ?_ ?_
    · refine ⟨rfl, 0, rfl, by omega, by intro j hj; omega, ?_⟩
      simp -implicitDefEqProofs (disch := first | decide | omega | assumption | exact Nat.le_of_ble_eq_true rfl | (simp only [Array.size_push, size_set, Array.size_setIfInBounds]; omega)) only [↓pB, qB, ↓reduceIte, Nat.reduceLT, Nat.reduceEqDiff, Int.reducePow, Int.reduceMul, Int.reduceAdd, Int.reduceSub, Int.reduceMod, Int.reduceLT, Nat.reduceAdd, Nat.reduceMul, Int.reduceLE, Int.reduceToNat, Int.reduceEq, ↓p161, q161]
      simp [hll]
    · rintro k ρ _ ⟨rfl, i, rfl, hi, hsame, r0, r1, r12, r13⟩
      simp -implicitDefEqProofs (disch := first | decide | omega | assumption | exact Nat.le_of_ble_eq_true rfl | (simp only [Array.size_push, size_set, Array.size_setIfInBounds]; omega)) only [↓pB, qB, ↓reduceIte, Nat.reduceLT, Nat.reduceEqDiff, Int.reducePow, Int.reduceMul, Int.reduceAdd, Int.reduceSub, Int.reduceMod, Int.reduceLT, Nat.reduceAdd, Nat.reduceMul, Int.reduceLE, Int.reduceToNat, Int.reduceEq, ↓p161, q161, restrictE_def, List.foldl_cons, List.foldl_nil, r0, r1, r12, r13]
      refine wp_ifK_dec (fun hlt => ?_) (fun hge => ?_)
      · simp only [N_hold]
        simp -implicitDefEqProofs (disch := first | decide | omega | assumption | exact Nat.le_of_ble_eq_true rfl | (simp only [Array.size_push, size_set, Array.size_setIfInBounds]; omega)) only [↓pB, qB, ↓reduceIte, Nat.reduceLT, Nat.reduceEqDiff, Int.reducePow, Int.reduceMul, Int.reduceAdd, Int.reduceSub, Int.reduceMod, Int.reduceLT, Nat.reduceAdd, Nat.reduceMul, Int.reduceLE, Int.reduceToNat, Int.reduceEq, ↓p161, q161]
        refine wp_drawn dr161x6 ?_
        obtain ⟨b, o, rfl, hc⟩ := h.at (i := i) (by omega)
        obtain ⟨b', o', rfl, hc'⟩ := h'.at (i := i) (by omega)
        simp -implicitDefEqProofs (disch := first | decide | omega | assumption | exact Nat.le_of_ble_eq_true rfl | (simp only [Array.size_push, size_set, Array.size_setIfInBounds]; omega)) only [↓pB, qB, ↓reduceIte, Nat.reduceLT, Nat.reduceEqDiff, Int.reducePow, Int.reduceMul, Int.reduceAdd, Int.reduceSub, Int.reduceMod, Int.reduceLT, Nat.reduceAdd, Nat.reduceMul, Int.reduceLE, Int.reduceToNat, Int.reduceEq, ↓p161, q161, hc, hc', bv]
        have e1 : l[i]? = some (l[i]?.getD 0) := by rw [List.getElem?_eq_getElem (by omega)]; rfl
        have e2 : l'[i]? = some (l'[i]?.getD 0) := by rw [List.getElem?_eq_getElem (by omega)]; rfl
        (refine wp_ifK_dec (fun h2 => ?_) (fun h2 => ?_) <;> simp only [H_o, H_d, N_hold] <;> simp -implicitDefEqProofs (disch := first | decide | omega | assumption | exact Nat.le_of_ble_eq_true rfl | (simp only [Array.size_push, size_set, Array.size_setIfInBounds]; omega)) only [↓pB, qB, ↓reduceIte, Nat.reduceLT, Nat.reduceEqDiff, Int.reducePow, Int.reduceMul, Int.reduceAdd, Int.reduceSub, Int.reduceMod, Int.reduceLT, Nat.reduceAdd, Nat.reduceMul, Int.reduceLE, Int.reduceToNat, Int.reduceEq, ↓p161, q161, h2])
        · have h3 : l[i]?.getD 0 = l'[i]?.getD 0 := by
            apply UInt8.toNat_inj.1; omega
          refine ⟨l.length - (i + 1), by omega, trivial, i + 1, rfl, by omega, fun j hj => ?_, by simp⟩
          by_cases hji : j = i
          · subst hji; rw [e1, e2, h3]
          · exact hsame j (by omega)
        · refine ⟨trivial, .inr ⟨trivial, fun e => h2 (by rw [e]), trivial⟩⟩
      · simp only [N_hold]
        simp -implicitDefEqProofs (disch := first | decide | omega | assumption | exact Nat.le_of_ble_eq_true rfl | (simp only [Array.size_push, size_set, Array.size_setIfInBounds]; omega)) only [↓pB, qB, ↓reduceIte, Nat.reduceLT, Nat.reduceEqDiff, Int.reducePow, Int.reduceMul, Int.reduceAdd, Int.reduceSub, Int.reduceMod, Int.reduceLT, Nat.reduceAdd, Nat.reduceMul, Int.reduceLE, Int.reduceToNat, Int.reduceEq, ↓p161, q161]
        obtain rfl : i = l.length := by omega
        refine ⟨trivial, .inl ⟨trivial, ?_⟩⟩
        apply List.ext_getElem? 
        intro j
        by_cases hj : j < l.length
        · exact hsame j hj
        · rw [List.getElem?_eq_none (by omega), List.getElem?_eq_none (by omega)]
    · rintro e ρ _ ⟨rfl, h2⟩
      rcases h2 with ⟨rfl, h2⟩ | ⟨rfl, h2, h4⟩
      · simp -implicitDefEqProofs (disch := first | decide | omega | assumption | exact Nat.le_of_ble_eq_true rfl | (simp only [Array.size_push, size_set, Array.size_setIfInBounds]; omega)) only [↓pB, qB, ↓reduceIte, Nat.reduceLT, Nat.reduceEqDiff, Int.reducePow, Int.reduceMul, Int.reduceAdd, Int.reduceSub, Int.reduceMod, Int.reduceLT, Nat.reduceAdd, Nat.reduceMul, Int.reduceLE, Int.reduceToNat, Int.reduceEq, ↓p161, q161, restrictE_def, List.foldl_cons, List.foldl_nil]
        simp [h2]
      · simp -implicitDefEqProofs (disch := first | decide | omega | assumption | exact Nat.le_of_ble_eq_true rfl | (simp only [Array.size_push, size_set, Array.size_setIfInBounds]; omega)) only [↓pB, qB, ↓reduceIte, Nat.reduceLT, Nat.reduceEqDiff, Int.reducePow, Int.reduceMul, Int.reduceAdd, Int.reduceSub, Int.reduceMod, Int.reduceLT, Nat.reduceAdd, Nat.reduceMul, Int.reduceLE, Int.reduceToNat, Int.reduceEq, ↓p161, q161, restrictE_def, List.foldl_cons, List.foldl_nil, h4]
        simp [h2]

theorem crcFold_lt : ∀ (l : List UInt8) (s : Nat), s < 4294967296 → l.foldl crcUpd s < 4294967296
  | [], s, h => h
  | b :: l, s, h => crcFold_lt l _ (crcUpd_lt h b)
theorem crcOf_lt (l : List UInt8) : crcOf l < 4294967296 := Nat.xor_lt_two_pow (n := 32) (crcFold_lt l _ (by omega)) (by omega)
def wordBytes (x : Nat) : List UInt8 := [UInt8.ofNat x, UInt8.ofNat (x / 256), UInt8.ofNat (x / 65536), UInt8.ofNat (x / 16777216)]
/-- crc.Seal -/
theorem s91 {σ : Heap} {v : Value} {l : List UInt8} (h : BSl σ v l) (hl : l.length < 549755813888) : wp (Call 91 #[v] σ) fun r => FSl σ.size r.2 r.1 (l ++ wordBytes (crcOf l)) ∧ Grows σ r.2 := by
  refine wp_call (args := [_]) rfl Tryz.func91 rfl (Nat.le_of_ble_eq_true rfl) 20 ?_
  obtain ⟨a, c, rfl⟩ := h.slice
  simp -implicitDefEqProofs (disch := first | decide | omega | assumption | exact Nat.le_of_ble_eq_true rfl | (simp only [Array.size_push, size_set, Array.size_setIfInBounds]; omega)) only [↓pB, qB, ↓reduceIte, Nat.reduceLT, Nat.reduceEqDiff, Int.reducePow, Int.reduceMul, Int.reduceAdd, Int.reduceSub, Int.reduceMod, Int.reduceLT, Nat.reduceAdd, Nat.reduceMul, Int.reduceLE, Int.reduceToNat, Int.reduceEq, ↓p91, q91]
  refine wp_bindK (s106 h hl) ?_
  rintro ⟨v1, σ1⟩ ⟨f1, g1⟩
  simp only at f1 g1
  obtain ⟨a1, c1, rfl⟩ := f1.bsl.slice
  simp -implicitDefEqProofs (disch := first | decide | omega | assumption | exact Nat.le_of_ble_eq_true rfl | (simp only [Array.size_push, size_set, Array.size_setIfInBounds]; omega)) only [↓pB, qB, ↓reduceIte, Nat.reduceLT, Nat.reduceEqDiff, Int.reducePow, Int.reduceMul, Int.reduceAdd, Int.reduceSub, Int.reduceMod, Int.reduceLT, Nat.reduceAdd, Nat.reduceMul, Int.reduceLE, Int.reduceToNat, Int.reduceEq, ↓p91, q91]
  have g2 : Grows σ1 (σ1.push (some (.row ⟨#[.slice a l.length c], false⟩))) := (Grows.refl _).push _
  refine wp_bindK (s147 row?_push_eq (h.grows (g1.trans g2)) (by omega)) ?_
  rintro ⟨_, σ2⟩ ⟨rfl, g3⟩
  simp only at g3
  have hc := crcOf_lt l
  simp -implicitDefEqProofs (disch := first | decide | omega | assumption | exact Nat.le_of_ble_eq_true rfl | (simp only [Array.size_push, size_set, Array.size_setIfInBounds]; omega)) only [↓pB, qB, ↓reduceIte, Nat.reduceLT, Nat.reduceEqDiff, Int.reducePow, Int.reduceMul, Int.reduceAdd, Int.reduceSub, Int.reduceMod, Int.reduceLT, Nat.reduceAdd, Nat.reduceMul, Int.reduceLE, Int.reduceToNat, Int.reduceEq, ↓p91, q91]
  refine wp_bindK (s146 (crcOf l) hc _) ?_
  rintro _ rfl
  simp -implicitDefEqProofs (disch := first | decide | omega | assumption | exact Nat.le_of_ble_eq_true rfl | (simp only [Array.size_push, size_set, Array.size_setIfInBounds]; omega)) only [↓pB, qB, ↓reduceIte, Nat.reduceLT, Nat.reduceEqDiff, Int.reducePow, Int.reduceMul, Int.reduceAdd, Int.reduceSub, Int.reduceMod, Int.reduceLT, Nat.reduceAdd, Nat.reduceMul, Int.reduceLE, Int.reduceToNat, Int.reduceEq, ↓p91, q91]
  have g4 : Grows σ2 (σ2.push (some (.row ⟨bcells (wordBytes (crcOf l)), false⟩))) := (Grows.refl _).push _
  have g5 := (g2.trans g3).trans g4
  have hx : BSl (σ2.push (some (.row ⟨bcells (wordBytes (crcOf l)), false⟩))) (.slice (some ⟨σ2.size, 0, some 1⟩) 4 5) (wordBytes (crcOf l)) :=
    BSl.row (o := 0) (n := 4) (cs := wordBytes (crcOf l)) row?_push_eq (Nat.le_refl _)
  obtain ⟨w, σ', h1, h2, h3, h4⟩ := app_bytes (B := σ.size) (f1.grows g5) (g1.trans g5).1 hx (by simp [wordBytes]; omega)
  have h1' : aAppend Tryz.prog 22 (.slice a1 l.length c1) (.slice (some ⟨σ2.size, 0, some 1⟩) 4 5) (σ2.push (some (.row ⟨bcells [UInt8.ofNat (crcOf l), UInt8.ofNat (crcOf l / 256), UInt8.ofNat (crcOf l / 65536), UInt8.ofNat (crcOf l / 16777216)], false⟩))) = some (w, σ') := h1
  rw [h1']
  simp -implicitDefEqProofs (disch := first | decide | omega | assumption | exact Nat.le_of_ble_eq_true rfl | (simp only [Array.size_push, size_set, Array.size_setIfInBounds]; omega)) only [↓pB, qB, ↓reduceIte, Nat.reduceLT, Nat.reduceEqDiff, Int.reducePow, Int.reduceMul, Int.reduceAdd, Int.reduceSub, Int.reduceMod, Int.reduceLT, Nat.reduceAdd, Nat.reduceMul, Int.reduceLE, Int.reduceToNat, Int.reduceEq, ↓p91, q91]
  have g6 := g1.trans g5
  refine ⟨h2, Nat.le_trans g6.1 h3, fun b hb => ?_⟩
  rw [h4 b (Nat.lt_of_lt_of_le hb g6.1) (fun a n c e => ?_)]
  · exact g6.2 b hb
  · exact (Nat.ne_of_lt (Nat.lt_of_lt_of_le hb (f1.own e))).symm

/-- what stands ahead of a sum -/
def opened (l : List UInt8) : Option (List UInt8) := if 4 ≤ l.length ∧ l.drop (l.length - 4) = wordBytes (crcOf (l.take (l.length - 4))) then some (l.take (l.length - 4)) else none
/-- crc.Open -/
theorem s119 {σ : Heap} {v : Value} {l : List UInt8} (h : BSl σ v l) (hl : l.length < 549755813888) : wp (Call 119 #[v] σ) fun r => ∃ u, r.1 = .tuple #[u, .bool (opened l).isSome] ∧ FSl σ.size r.2 u ((opened l).getD []) ∧ Grows σ r.2 := by
  refine wp_call (args := [_]) rfl Tryz.func119 rfl (Nat.le_of_ble_eq_true rfl) 20 ?_
  obtain ⟨a, c, rfl⟩ := h.slice
  simp -implicitDefEqProofs (disch := first | decide | omega | assumption | exact Nat.le_of_ble_eq_true rfl | (simp only [Array.size_push, size_set, Array.size_setIfInBounds]; omega)) only [↓pB, qB, ↓reduceIte, Nat.reduceLT, Nat.reduceEqDiff, Int.reducePow, Int.reduceMul, Int.reduceAdd, Int.reduceSub, Int.reduceMod, Int.reduceLT, Nat.reduceAdd, Nat.reduceMul, Int.reduceLE, Int.reduceToNat, Int.reduceEq, ↓p119, q119]
  by_cases h4 : l.length < 4
  · have h4' : (l.length : Int) - 4 < 0 := by omega
    refine wp_drawn dr119x2 ?_
    simp -implicitDefEqProofs (disch := first | decide | omega | assumption | exact Nat.le_of_ble_eq_true rfl | (simp only [Array.size_push, size_set, Array.size_setIfInBounds]; omega)) only [↓pB, qB, ↓reduceIte, Nat.reduceLT, Nat.reduceEqDiff, Int.reducePow, Int.reduceMul, Int.reduceAdd, Int.reduceSub, Int.reduceMod, Int.reduceLT, Nat.reduceAdd, Nat.reduceMul, Int.reduceLE, Int.reduceToNat, Int.reduceEq, ↓p119, q119, h4']
    have ho : opened l = none := by unfold opened; rw [if_neg (by omega)]
    rw [ho]
    exact ⟨_, rfl, .nil, (Grows.refl σ).push _⟩
  · have h4' : ¬ (l.length : Int) - 4 < 0 := by omega
    obtain ⟨b, o, cs, ro, rfl, hrow, hn, hcs⟩ := h.toRow (by omega)
    obtain ⟨k, hk⟩ : ∃ k, l.length = k + 4 := ⟨l.length - 4, by omega⟩
    have e1 : ((l.length : Int) - 4).toNat = k := by omega
    have e2 : l.length - k = 4 := by omega
    refine wp_drawn dr119x2 ?_
    simp -implicitDefEqProofs (disch := first | decide | omega | assumption | exact Nat.le_of_ble_eq_true rfl | (simp only [Array.size_push, size_set, Array.size_setIfInBounds]; omega)) only [↓pB, qB, ↓reduceIte, Nat.reduceLT, Nat.reduceEqDiff, Int.reducePow, Int.reduceMul, Int.reduceAdd, Int.reduceSub, Int.reduceMod, Int.reduceLT, Nat.reduceAdd, Nat.reduceMul, Int.reduceLE, Int.reduceToNat, Int.reduceEq, ↓p119, q119, h4', e1, e2]
    have g1 : Grows σ (σ.push (some (.row ⟨#[.slice (some ⟨b, o, some 1⟩) k c], false⟩))) := (Grows.refl _).push _
    have hp1 : BSl σ (.slice (some ⟨b, o, some 1⟩) k c) (l.take k) := by simpa using h.part (i := 0) (k := k) (c' := c) (by omega)
    have hp2 : BSl σ (.slice (some ⟨b, o + k, some 1⟩) 4 (c - k)) (l.drop k) := by
      have := h.part (i := k) (k := 4) (c' := c - k) (by omega)
      rwa [List.take_of_length_le (by rw [List.length_drop]; omega)] at this
    have ht : (l.take k).length = k := by rw [List.length_take]; omega
    refine wp_bindK (s147 row?_push_eq (hp1.grows g1) (by omega)) ?_
    rintro ⟨_, σ2⟩ ⟨rfl, g2⟩
    simp only at g2
    have z2 := g2.1
    have hc := crcOf_lt (l.take k)
    simp -implicitDefEqProofs (disch := first | decide | omega | assumption | exact Nat.le_of_ble_eq_true rfl | (simp only [Array.size_push, size_set, Array.size_setIfInBounds]; omega)) only [↓pB, qB, ↓reduceIte, Nat.reduceLT, Nat.reduceEqDiff, Int.reducePow, Int.reduceMul, Int.reduceAdd, Int.reduceSub, Int.reduceMod, Int.reduceLT, Nat.reduceAdd, Nat.reduceMul, Int.reduceLE, Int.reduceToNat, Int.reduceEq, ↓p119, q119, h4', e1, e2]
    refine wp_bindK (s146 _ hc _) ?_
    rintro _ rfl
    have g3 : Grows σ2 (σ2.push (some (.row ⟨bcells (wordBytes (crcOf (l.take k))), false⟩))) := (Grows.refl σ2).push _
    have z3 := g3.1
    simp -implicitDefEqProofs (disch := first | decide | omega | assumption | exact Nat.le_of_ble_eq_true rfl | (simp only [Array.size_push, size_set, Array.size_setIfInBounds]; omega)) only [↓pB, qB, ↓reduceIte, Nat.reduceLT, Nat.reduceEqDiff, Int.reducePow, Int.reduceMul, Int.reduceAdd, Int.reduceSub, Int.reduceMod, Int.reduceLT, Nat.reduceAdd, Nat.reduceMul, Int.reduceLE, Int.reduceToNat, Int.reduceEq, ↓p119, q119, h4', e1, e2]
    have g123 := (g1.trans g2).trans g3
    have hw : BSl (σ2.push (some (.row ⟨bcells (wordBytes (crcOf (l.take k))), false⟩))) (.slice (some ⟨σ2.size, 0, some 1⟩) 4 5) (wordBytes (crcOf (l.take k))) :=
      BSl.row (o := 0) (n := 4) (cs := wordBytes (crcOf (l.take k))) row?_push_eq (Nat.le_refl _)
    refine wp_bindK (s161 (hp2.grows g123) hw (by rw [List.length_drop]; omega) (by simp [wordBytes])) ?_
    rintro _ rfl
    have ho : opened l = if l.drop k = wordBytes (crcOf (l.take k)) then some (l.take k) else none := by
      unfold opened
      rw [show l.length - 4 = k by omega]
      by_cases hq : l.drop k = wordBytes (crcOf (l.take k))
      · rw [if_pos hq, if_pos ⟨by omega, hq⟩]
      · rw [if_neg hq, if_neg (fun x => hq x.2)]
    by_cases hq : l.drop k = wordBytes (crcOf (l.take k))
    · simp -implicitDefEqProofs (disch := first | decide | omega | assumption | exact Nat.le_of_ble_eq_true rfl | (simp only [Array.size_push, size_set, Array.size_setIfInBounds]; omega)) only [↓pB, qB, ↓reduceIte, Nat.reduceLT, Nat.reduceEqDiff, Int.reducePow, Int.reduceMul, Int.reduceAdd, Int.reduceSub, Int.reduceMod, Int.reduceLT, Nat.reduceAdd, Nat.reduceMul, Int.reduceLE, Int.reduceToNat, Int.reduceEq, ↓p119, q119, h4', e1, e2, hq]
      refine wp_bindK (s106 (hp1.grows g123) (by omega)) ?_
      rintro ⟨u, σ4⟩ ⟨f4, g4⟩
      simp -implicitDefEqProofs (disch := first | decide | omega | assumption | exact Nat.le_of_ble_eq_true rfl | (simp only [Array.size_push, size_set, Array.size_setIfInBounds]; omega)) only [↓pB, qB, ↓reduceIte, Nat.reduceLT, Nat.reduceEqDiff, Int.reducePow, Int.reduceMul, Int.reduceAdd, Int.reduceSub, Int.reduceMod, Int.reduceLT, Nat.reduceAdd, Nat.reduceMul, Int.reduceLE, Int.reduceToNat, Int.reduceEq, ↓p119, q119]
      rw [ho, if_pos hq]
      exact ⟨_, rfl, f4.mono g123.1, g123.trans g4⟩
    · simp -implicitDefEqProofs (disch := first | decide | omega | assumption | exact Nat.le_of_ble_eq_true rfl | (simp only [Array.size_push, size_set, Array.size_setIfInBounds]; omega)) only [↓pB, qB, ↓reduceIte, Nat.reduceLT, Nat.reduceEqDiff, Int.reducePow, Int.reduceMul, Int.reduceAdd, Int.reduceSub, Int.reduceMod, Int.reduceLT, Nat.reduceAdd, Nat.reduceMul, Int.reduceLE, Int.reduceToNat, Int.reduceEq, ↓p119, q119, h4', e1, e2, hq]
      rw [ho, if_neg hq]
      exact ⟨_, rfl, .nil, g123⟩
end Go.Abs
