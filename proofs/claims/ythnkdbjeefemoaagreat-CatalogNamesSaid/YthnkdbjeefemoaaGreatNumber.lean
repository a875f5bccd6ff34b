/-
  cursor.Number, cursor.Put.
-/
import Derived.Test.YthnkdbjeefemoaaGreatCur
set_option linter.unusedVariables false
set_option linter.unusedSimpArgs false
set_option linter.unusedSectionVars false
namespace Go.Abs
open Go Go.RowKit Go.Proofs
set_option maxRecDepth 10000

/-- a number's bytes, read: what is left in error e, or the number and how many bytes -/
def numGo : List UInt8 → Nat → Nat → Except Int (Nat × Nat)
  | [], _, _ => .error 2
  | b :: l, i, x =>
    if i = 9 then .error 3
    else if b.toNat < 128 then (if b.toNat = 0 ∧ 0 < i then .error 3 else .ok (x ||| (b.toNat * 2 ^ (7 * i)), i + 1))
    else numGo l (i + 1) (x ||| ((b.toNat % 128) * 2 ^ (7 * i)))
/-- what is behind a place -/
theorem slice_from {σ : Heap} {a : Option Addr} {n c i : Nat} {l : List UInt8} (h : BSl σ (.slice a n c) l) (hi : i ≤ n) :
    ∃ a2 c2, aSlice Tryz.prog 22 (.slice a n c) (some (.int .i64 (i : Nat))) none none = some (.slice a2 (n - i) c2) ∧ BSl σ (.slice a2 (n - i) c2) (l.drop i) := by
  have e1 : optNat 0 (some (.int .i64 ((i : Nat) : Int))) = some i := optNat_int (by omega)
  have hl := h.len
  cases a with
  | none =>
    obtain ⟨rfl, rfl⟩ := h.none_len
    obtain rfl : i = 0 := by omega
    refine ⟨none, c, ?_, by simpa using BSl.nil c⟩
    rw [sln_22, e1]; rfl
  | some x =>
    obtain ⟨b, o, rfl⟩ := h.form
    refine ⟨some ⟨b, o + i * 1, some 1⟩, c - i, ?_, ?_⟩
    · rw [sl_22, e1]
      exact slc_ok hi (Nat.le_refl _)
    · have := h.part (i := i) (k := n - i) (c' := c - i) (by omega)
      rw [List.take_of_length_le (by rw [List.length_drop]; omega)] at this
      rwa [Nat.mul_one]
theorem s140 {σ : Heap} {p : Nat} {l : List UInt8} {i : Nat} {e : Int} (h : Cur σ p l i e) : wp (Call 140 #[.pointer (some ⟨p, 0, none⟩)] σ) fun r =>
    Only p σ r.2 ∧
    if e ≠ 0 then r = (.int .i64 0, σ)
    else match numGo (l.drop i) 0 0 with
      | .error e' => r.1 = .int .i64 0 ∧ Cur r.2 p l i e'
      | .ok (x, k) => r.1 = .int .i64 x ∧ Cur r.2 p l (i + k) 0 := by
  refine wp_call (args := [_]) rfl Tryz.func140 rfl (Nat.le_of_ble_eq_true rfl) (l.length + 5) ?_
  obtain ⟨⟨a, c, h0, hb, hne⟩, hi, hlt⟩ := h
  have hp := row?_lt h0
  simp -implicitDefEqProofs (disch := first | decide | omega | assumption | exact Nat.le_of_ble_eq_true rfl | (simp only [Array.size_push, size_set, Array.size_setIfInBounds]; omega)) only [↓pB, qB, ↓reduceIte, Nat.reduceLT, Nat.reduceEqDiff, Int.reducePow, Int.reduceMul, Int.reduceAdd, Int.reduceSub, Int.reduceMod, Int.reduceLT, Nat.reduceAdd, Nat.reduceMul, Int.reduceLE, Int.reduceToNat, Int.reduceEq, ↓p140, q140, h0]
  (refine wp_ifK_dec (fun h1 => ?_) (fun h1 => ?_) <;> simp only [H_o, H_d, N_hold] <;> simp -implicitDefEqProofs (disch := first | decide | omega | assumption | exact Nat.le_of_ble_eq_true rfl | (simp only [Array.size_push, size_set, Array.size_setIfInBounds]; omega)) only [↓pB, qB, ↓reduceIte, Nat.reduceLT, Nat.reduceEqDiff, Int.reducePow, Int.reduceMul, Int.reduceAdd, Int.reduceSub, Int.reduceMod, Int.reduceLT, Nat.reduceAdd, Nat.reduceMul, Int.reduceLE, Int.reduceToNat, Int.reduceEq, ↓p140, q140, h1, h0])
  · subst h1
    obtain ⟨a2, c2, hs, hb2⟩ := slice_from hb hi
    refine wp_drawn dr140x4 ?_
    simp -implicitDefEqProofs (disch := first | decide | omega | assumption | exact Nat.le_of_ble_eq_true rfl | (simp only [Array.size_push, size_set, Array.size_setIfInBounds]; omega)) only [↓pB, qB, ↓reduceIte, Nat.reduceLT, Nat.reduceEqDiff, Int.reducePow, Int.reduceMul, Int.reduceAdd, Int.reduceSub, Int.reduceMod, Int.reduceLT, Nat.reduceAdd, Nat.reduceMul, Int.reduceLE, Int.reduceToNat, Int.reduceEq, ↓p140, q140, h0, hs]
    refine wp_loop keep140x5 (fun k ρ σ' => σ' = σ ∧ ∃ j x : Nat, k = l.length - i - j ∧ j ≤ l.length - i ∧ x < 2 ^ (7 * j) ∧ j ≤ 9 ∧ numGo ((l.drop i).drop j) j x = numGo (l.drop i) 0 0 ∧ ρ 0 = .pointer (some ⟨p, 0, none⟩) ∧ ρ 3 = .int .i64 x ∧ ρ 19 = .slice a2 (l.length - i) c2 ∧ ρ 20 = .int .i64 (l.length - i : Nat) ∧ ρ 21 = .int .i64 j)
      (fun e ρ σ' => (e = .exit 0 ∧ σ' = σ ∧ numGo (l.drop i) 0 0 = .error 2 ∧ ρ 0 = .pointer (some ⟨p, 0, none⟩)) ∨
        (e = .ret ∧ Only p σ σ' ∧ match numGo (l.drop i) 0 0 with
          | .error e' => ρ 2 = .int .i64 0 ∧ Cur σ' p l i e'
          | .ok (x, k) => ρ 2 = .int .i64 x ∧ Cur σ' p l (i + k) 0)) (l.length - i) (by omega) ?_ ?_ ?_
    · refine ⟨rfl, 0, 0, by omega, by omega, by decide, by omega, rfl, ?_⟩
      simp -implicitDefEqProofs (disch := first | decide | omega | assumption | exact Nat.le_of_ble_eq_true rfl | (simp only [Array.size_push, size_set, Array.size_setIfInBounds]; omega)) only [↓pB, qB, ↓reduceIte, Nat.reduceLT, Nat.reduceEqDiff, Int.reducePow, Int.reduceMul, Int.reduceAdd, Int.reduceSub, Int.reduceMod, Int.reduceLT, Nat.reduceAdd, Nat.reduceMul, Int.reduceLE, Int.reduceToNat, Int.reduceEq, ↓p140, q140]
      simp
    · rintro k ρ σ1 ⟨hσ1, j, x, rfl, hj, hx, hj9, hnum, r0, r3, r19, r20, r21⟩
      rw [hσ1]
      simp -implicitDefEqProofs (disch := first | decide | omega | assumption | exact Nat.le_of_ble_eq_true rfl | (simp only [Array.size_push, size_set, Array.size_setIfInBounds]; omega)) only [↓pB, qB, ↓reduceIte, Nat.reduceLT, Nat.reduceEqDiff, Int.reducePow, Int.reduceMul, Int.reduceAdd, Int.reduceSub, Int.reduceMod, Int.reduceLT, Nat.reduceAdd, Nat.reduceMul, Int.reduceLE, Int.reduceToNat, Int.reduceEq, ↓p140, q140, restrictE_def, List.foldl_cons, List.foldl_nil, r0, r3, r19, r20, r21]
      refine wp_ifK_dec (fun hlt => ?_) (fun hge => ?_)
      · simp only [N_hold]
        obtain ⟨b, o, rfl, hc⟩ := hb2.at (i := j) (by omega)
        simp -implicitDefEqProofs (disch := first | decide | omega | assumption | exact Nat.le_of_ble_eq_true rfl | (simp only [Array.size_push, size_set, Array.size_setIfInBounds]; omega)) only [↓pB, qB, ↓reduceIte, Nat.reduceLT, Nat.reduceEqDiff, Int.reducePow, Int.reduceMul, Int.reduceAdd, Int.reduceSub, Int.reduceMod, Int.reduceLT, Nat.reduceAdd, Nat.reduceMul, Int.reduceLE, Int.reduceToNat, Int.reduceEq, ↓p140, q140, h0, hc, bv]
        have hsplit : (l.drop i).drop j = (l.drop i)[j]?.getD 0 :: (l.drop i).drop (j + 1) := by
          have hjl : j < (l.drop i).length := by rw [List.length_drop]; omega
          rw [List.drop_eq_getElem_cons hjl, List.getElem?_eq_getElem hjl]; rfl
        generalize hbb : (l.drop i)[j]?.getD 0 = bb at *
        have hb8 := bb.toNat_lt
        rw [hsplit] at hnum
        have hand : bb.toNat &&& 127 = bb.toNat % 128 := Nat.and_two_pow_sub_one_eq_mod bb.toNat 7
        have h7 : ((7 : Int) * (j : Nat)).toNat = 7 * j := by omega
        have hbits : ((7 : Int) * (j : Nat)).toNat ≤ IntKind.i64.bits := by show _ ≤ 64; omega
        (refine wp_ifK_dec (fun h9 => ?_) (fun h9 => ?_) <;> simp only [H_o, H_d, N_hold] <;> simp -implicitDefEqProofs (disch := first | decide | omega | assumption | exact Nat.le_of_ble_eq_true rfl | (simp only [Array.size_push, size_set, Array.size_setIfInBounds]; omega)) only [↓pB, qB, ↓reduceIte, Nat.reduceLT, Nat.reduceEqDiff, Int.reducePow, Int.reduceMul, Int.reduceAdd, Int.reduceSub, Int.reduceMod, Int.reduceLT, Nat.reduceAdd, Nat.reduceMul, Int.reduceLE, Int.reduceToNat, Int.reduceEq, ↓p140, q140, h9, h0])
        · refine wp_bindK (s162 h0 hi (by omega) 3) ?_
          rintro _ rfl
          simp -implicitDefEqProofs (disch := first | decide | omega | assumption | exact Nat.le_of_ble_eq_true rfl | (simp only [Array.size_push, size_set, Array.size_setIfInBounds]; omega)) only [↓pB, qB, ↓reduceIte, Nat.reduceLT, Nat.reduceEqDiff, Int.reducePow, Int.reduceMul, Int.reduceAdd, Int.reduceSub, Int.reduceMod, Int.reduceLT, Nat.reduceAdd, Nat.reduceMul, Int.reduceLE, Int.reduceToNat, Int.reduceEq, ↓p140, q140]
          have hn : numGo (l.drop i) 0 0 = .error 3 := by
            rw [← hnum, show j = 9 by omega]; rfl
          rw [hn]
          exact .inr ⟨trivial, Only.set _ _ _, trivial, cur_set hp hb hne hi (by assumption)⟩
        · have hj8 : j ≤ 8 := by omega
          have hpow : 2 ^ (7 * j) ≤ 2 ^ 56 := Nat.pow_le_pow_right (by decide) (by omega)
          have hbnd : (bb.toNat % 128) * 2 ^ (7 * j) < 2 ^ 63 :=
            Nat.lt_of_lt_of_le (Nat.mul_lt_mul_of_lt_of_le (show bb.toNat % 128 < 128 by omega) hpow (by decide)) (by decide)
          have hcast : ((bb.toNat % 128 : Nat) : Int) * 2 ^ (7 * j) = (((bb.toNat % 128) * 2 ^ (7 * j) : Nat) : Int) := by simp
          have hx63 : x < 2 ^ 63 := Nat.lt_of_lt_of_le hx (Nat.pow_le_pow_right (by decide) (by omega))
          simp -implicitDefEqProofs (disch := first | decide | omega | assumption | exact Nat.le_of_ble_eq_true rfl | (simp only [Array.size_push, size_set, Array.size_setIfInBounds]; omega)) only [↓pB, qB, ↓reduceIte, Nat.reduceLT, Nat.reduceEqDiff, Int.reducePow, Int.reduceMul, Int.reduceAdd, Int.reduceSub, Int.reduceMod, Int.reduceLT, Nat.reduceAdd, Nat.reduceMul, Int.reduceLE, Int.reduceToNat, Int.reduceEq, ↓p140, q140, hand, h7, hcast]
          have hxor : x ||| ((bb.toNat % 128) * 2 ^ (7 * j)) < 2 ^ (7 * (j + 1)) := by
            refine Nat.or_lt_two_pow (Nat.lt_of_lt_of_le hx (Nat.pow_le_pow_right (by decide) (by omega))) ?_
            rw [show 7 * (j + 1) = 7 + 7 * j by omega, Nat.pow_add]
            exact Nat.mul_lt_mul_of_pos_right (by omega) (Nat.pos_of_ne_zero (by simp))
          have hstep : numGo (l.drop i) 0 0 = if bb.toNat < 128 then (if bb.toNat = 0 ∧ 0 < j then .error 3 else .ok (x ||| (bb.toNat * 2 ^ (7 * j)), j + 1)) else numGo ((l.drop i).drop (j + 1)) (j + 1) (x ||| ((bb.toNat % 128) * 2 ^ (7 * j))) := by
            rw [← hnum]
            show (if j = 9 then _ else _) = _
            rw [if_neg (by omega)]
          refine wp_ifK_dec (fun h8 => ?_) (fun h8 => ?_)
          · simp only [N_hold]
            have hmod : bb.toNat % 128 = bb.toNat := by omega
            rw [if_pos (by omega)] at hstep
            simp -implicitDefEqProofs (disch := first | decide | omega | assumption | exact Nat.le_of_ble_eq_true rfl | (simp only [Array.size_push, size_set, Array.size_setIfInBounds]; omega)) only [↓pB, qB, ↓reduceIte, Nat.reduceLT, Nat.reduceEqDiff, Int.reducePow, Int.reduceMul, Int.reduceAdd, Int.reduceSub, Int.reduceMod, Int.reduceLT, Nat.reduceAdd, Nat.reduceMul, Int.reduceLE, Int.reduceToNat, Int.reduceEq, ↓p140, q140, h0]
            have hadd : ((i : Int) + ((j : Int) + 1)) = ((i + (j + 1) : Nat) : Int) := by omega
            have fin : ∀ (hz : ¬ (bb.toNat = 0 ∧ 0 < j)), (Only p σ (aSetRow σ p ⟨#[.slice a l.length c, .int .i64 ((i : Int) + ((j : Int) + 1)), .int .i64 0], false⟩) ∧ match numGo (l.drop i) 0 0 with
                | .error e' => Value.int .i64 ((x ||| (bb.toNat % 128) * 2 ^ (7 * j) : Nat) : Int) = .int .i64 0 ∧ Cur (aSetRow σ p ⟨#[.slice a l.length c, .int .i64 ((i : Int) + ((j : Int) + 1)), .int .i64 0], false⟩) p l i e'
                | .ok (y, k) => Value.int .i64 ((x ||| (bb.toNat % 128) * 2 ^ (7 * j) : Nat) : Int) = .int .i64 y ∧ Cur (aSetRow σ p ⟨#[.slice a l.length c, .int .i64 ((i : Int) + ((j : Int) + 1)), .int .i64 0], false⟩) p l (i + k) 0) := by
              intro hz
              rw [if_neg hz] at hstep
              rw [hstep, hmod, hadd]
              exact ⟨Only.set _ _ _, rfl, cur_set hp hb hne (by omega) (by assumption)⟩
            (refine wp_ifK_dec (fun h10 => ?_) (fun h10 => ?_) <;> simp only [H_o, H_d, N_hold] <;> simp -implicitDefEqProofs (disch := first | decide | omega | assumption | exact Nat.le_of_ble_eq_true rfl | (simp only [Array.size_push, size_set, Array.size_setIfInBounds]; omega)) only [↓pB, qB, ↓reduceIte, Nat.reduceLT, Nat.reduceEqDiff, Int.reducePow, Int.reduceMul, Int.reduceAdd, Int.reduceSub, Int.reduceMod, Int.reduceLT, Nat.reduceAdd, Nat.reduceMul, Int.reduceLE, Int.reduceToNat, Int.reduceEq, ↓p140, q140, h10, h0])
            · (refine wp_ifK_dec (fun h11 => ?_) (fun h11 => ?_) <;> simp only [H_o, H_d, N_hold] <;> simp -implicitDefEqProofs (disch := first | decide | omega | assumption | exact Nat.le_of_ble_eq_true rfl | (simp only [Array.size_push, size_set, Array.size_setIfInBounds]; omega)) only [↓pB, qB, ↓reduceIte, Nat.reduceLT, Nat.reduceEqDiff, Int.reducePow, Int.reduceMul, Int.reduceAdd, Int.reduceSub, Int.reduceMod, Int.reduceLT, Nat.reduceAdd, Nat.reduceMul, Int.reduceLE, Int.reduceToNat, Int.reduceEq, ↓p140, q140, h11, h0])
              · refine wp_bindK (s162 h0 hi (by omega) 3) ?_
                rintro _ rfl
                simp -implicitDefEqProofs (disch := first | decide | omega | assumption | exact Nat.le_of_ble_eq_true rfl | (simp only [Array.size_push, size_set, Array.size_setIfInBounds]; omega)) only [↓pB, qB, ↓reduceIte, Nat.reduceLT, Nat.reduceEqDiff, Int.reducePow, Int.reduceMul, Int.reduceAdd, Int.reduceSub, Int.reduceMod, Int.reduceLT, Nat.reduceAdd, Nat.reduceMul, Int.reduceLE, Int.reduceToNat, Int.reduceEq, ↓p140, q140]
                rw [if_pos ⟨by omega, by omega⟩] at hstep
                rw [hstep]
                exact .inr ⟨trivial, Only.set _ _ _, trivial, cur_set hp hb hne hi (by assumption)⟩
              · exact .inr ⟨trivial, fin (by omega)⟩
            · exact .inr ⟨trivial, fin (by omega)⟩
          · simp only [N_hold]
            simp -implicitDefEqProofs (disch := first | decide | omega | assumption | exact Nat.le_of_ble_eq_true rfl | (simp only [Array.size_push, size_set, Array.size_setIfInBounds]; omega)) only [↓pB, qB, ↓reduceIte, Nat.reduceLT, Nat.reduceEqDiff, Int.reducePow, Int.reduceMul, Int.reduceAdd, Int.reduceSub, Int.reduceMod, Int.reduceLT, Nat.reduceAdd, Nat.reduceMul, Int.reduceLE, Int.reduceToNat, Int.reduceEq, ↓p140, q140]
            rw [if_neg (by omega)] at hstep
            refine ⟨l.length - i - (j + 1), by omega, trivial, j + 1, _, rfl, by omega, hxor, by omega, hstep.symm, ?_⟩
            simp
      · simp only [N_hold]
        simp -implicitDefEqProofs (disch := first | decide | omega | assumption | exact Nat.le_of_ble_eq_true rfl | (simp only [Array.size_push, size_set, Array.size_setIfInBounds]; omega)) only [↓pB, qB, ↓reduceIte, Nat.reduceLT, Nat.reduceEqDiff, Int.reducePow, Int.reduceMul, Int.reduceAdd, Int.reduceSub, Int.reduceMod, Int.reduceLT, Nat.reduceAdd, Nat.reduceMul, Int.reduceLE, Int.reduceToNat, Int.reduceEq, ↓p140, q140]
        obtain rfl : j = l.length - i := by omega
        refine .inl ⟨trivial, trivial, ?_, trivial⟩
        rw [← hnum, List.drop_eq_nil_of_le (by rw [List.length_drop]; omega)]
        rfl
    · rintro e ρ σ1 (⟨rfl, rfl, h2, r0⟩ | ⟨rfl, ho, h2⟩)
      · simp -implicitDefEqProofs (disch := first | decide | omega | assumption | exact Nat.le_of_ble_eq_true rfl | (simp only [Array.size_push, size_set, Array.size_setIfInBounds]; omega)) only [↓pB, qB, ↓reduceIte, Nat.reduceLT, Nat.reduceEqDiff, Int.reducePow, Int.reduceMul, Int.reduceAdd, Int.reduceSub, Int.reduceMod, Int.reduceLT, Nat.reduceAdd, Nat.reduceMul, Int.reduceLE, Int.reduceToNat, Int.reduceEq, ↓p140, q140, restrictE_def, List.foldl_cons, List.foldl_nil, r0]
        refine wp_bindK (s162 h0 hi (by omega) 2) ?_
        rintro _ rfl
        simp -implicitDefEqProofs (disch := first | decide | omega | assumption | exact Nat.le_of_ble_eq_true rfl | (simp only [Array.size_push, size_set, Array.size_setIfInBounds]; omega)) only [↓pB, qB, ↓reduceIte, Nat.reduceLT, Nat.reduceEqDiff, Int.reducePow, Int.reduceMul, Int.reduceAdd, Int.reduceSub, Int.reduceMod, Int.reduceLT, Nat.reduceAdd, Nat.reduceMul, Int.reduceLE, Int.reduceToNat, Int.reduceEq, ↓p140, q140]
        rw [h2]
        exact ⟨Only.set _ _ _, trivial, cur_set hp hb hne hi hlt⟩
      · simp -implicitDefEqProofs (disch := first | decide | omega | assumption | exact Nat.le_of_ble_eq_true rfl | (simp only [Array.size_push, size_set, Array.size_setIfInBounds]; omega)) only [↓pB, qB, ↓reduceIte, Nat.reduceLT, Nat.reduceEqDiff, Int.reducePow, Int.reduceMul, Int.reduceAdd, Int.reduceSub, Int.reduceMod, Int.reduceLT, Nat.reduceAdd, Nat.reduceMul, Int.reduceLE, Int.reduceToNat, Int.reduceEq, ↓p140, q140, restrictE_def, List.foldl_cons, List.foldl_nil]
        refine ⟨ho, ?_⟩
        revert h2
        cases numGo (l.drop i) 0 0 with
        | error e' => exact fun h2 => h2
        | ok r => exact fun h2 => h2
  · exact ⟨Only.refl _ _, trivial⟩

theorem numGo_bound : ∀ (l : List UInt8) (i x y k : Nat), x < 2 ^ (7 * i) → i ≤ 9 → numGo l i x = .ok (y, k) → y < 2 ^ 63 ∧ k ≤ i + l.length ∧ 0 < k
  | [], i, x, y, k, _, _, h => by cases h
  | b :: l, i, x, y, k, hx, hi, h => by
    have hb := b.toNat_lt
    simp only [numGo] at h
    split at h
    · cases h
    · rename_i h9
      have hor : ∀ z, z < 128 → x ||| (z * 2 ^ (7 * i)) < 2 ^ (7 * (i + 1)) := by
        intro z hz
        refine Nat.or_lt_two_pow (Nat.lt_of_lt_of_le hx (Nat.pow_le_pow_right (by decide) (by omega))) ?_
        rw [show 7 * (i + 1) = 7 + 7 * i by omega, Nat.pow_add]
        exact Nat.mul_lt_mul_of_pos_right (by omega) (Nat.pos_of_ne_zero (by simp))
      split at h
      · rename_i h8
        split at h
        · cases h
        · simp only [Except.ok.injEq, Prod.mk.injEq] at h
          obtain ⟨rfl, rfl⟩ := h
          exact ⟨Nat.lt_of_lt_of_le (hor _ h8) (Nat.pow_le_pow_right (by decide) (by omega)), by simp, by omega⟩
      · have := numGo_bound l (i + 1) _ y k (hor _ (Nat.mod_lt _ (by decide))) (by omega) h
        exact ⟨this.1, by simp only [List.length_cons]; omega, this.2.2⟩

theorem Only.set' {p : Nat} {σ σ1 : Heap} (h : Only p σ σ1) (r : Row) : Only p σ (aSetRow σ1 p r) :=
  ⟨by rw [size_set]; exact h.1, fun b hb hne => ((Only.set p σ1 r).2 b (Nat.lt_of_lt_of_le hb h.1) hne).trans (h.2 b hb hne)⟩
/-- cursor.Most -/
theorem s120 {σ : Heap} {p : Nat} {l : List UInt8} {i n : Nat} {e : Int} (h : Cur σ p l i e) (hn : n < 1099511627776) : wp (Call 120 #[.pointer (some ⟨p, 0, none⟩), .int .i64 n] σ) fun r =>
    Only p σ r.2 ∧
    if e ≠ 0 then r = (.int .i64 0, σ)
    else match numGo (l.drop i) 0 0 with
      | .error e' => r.1 = .int .i64 0 ∧ Cur r.2 p l i e'
      | .ok (x, k) => if n < x then r.1 = .int .i64 0 ∧ Cur r.2 p l i 3 else r.1 = .int .i64 x ∧ Cur r.2 p l (i + k) 0 := by
  refine wp_call (args := [_, _]) rfl Tryz.func120 rfl (Nat.le_of_ble_eq_true rfl) 20 ?_
  have h' := h
  obtain ⟨⟨a, c, h0, hb, hne⟩, hi, hlt⟩ := h
  have hp := row?_lt h0
  simp -implicitDefEqProofs (disch := first | decide | omega | assumption | exact Nat.le_of_ble_eq_true rfl | (simp only [Array.size_push, size_set, Array.size_setIfInBounds]; omega)) only [↓pB, qB, ↓reduceIte, Nat.reduceLT, Nat.reduceEqDiff, Int.reducePow, Int.reduceMul, Int.reduceAdd, Int.reduceSub, Int.reduceMod, Int.reduceLT, Nat.reduceAdd, Nat.reduceMul, Int.reduceLE, Int.reduceToNat, Int.reduceEq, ↓p120, q120, h0]
  refine wp_bindK (s140 h') ?_
  rintro ⟨v, σ1⟩ ⟨ho, hq⟩
  simp only at ho hq
  by_cases he : e = 0
  · subst he
    rw [if_neg (by simp)] at hq
    simp only [ne_eq, not_true_eq_false, if_false]
    revert hq
    cases hN : numGo (l.drop i) 0 0 with
    | error e' =>
      rintro ⟨rfl, hcur⟩
      simp -implicitDefEqProofs (disch := first | decide | omega | assumption | exact Nat.le_of_ble_eq_true rfl | (simp only [Array.size_push, size_set, Array.size_setIfInBounds]; omega)) only [↓pB, qB, ↓reduceIte, Nat.reduceLT, Nat.reduceEqDiff, Int.reducePow, Int.reduceMul, Int.reduceAdd, Int.reduceSub, Int.reduceMod, Int.reduceLT, Nat.reduceAdd, Nat.reduceMul, Int.reduceLE, Int.reduceToNat, Int.reduceEq, ↓p120, q120]
      refine wp_ifK_dec (fun h1 => absurd h1 (by omega)) (fun _ => ?_)
      simp only [N_hold]
      simp -implicitDefEqProofs (disch := first | decide | omega | assumption | exact Nat.le_of_ble_eq_true rfl | (simp only [Array.size_push, size_set, Array.size_setIfInBounds]; omega)) only [↓pB, qB, ↓reduceIte, Nat.reduceLT, Nat.reduceEqDiff, Int.reducePow, Int.reduceMul, Int.reduceAdd, Int.reduceSub, Int.reduceMod, Int.reduceLT, Nat.reduceAdd, Nat.reduceMul, Int.reduceLE, Int.reduceToNat, Int.reduceEq, ↓p120, q120]
      exact ⟨ho, trivial, hcur⟩
    | ok r =>
      obtain ⟨x, k⟩ := r
      rintro ⟨rfl, hcur⟩
      have hbd := numGo_bound _ 0 0 x k (by decide) (by decide) hN
      obtain ⟨⟨a1, c1, h1, hb1, hne1⟩, hi1, hlt1⟩ := hcur
      simp -implicitDefEqProofs (disch := first | decide | omega | assumption | exact Nat.le_of_ble_eq_true rfl | (simp only [Array.size_push, size_set, Array.size_setIfInBounds]; omega)) only [↓pB, qB, ↓reduceIte, Nat.reduceLT, Nat.reduceEqDiff, Int.reducePow, Int.reduceMul, Int.reduceAdd, Int.reduceSub, Int.reduceMod, Int.reduceLT, Nat.reduceAdd, Nat.reduceMul, Int.reduceLE, Int.reduceToNat, Int.reduceEq, ↓p120, q120]
      refine wp_ifK_dec (fun h2 => ?_) (fun h2 => ?_)
      · simp only [N_hold]
        simp -implicitDefEqProofs (disch := first | decide | omega | assumption | exact Nat.le_of_ble_eq_true rfl | (simp only [Array.size_push, size_set, Array.size_setIfInBounds]; omega)) only [↓pB, qB, ↓reduceIte, Nat.reduceLT, Nat.reduceEqDiff, Int.reducePow, Int.reduceMul, Int.reduceAdd, Int.reduceSub, Int.reduceMod, Int.reduceLT, Nat.reduceAdd, Nat.reduceMul, Int.reduceLE, Int.reduceToNat, Int.reduceEq, ↓p120, q120, h1]
        have hp1 := row?_lt h1
        refine wp_bindK (s162 (row?_set_eq hp1) hi (by omega) 3) ?_
        rintro _ rfl
        simp -implicitDefEqProofs (disch := first | decide | omega | assumption | exact Nat.le_of_ble_eq_true rfl | (simp only [Array.size_push, size_set, Array.size_setIfInBounds]; omega)) only [↓pB, qB, ↓reduceIte, Nat.reduceLT, Nat.reduceEqDiff, Int.reducePow, Int.reduceMul, Int.reduceAdd, Int.reduceSub, Int.reduceMod, Int.reduceLT, Nat.reduceAdd, Nat.reduceMul, Int.reduceLE, Int.reduceToNat, Int.reduceEq, ↓p120, q120]
        rw [if_pos (by omega), set_set]
        exact ⟨ho.set' _, trivial, cur_set hp1 hb1 hne1 hi hlt⟩
      · simp only [N_hold]
        simp -implicitDefEqProofs (disch := first | decide | omega | assumption | exact Nat.le_of_ble_eq_true rfl | (simp only [Array.size_push, size_set, Array.size_setIfInBounds]; omega)) only [↓pB, qB, ↓reduceIte, Nat.reduceLT, Nat.reduceEqDiff, Int.reducePow, Int.reduceMul, Int.reduceAdd, Int.reduceSub, Int.reduceMod, Int.reduceLT, Nat.reduceAdd, Nat.reduceMul, Int.reduceLE, Int.reduceToNat, Int.reduceEq, ↓p120, q120]
        rw [if_neg (by omega)]
        exact ⟨ho, trivial, ⟨a1, c1, h1, hb1, hne1⟩, hi1, hlt1⟩
  · rw [if_pos he] at hq
    cases hq
    simp -implicitDefEqProofs (disch := first | decide | omega | assumption | exact Nat.le_of_ble_eq_true rfl | (simp only [Array.size_push, size_set, Array.size_setIfInBounds]; omega)) only [↓pB, qB, ↓reduceIte, Nat.reduceLT, Nat.reduceEqDiff, Int.reducePow, Int.reduceMul, Int.reduceAdd, Int.reduceSub, Int.reduceMod, Int.reduceLT, Nat.reduceAdd, Nat.reduceMul, Int.reduceLE, Int.reduceToNat, Int.reduceEq, ↓p120, q120]
    refine wp_ifK_dec (fun h1 => absurd h1 (by omega)) (fun _ => ?_)
    simp only [N_hold]
    simp -implicitDefEqProofs (disch := first | decide | omega | assumption | exact Nat.le_of_ble_eq_true rfl | (simp only [Array.size_push, size_set, Array.size_setIfInBounds]; omega)) only [↓pB, qB, ↓reduceIte, Nat.reduceLT, Nat.reduceEqDiff, Int.reducePow, Int.reduceMul, Int.reduceAdd, Int.reduceSub, Int.reduceMod, Int.reduceLT, Nat.reduceAdd, Nat.reduceMul, Int.reduceLE, Int.reduceToNat, Int.reduceEq, ↓p120, q120, he]
    exact ⟨ho, trivial⟩

/-- a number's varint -/
def putNum (n : Nat) : List UInt8 := if n < 128 then [UInt8.ofNat n] else UInt8.ofNat ((n % 256) ||| 128) :: putNum (n / 128)
termination_by n
/-- append of one byte -/
theorem app_one {B : Nat} {σ : Heap} {s : Value} {l : List UInt8} (hs : FSl B σ s l) (hB : B ≤ σ.size) (y : UInt8) (hl : l.length < 1099511627775) :
    ∃ v σ', aAppend Tryz.prog 22 s (.slice (some ⟨σ.size, 0, some 1⟩) 1 2) (σ.push (some (.row ⟨#[bv y], false⟩))) = some (v, σ') ∧ FSl B σ' v (l ++ [y]) ∧ B ≤ σ'.size ∧ ∀ σ0, Grows σ0 σ → σ0.size ≤ B → Grows σ0 σ' := by
  have g : Grows σ (σ.push (some (.row ⟨bcells [y], false⟩))) := (Grows.refl σ).push _
  have hx : BSl (σ.push (some (.row ⟨bcells [y], false⟩))) (.slice (some ⟨σ.size, 0, some 1⟩) 1 2) [y] := BSl.row (o := 0) (n := 1) (cs := [y]) row?_push_eq (Nat.le_refl _)
  obtain ⟨v, σ', h1, h2, h3, h4⟩ := app_bytes (hs.grows g) (Nat.le_trans hB g.1) hx (by simp; omega)
  refine ⟨v, σ', h1, h2, Nat.le_trans (Nat.le_trans hB g.1) h3, fun σ0 g0 hle => ⟨Nat.le_trans (g0.trans g).1 h3, fun b hb => ?_⟩⟩
  rw [h4 b (Nat.lt_of_lt_of_le hb (g0.trans g).1) (fun a n c e => by have := hs.own e; omega)]
  exact (g0.trans g).2 b hb
theorem s89 {n : Nat} (hn : n < 549755813888) (σ : Heap) : wp (Call 89 #[.int .i64 n] σ) fun r => FSl σ.size r.2 r.1 (putNum n) ∧ Grows σ r.2 := by
  refine wp_call (args := [_]) rfl Tryz.func89 rfl (Nat.le_of_ble_eq_true rfl) (n + 5) ?_
  simp -implicitDefEqProofs (disch := first | decide | omega | assumption | exact Nat.le_of_ble_eq_true rfl | (simp only [Array.size_push, size_set, Array.size_setIfInBounds]; omega)) only [↓pB, qB, ↓reduceIte, Nat.reduceLT, Nat.reduceEqDiff, Int.reducePow, Int.reduceMul, Int.reduceAdd, Int.reduceSub, Int.reduceMod, Int.reduceLT, Nat.reduceAdd, Nat.reduceMul, Int.reduceLE, Int.reduceToNat, Int.reduceEq, ↓p89, q89]
  refine wp_ifK_dec (fun h1 => absurd h1 (by omega)) (fun _ => ?_)
  simp only [N_hold]
  simp -implicitDefEqProofs (disch := first | decide | omega | assumption | exact Nat.le_of_ble_eq_true rfl | (simp only [Array.size_push, size_set, Array.size_setIfInBounds]; omega)) only [↓pB, qB, ↓reduceIte, Nat.reduceLT, Nat.reduceEqDiff, Int.reducePow, Int.reduceMul, Int.reduceAdd, Int.reduceSub, Int.reduceMod, Int.reduceLT, Nat.reduceAdd, Nat.reduceMul, Int.reduceLE, Int.reduceToNat, Int.reduceEq, ↓p89, q89]
  refine wp_loop keep89x4 (fun k ρ σ' => ∃ (m : Nat) (d : List UInt8) (v : Value), k = m ∧ d.length + m ≤ n ∧ d ++ putNum m = putNum n ∧ FSl σ.size σ' v d ∧ Grows σ σ' ∧ ρ 0 = .int .i64 m ∧ ρ 3 = v)
    (fun e ρ σ' => ∃ (m : Nat) (d : List UInt8) (v : Value), e = .exit 0 ∧ m < 128 ∧ d.length + m ≤ n ∧ d ++ putNum m = putNum n ∧ FSl σ.size σ' v d ∧ Grows σ σ' ∧ ρ 0 = .int .i64 m ∧ ρ 3 = v) n (by omega) ?_ ?_ ?_
  · refine ⟨n, [], .slice none 0 0, rfl, by simp, rfl, .nil, Grows.refl _, ?_⟩
    simp -implicitDefEqProofs (disch := first | decide | omega | assumption | exact Nat.le_of_ble_eq_true rfl | (simp only [Array.size_push, size_set, Array.size_setIfInBounds]; omega)) only [↓pB, qB, ↓reduceIte, Nat.reduceLT, Nat.reduceEqDiff, Int.reducePow, Int.reduceMul, Int.reduceAdd, Int.reduceSub, Int.reduceMod, Int.reduceLT, Nat.reduceAdd, Nat.reduceMul, Int.reduceLE, Int.reduceToNat, Int.reduceEq, ↓p89, q89]
    simp
  · rintro k ρ σ1 ⟨m, d, v, rfl, hd, he, hf, hg, r0, r3⟩
    obtain ⟨a, c, rfl⟩ := hf.bsl.slice
    simp -implicitDefEqProofs (disch := first | decide | omega | assumption | exact Nat.le_of_ble_eq_true rfl | (simp only [Array.size_push, size_set, Array.size_setIfInBounds]; omega)) only [↓pB, qB, ↓reduceIte, Nat.reduceLT, Nat.reduceEqDiff, Int.reducePow, Int.reduceMul, Int.reduceAdd, Int.reduceSub, Int.reduceMod, Int.reduceLT, Nat.reduceAdd, Nat.reduceMul, Int.reduceLE, Int.reduceToNat, Int.reduceEq, ↓p89, q89, restrictE_def, List.foldl_cons, List.foldl_nil, r0, r3]
    refine wp_ifK_dec (fun hge => ?_) (fun hlt => ?_)
    · simp only [N_hold]
      simp -implicitDefEqProofs (disch := first | decide | omega | assumption | exact Nat.le_of_ble_eq_true rfl | (simp only [Array.size_push, size_set, Array.size_setIfInBounds]; omega)) only [↓pB, qB, ↓reduceIte, Nat.reduceLT, Nat.reduceEqDiff, Int.reducePow, Int.reduceMul, Int.reduceAdd, Int.reduceSub, Int.reduceMod, Int.reduceLT, Nat.reduceAdd, Nat.reduceMul, Int.reduceLE, Int.reduceToNat, Int.reduceEq, ↓p89, q89]
      obtain ⟨w, σ2, q1, q2, q3, q4⟩ := app_one hf hg.1 (UInt8.ofNat ((k % 256) ||| 128)) (by omega)
      have ho : (k % 256) ||| 128 < 256 := Nat.or_lt_two_pow (n := 8) (by omega) (by omega)
      have ec : #[Value.int .u8 ((((k : Int) % 256).toNat ||| 128 : Nat) : Int)] = #[bv (UInt8.ofNat ((k % 256) ||| 128))] := by
        rw [show ((k : Int) % 256).toNat = k % 256 by omega]
        simp only [bv, UInt8.toNat_ofNat']
        rw [Nat.mod_eq_of_lt ho]
      rw [ec, q1]
      have e7 : (k : Int) / 128 = ((k / 128 : Nat) : Int) := by omega
      simp -implicitDefEqProofs (disch := first | decide | omega | assumption | exact Nat.le_of_ble_eq_true rfl | (simp only [Array.size_push, size_set, Array.size_setIfInBounds]; omega)) only [↓pB, qB, ↓reduceIte, Nat.reduceLT, Nat.reduceEqDiff, Int.reducePow, Int.reduceMul, Int.reduceAdd, Int.reduceSub, Int.reduceMod, Int.reduceLT, Nat.reduceAdd, Nat.reduceMul, Int.reduceLE, Int.reduceToNat, Int.reduceEq, ↓p89, q89, e7]
      refine ⟨k / 128, by omega, k / 128, d ++ [UInt8.ofNat ((k % 256) ||| 128)], w, rfl, by simp; omega, ?_, q2, q4 σ hg (Nat.le_refl _), by simp⟩
      rw [← he]
      conv => rhs; rw [putNum]
      rw [if_neg (by omega)]
      simp
    · simp only [N_hold]
      simp -implicitDefEqProofs (disch := first | decide | omega | assumption | exact Nat.le_of_ble_eq_true rfl | (simp only [Array.size_push, size_set, Array.size_setIfInBounds]; omega)) only [↓pB, qB, ↓reduceIte, Nat.reduceLT, Nat.reduceEqDiff, Int.reducePow, Int.reduceMul, Int.reduceAdd, Int.reduceSub, Int.reduceMod, Int.reduceLT, Nat.reduceAdd, Nat.reduceMul, Int.reduceLE, Int.reduceToNat, Int.reduceEq, ↓p89, q89]
      exact ⟨k, d, _, trivial, by omega, hd, he, hf, hg, rfl, rfl⟩
  · rintro e ρ σ1 ⟨m, d, v, rfl, hm, hd, he, hf, hg, r0, r3⟩
    obtain ⟨a, c, rfl⟩ := hf.bsl.slice
    simp -implicitDefEqProofs (disch := first | decide | omega | assumption | exact Nat.le_of_ble_eq_true rfl | (simp only [Array.size_push, size_set, Array.size_setIfInBounds]; omega)) only [↓pB, qB, ↓reduceIte, Nat.reduceLT, Nat.reduceEqDiff, Int.reducePow, Int.reduceMul, Int.reduceAdd, Int.reduceSub, Int.reduceMod, Int.reduceLT, Nat.reduceAdd, Nat.reduceMul, Int.reduceLE, Int.reduceToNat, Int.reduceEq, ↓p89, q89, restrictE_def, List.foldl_cons, List.foldl_nil, r0, r3]
    obtain ⟨w, σ2, q1, q2, q3, q4⟩ := app_one hf hg.1 (UInt8.ofNat m) (by omega)
    have ec : #[Value.int .u8 ((m : Nat) : Int)] = #[bv (UInt8.ofNat m)] := by
      simp only [bv, UInt8.toNat_ofNat']
      rw [Nat.mod_eq_of_lt (by omega)]
    rw [ec, q1]
    simp -implicitDefEqProofs (disch := first | decide | omega | assumption | exact Nat.le_of_ble_eq_true rfl | (simp only [Array.size_push, size_set, Array.size_setIfInBounds]; omega)) only [↓pB, qB, ↓reduceIte, Nat.reduceLT, Nat.reduceEqDiff, Int.reducePow, Int.reduceMul, Int.reduceAdd, Int.reduceSub, Int.reduceMod, Int.reduceLT, Nat.reduceAdd, Nat.reduceMul, Int.reduceLE, Int.reduceToNat, Int.reduceEq, ↓p89, q89]
    rw [putNum, if_pos hm] at he
    rw [← he]
    exact ⟨q2, q4 σ hg (Nat.le_refl _)⟩
end Go.Abs
