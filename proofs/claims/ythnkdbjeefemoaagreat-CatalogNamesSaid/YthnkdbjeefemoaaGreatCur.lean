/-
  cursor.
-/
import Derived.Test.YthnkdbjeefemoaaGreatCat2
set_option linter.unusedVariables false
set_option linter.unusedSimpArgs false
set_option linter.unusedSectionVars false
namespace Go.Abs
open Go Go.RowKit Go.Proofs
set_option maxRecDepth 10000

/-- a cursor at p over bytes l -/
structure Cur (σ : Heap) (p : Nat) (l : List UInt8) (i : Nat) (e : Int) : Prop where
  row : ∃ a c, row? σ p = some ⟨#[.slice a l.length c, .int .i64 i, .int .i64 e], false⟩ ∧ BSl σ (.slice a l.length c) l ∧ ∀ x, a = some x → x.block ≠ p
  le : i ≤ l.length
  lt : l.length < 549755813888
/-- p's block alone may have turned -/
def Only (p : Nat) (σ σ' : Heap) : Prop := σ.size ≤ σ'.size ∧ ∀ b, b < σ.size → b ≠ p → σ'[b]? = σ[b]?
theorem Only.refl (p : Nat) (σ : Heap) : Only p σ σ := ⟨Nat.le_refl _, fun _ _ _ => rfl⟩
theorem Only.set (p : Nat) (σ : Heap) (r : Row) : Only p σ (aSetRow σ p r) := ⟨by rw [size_set]; exact Nat.le_refl _, fun b _ hb => by unfold aSetRow; rw [Array.getElem?_setIfInBounds_ne (Ne.symm hb)]⟩
theorem Only.grows {p : Nat} {σ σ1 σ2 : Heap} (h : Only p σ σ1) (g : Grows σ1 σ2) : Only p σ σ2 :=
  ⟨Nat.le_trans h.1 g.1, fun b hb hne => (g.2 b (Nat.lt_of_lt_of_le hb h.1)).trans (h.2 b hb hne)⟩
theorem BSl.set {σ : Heap} {p : Nat} {a : Option Addr} {n c : Nat} {l : List UInt8} (h : BSl σ (.slice a n c) l) (hne : ∀ x, a = some x → x.block ≠ p) (r : Row) : BSl (aSetRow σ p r) (.slice a n c) l := by
  cases h with
  | nil c => exact .nil c
  | row h hn => exact .row (by rw [row?_set_ne (hne _ rfl)]; exact h) hn
theorem cur_set {σ : Heap} {p i' : Nat} {e' : Int} {a : Option Addr} {c : Nat} {l : List UInt8} (hp : p < σ.size) (hb : BSl σ (.slice a l.length c) l) (hne : ∀ x, a = some x → x.block ≠ p) (hi : i' ≤ l.length) (hlt : l.length < 549755813888) :
    Cur (aSetRow σ p ⟨#[.slice a l.length c, .int .i64 i', .int .i64 e'], false⟩) p l i' e' :=
  ⟨⟨a, c, row?_set_eq hp, hb.set hne _, hne⟩, hi, hlt⟩
theorem Cur.grows {σ σ' : Heap} {p i : Nat} {e : Int} {l : List UInt8} (h : Cur σ p l i e) (g : Grows σ σ') : Cur σ' p l i e := by
  obtain ⟨⟨a, c, h0, hb, hne⟩, hi, hlt⟩ := h
  exact ⟨⟨a, c, g.row h0, hb.grows g, hne⟩, hi, hlt⟩

theorem BSl.form {σ : Heap} {x : Addr} {n c : Nat} {l : List UInt8} (h : BSl σ (.slice (some x) n c) l) : ∃ b o, x = ⟨b, o, some 1⟩ := by
  cases h with
  | row h hn => exact ⟨_, _, rfl⟩
theorem BSl.none_len {σ : Heap} {n c : Nat} {l : List UInt8} (h : BSl σ (.slice none n c) l) : l = [] ∧ n = 0 := by
  cases h with
  | nil c => exact ⟨rfl, rfl⟩
/-- cursor.Bytes -/
theorem s141 {σ : Heap} {p : Nat} {l : List UInt8} {i : Nat} {e n : Int} (h : Cur σ p l i e) (hn : n < 1099511627776) (hn' : -1099511627776 < n) : wp (Call 141 #[.pointer (some ⟨p, 0, none⟩), .int .i64 n] σ) fun r =>
    Only p σ r.2 ∧
    if e ≠ 0 then r = (.slice none 0 0, σ)
    else if n < 0 then r.1 = .slice none 0 0 ∧ Cur r.2 p l i 3
    else if ((l.length - i : Nat) : Int) < n then r.1 = .slice none 0 0 ∧ Cur r.2 p l i 2
    else FSl σ.size r.2 r.1 ((l.drop i).take n.toNat) ∧ Cur r.2 p l (i + n.toNat) 0 := by
  refine wp_call (args := [_, _]) rfl Tryz.func141 rfl (Nat.le_of_ble_eq_true rfl) 20 ?_
  obtain ⟨⟨a, c, h0, hb, hne⟩, hi, hlt⟩ := h
  have hp := row?_lt h0
  simp -implicitDefEqProofs (disch := first | decide | omega | assumption | exact Nat.le_of_ble_eq_true rfl | (simp only [Array.size_push, size_set, Array.size_setIfInBounds]; omega)) only [↓pB, qB, ↓reduceIte, Nat.reduceLT, Nat.reduceEqDiff, Int.reducePow, Int.reduceMul, Int.reduceAdd, Int.reduceSub, Int.reduceMod, Int.reduceLT, Nat.reduceAdd, Nat.reduceMul, Int.reduceLE, Int.reduceToNat, Int.reduceEq, ↓p141, q141, h0]
  (refine wp_ifK_dec (fun h1 => ?_) (fun h1 => ?_) <;> simp only [H_o, H_d, N_hold] <;> simp -implicitDefEqProofs (disch := first | decide | omega | assumption | exact Nat.le_of_ble_eq_true rfl | (simp only [Array.size_push, size_set, Array.size_setIfInBounds]; omega)) only [↓pB, qB, ↓reduceIte, Nat.reduceLT, Nat.reduceEqDiff, Int.reducePow, Int.reduceMul, Int.reduceAdd, Int.reduceSub, Int.reduceMod, Int.reduceLT, Nat.reduceAdd, Nat.reduceMul, Int.reduceLE, Int.reduceToNat, Int.reduceEq, ↓p141, q141, h1, h0])
  · subst h1
    refine wp_ifK_dec (fun h2 => ?_) (fun h2 => ?_)
    · simp only [N_hold]
      simp -implicitDefEqProofs (disch := first | decide | omega | assumption | exact Nat.le_of_ble_eq_true rfl | (simp only [Array.size_push, size_set, Array.size_setIfInBounds]; omega)) only [↓pB, qB, ↓reduceIte, Nat.reduceLT, Nat.reduceEqDiff, Int.reducePow, Int.reduceMul, Int.reduceAdd, Int.reduceSub, Int.reduceMod, Int.reduceLT, Nat.reduceAdd, Nat.reduceMul, Int.reduceLE, Int.reduceToNat, Int.reduceEq, ↓p141, q141]
      refine wp_bindK (s162 h0 hi (by omega) 3) ?_
      rintro _ rfl
      simp -implicitDefEqProofs (disch := first | decide | omega | assumption | exact Nat.le_of_ble_eq_true rfl | (simp only [Array.size_push, size_set, Array.size_setIfInBounds]; omega)) only [↓pB, qB, ↓reduceIte, Nat.reduceLT, Nat.reduceEqDiff, Int.reducePow, Int.reduceMul, Int.reduceAdd, Int.reduceSub, Int.reduceMod, Int.reduceLT, Nat.reduceAdd, Nat.reduceMul, Int.reduceLE, Int.reduceToNat, Int.reduceEq, ↓p141, q141]
      refine ⟨Only.set _ _ _, ?_⟩
      rw [if_pos h2]
      exact ⟨trivial, cur_set hp hb hne hi hlt⟩
    · simp only [N_hold]
      simp -implicitDefEqProofs (disch := first | decide | omega | assumption | exact Nat.le_of_ble_eq_true rfl | (simp only [Array.size_push, size_set, Array.size_setIfInBounds]; omega)) only [↓pB, qB, ↓reduceIte, Nat.reduceLT, Nat.reduceEqDiff, Int.reducePow, Int.reduceMul, Int.reduceAdd, Int.reduceSub, Int.reduceMod, Int.reduceLT, Nat.reduceAdd, Nat.reduceMul, Int.reduceLE, Int.reduceToNat, Int.reduceEq, ↓p141, q141]
      refine wp_bindK (s55 h0 hi (by omega)) ?_
      rintro _ rfl
      simp -implicitDefEqProofs (disch := first | decide | omega | assumption | exact Nat.le_of_ble_eq_true rfl | (simp only [Array.size_push, size_set, Array.size_setIfInBounds]; omega)) only [↓pB, qB, ↓reduceIte, Nat.reduceLT, Nat.reduceEqDiff, Int.reducePow, Int.reduceMul, Int.reduceAdd, Int.reduceSub, Int.reduceMod, Int.reduceLT, Nat.reduceAdd, Nat.reduceMul, Int.reduceLE, Int.reduceToNat, Int.reduceEq, ↓p141, q141]
      refine wp_ifK_dec (fun h3 => ?_) (fun h3 => ?_)
      · simp only [N_hold]
        simp -implicitDefEqProofs (disch := first | decide | omega | assumption | exact Nat.le_of_ble_eq_true rfl | (simp only [Array.size_push, size_set, Array.size_setIfInBounds]; omega)) only [↓pB, qB, ↓reduceIte, Nat.reduceLT, Nat.reduceEqDiff, Int.reducePow, Int.reduceMul, Int.reduceAdd, Int.reduceSub, Int.reduceMod, Int.reduceLT, Nat.reduceAdd, Nat.reduceMul, Int.reduceLE, Int.reduceToNat, Int.reduceEq, ↓p141, q141]
        refine wp_bindK (s162 h0 hi (by omega) 2) ?_
        rintro _ rfl
        simp -implicitDefEqProofs (disch := first | decide | omega | assumption | exact Nat.le_of_ble_eq_true rfl | (simp only [Array.size_push, size_set, Array.size_setIfInBounds]; omega)) only [↓pB, qB, ↓reduceIte, Nat.reduceLT, Nat.reduceEqDiff, Int.reducePow, Int.reduceMul, Int.reduceAdd, Int.reduceSub, Int.reduceMod, Int.reduceLT, Nat.reduceAdd, Nat.reduceMul, Int.reduceLE, Int.reduceToNat, Int.reduceEq, ↓p141, q141]
        refine ⟨Only.set _ _ _, ?_⟩
        rw [if_neg h2, if_pos h3]
        exact ⟨trivial, cur_set hp hb hne hi hlt⟩
      · simp only [N_hold]
        simp -implicitDefEqProofs (disch := first | decide | omega | assumption | exact Nat.le_of_ble_eq_true rfl | (simp only [Array.size_push, size_set, Array.size_setIfInBounds]; omega)) only [↓pB, qB, ↓reduceIte, Nat.reduceLT, Nat.reduceEqDiff, Int.reducePow, Int.reduceMul, Int.reduceAdd, Int.reduceSub, Int.reduceMod, Int.reduceLT, Nat.reduceAdd, Nat.reduceMul, Int.reduceLE, Int.reduceToNat, Int.reduceEq, ↓p141, q141, h0]
        obtain ⟨m, rfl⟩ : ∃ m : Nat, n = m := ⟨n.toNat, by omega⟩
        have hm : i + m ≤ l.length := by omega
        have hc := cur_set (i' := i + m) (e' := 0) hp hb hne hm hlt
        obtain ⟨a', c', r1, b1, _⟩ := hc.row
        have ecast : ((i : Int) + m) = ((i + m : Nat) : Int) := by omega
        have esub : (((i + m : Nat) : Int) - m) = (i : Nat) := by omega
        have r2 : row? (aSetRow σ p ⟨#[.slice a l.length c, .int .i64 ((i + m : Nat) : Int), .int .i64 0], false⟩) p = some ⟨#[.slice a l.length c, .int .i64 ((i + m : Nat) : Int), .int .i64 0], false⟩ := row?_set_eq hp
        have b2 := hb.set hne ⟨#[.slice a l.length c, .int .i64 ((i + m : Nat) : Int), .int .i64 0], false⟩
        rw [ecast]
        refine wp_drawn dr141x10 ?_
        have em : i + m - i = m := by omega
        cases a with
        | none =>
          obtain ⟨rfl, _⟩ := hb.none_len
          obtain rfl : i = 0 := by simpa using hi
          obtain rfl : m = 0 := by simpa using hm
          have r3 : row? (aSetRow σ p ⟨#[.slice none 0 c, .int .i64 0, .int .i64 0], false⟩) p = some ⟨#[.slice none 0 c, .int .i64 0, .int .i64 0], false⟩ := row?_set_eq hp
          simp -implicitDefEqProofs (disch := first | decide | omega | assumption | exact Nat.le_of_ble_eq_true rfl | (simp only [Array.size_push, size_set, Array.size_setIfInBounds]; omega)) only [↓pB, qB, ↓reduceIte, Nat.reduceLT, Nat.reduceEqDiff, Int.reducePow, Int.reduceMul, Int.reduceAdd, Int.reduceSub, Int.reduceMod, Int.reduceLT, Nat.reduceAdd, Nat.reduceMul, Int.reduceLE, Int.reduceToNat, Int.reduceEq, ↓p141, q141, r3, List.length_nil]
          refine wp_bindK (s106 (BSl.nil c) (by decide)) ?_
          rintro ⟨u, σ'⟩ ⟨f1, g1⟩
          have z1 := g1.1
          simp only at f1 g1 z1
          simp -implicitDefEqProofs (disch := first | decide | omega | assumption | exact Nat.le_of_ble_eq_true rfl | (simp only [Array.size_push, size_set, Array.size_setIfInBounds]; omega)) only [↓pB, qB, ↓reduceIte, Nat.reduceLT, Nat.reduceEqDiff, Int.reducePow, Int.reduceMul, Int.reduceAdd, Int.reduceSub, Int.reduceMod, Int.reduceLT, Nat.reduceAdd, Nat.reduceMul, Int.reduceLE, Int.reduceToNat, Int.reduceEq, ↓p141, q141, r3]
          have q : Cur (aSetRow σ p ⟨#[.slice none 0 c, .int .i64 0, .int .i64 0], false⟩) p [] 0 0 := hc
          have f2 := f1.mono (B' := σ.size) (by rw [size_set]; exact Nat.le_refl _)
          exact ⟨(Only.set p σ _).grows g1, f2, q.grows g1⟩
        | some x =>
          obtain ⟨b, o, rfl⟩ := hb.form
          simp -implicitDefEqProofs (disch := first | decide | omega | assumption | exact Nat.le_of_ble_eq_true rfl | (simp only [Array.size_push, size_set, Array.size_setIfInBounds]; omega)) only [↓pB, qB, ↓reduceIte, Nat.reduceLT, Nat.reduceEqDiff, Int.reducePow, Int.reduceMul, Int.reduceAdd, Int.reduceSub, Int.reduceMod, Int.reduceLT, Nat.reduceAdd, Nat.reduceMul, Int.reduceLE, Int.reduceToNat, Int.reduceEq, ↓p141, q141, r2, esub, em]
          have hb3 := b2.part (i := i) (k := m) (c' := c - i) (by omega)
          refine wp_bindK (s106 hb3 (by rw [List.length_take, List.length_drop]; omega)) ?_
          rintro ⟨u, σ'⟩ ⟨f1, g1⟩
          have z1 := g1.1
          simp only at f1 g1 z1
          simp -implicitDefEqProofs (disch := first | decide | omega | assumption | exact Nat.le_of_ble_eq_true rfl | (simp only [Array.size_push, size_set, Array.size_setIfInBounds]; omega)) only [↓pB, qB, ↓reduceIte, Nat.reduceLT, Nat.reduceEqDiff, Int.reducePow, Int.reduceMul, Int.reduceAdd, Int.reduceSub, Int.reduceMod, Int.reduceLT, Nat.reduceAdd, Nat.reduceMul, Int.reduceLE, Int.reduceToNat, Int.reduceEq, ↓p141, q141, r2, esub, em]
          refine ⟨(Only.set p σ _).grows g1, ?_⟩
          rw [if_neg h2, if_neg h3]
          exact ⟨f1.mono (B' := σ.size) (by rw [size_set]; exact Nat.le_refl _), hc.grows g1⟩
  · exact ⟨Only.refl _ _, trivial⟩
end Go.Abs
