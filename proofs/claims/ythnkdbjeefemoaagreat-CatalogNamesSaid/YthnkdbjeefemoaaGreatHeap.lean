/-
  Heaps: what is read behind what is put.
-/
import Derived.Test.YthnkdbjeefemoaaGreatSet
set_option linter.unusedVariables false
set_option linter.unusedSimpArgs false
namespace Go.Abs
open Go Go.RowKit Go.Proofs

theorem row?_push_eq {σ : Heap} {r : Row} : row? (σ.push (some (.row r))) σ.size = some r := by rw [row?_eq]; simp
theorem row?_push_ne {σ : Heap} {o : Option AObj} {b : Nat} (h : b ≠ σ.size) : row? (σ.push o) b = row? σ b := by
  unfold row?
  rw [Array.getElem?_push, if_neg h]
theorem row?_push_lt {σ : Heap} {o : Option AObj} {b : Nat} (h : b < σ.size) : row? (σ.push o) b = row? σ b := row?_push_ne (by omega)
theorem row?_lt {σ : Heap} {b : Nat} {r : Row} (h : row? σ b = some r) : b < σ.size := (alive_of_row h).lt
theorem row?_set_eq {σ : Heap} {b : Nat} {r : Row} (h : b < σ.size) : row? (aSetRow σ b r) b = some r := by
  rw [row?_eq]; simp [aSetRow, h]
theorem row?_set_ne {σ : Heap} {b b' : Nat} {r : Row} (h : b' ≠ b) : row? (aSetRow σ b r) b' = row? σ b' := by
  unfold row? aSetRow
  rw [Array.getElem?_setIfInBounds_ne (Ne.symm h)]
theorem row?_kill_ne {σ : Heap} {b b' : Nat} {x : Option AObj} (h : b' ≠ b) : row? (σ.setIfInBounds b x) b' = row? σ b' := by
  unfold row?
  rw [Array.getElem?_setIfInBounds_ne (Ne.symm h)]
theorem size_set {σ : Heap} {b : Nat} {r : Row} : (aSetRow σ b r).size = σ.size := by simp [aSetRow]
theorem set_push {σ : Heap} {o : Option AObj} {r : Row} : aSetRow (σ.push o) σ.size r = σ.push (some (.row r)) := by
  unfold aSetRow
  apply Array.ext_getElem?
  intro i
  rw [Array.getElem?_setIfInBounds, Array.getElem?_push, Array.getElem?_push]
  by_cases h : σ.size = i
  · simp [h]
  · rw [if_neg h, if_neg (Ne.symm h), if_neg (Ne.symm h)]
theorem set_set {σ : Heap} {b : Nat} {r r' : Row} : aSetRow (aSetRow σ b r) b r' = aSetRow σ b r' := by
  unfold aSetRow
  simp
/-- nothing that was there has turned -/
def Grows (σ σ' : Heap) : Prop := σ.size ≤ σ'.size ∧ ∀ b, b < σ.size → σ'[b]? = σ[b]?
theorem Grows.refl (σ : Heap) : Grows σ σ := ⟨Nat.le_refl _, fun _ _ => rfl⟩
theorem Grows.trans {σ σ1 σ2 : Heap} (h : Grows σ σ1) (k : Grows σ1 σ2) : Grows σ σ2 :=
  ⟨Nat.le_trans h.1 k.1, fun b hb => (k.2 b (by have := h.1; omega)).trans (h.2 b hb)⟩
theorem Grows.push {σ σ' : Heap} (h : Grows σ σ') (o : Option AObj) : Grows σ (σ'.push o) :=
  ⟨by have := h.1; simp; omega, fun b hb => by rw [Array.getElem?_push, if_neg (by have := h.1; omega)]; exact h.2 b hb⟩
theorem Grows.row {σ σ' : Heap} (h : Grows σ σ') {b : Nat} {r : Row} (hb : row? σ b = some r) : row? σ' b = some r := by
  have := row?_lt hb
  rw [row?_eq] at hb ⊢
  rw [h.2 b this, hb]
theorem Grows.set {σ σ' : Heap} (h : Grows σ σ') {b : Nat} (hb : σ.size ≤ b) (r : Row) : Grows σ (aSetRow σ' b r) :=
  ⟨by rw [size_set]; exact h.1, fun c hc => by unfold aSetRow; rw [Array.getElem?_setIfInBounds_ne (by omega)]; exact h.2 c hc⟩
theorem Grows.kill {σ σ' : Heap} (h : Grows σ σ') {b : Nat} (hb : σ.size ≤ b) (o : Option AObj) : Grows σ (σ'.setIfInBounds b o) :=
  ⟨by simp; exact h.1, fun c hc => by rw [Array.getElem?_setIfInBounds_ne (by omega)]; exact h.2 c hc⟩

theorem bcells_size {l : List UInt8} : (bcells l).size = l.length := by simp [bcells]
theorem bcells_get {l : List UInt8} {i : Nat} (h : i < l.length) : (bcells l)[i]? = some (bv l[i]) := by simp [bcells, h]
theorem bcells_append {l l' : List UInt8} : bcells l ++ bcells l' = bcells (l ++ l') := by simp [bcells]
theorem bcells_extract {l : List UInt8} {i j : Nat} : (bcells l).extract i j = bcells ((l.drop i).take (j - i)) := by
  simp [bcells, List.extract_eq_take_drop, List.map_drop, List.map_take]
theorem bcells_all {l : List UInt8} : (bcells l).all okCell = true := by
  simp only [bcells, Array.all_eq_true]
  intro i hi
  simp [okCell, bv]
/-- a slice of bytes, and what it holds -/
inductive BSl (σ : Heap) : Value → List UInt8 → Prop
  | nil (c : Nat) : BSl σ (.slice none 0 c) []
  | row {b o c n : Nat} {cs : List UInt8} {ro : Bool} (h : row? σ b = some ⟨bcells cs, ro⟩) (hn : o + n ≤ cs.length) : BSl σ (.slice (some ⟨b, o, some 1⟩) n c) ((cs.drop o).take n)
theorem BSl.slice {σ : Heap} {v : Value} {l : List UInt8} (h : BSl σ v l) : ∃ a c, v = .slice a l.length c := by
  cases h with
  | nil c => exact ⟨_, c, rfl⟩
  | row h hn => exact ⟨_, _, by rw [List.length_take, List.length_drop, Nat.min_eq_left (by omega)]⟩
/-- its elements, one by one -/
theorem BSl.at {σ : Heap} {a : Option Addr} {n c : Nat} {l : List UInt8} (h : BSl σ (.slice a n c) l) {i : Nat} (hi : i < n) : ∃ b o, a = some ⟨b, o, some 1⟩ ∧ cellAt (row? σ b) (o + i) = some (bv (l[i]?.getD 0)) := by
  cases h with
  | nil c => omega
  | @row b o c n cs ro h hn =>
    refine ⟨b, o, rfl, ?_⟩
    rw [h, cellAt_some, bcells_get (by omega)]
    simp [List.getElem?_take, hi, List.getElem?_drop, List.getElem?_eq_getElem (show o + i < cs.length by omega)]
theorem BSl.grows {σ σ' : Heap} (g : Grows σ σ') {v : Value} {l : List UInt8} (h : BSl σ v l) : BSl σ' v l := by
  cases h with
  | nil c => exact .nil c
  | row h hn => exact .row (g.row h) hn
theorem BSl.len {σ : Heap} {a : Option Addr} {n c : Nat} {l : List UInt8} (h : BSl σ (.slice a n c) l) : l.length = n := by
  obtain ⟨a', c', e⟩ := h.slice
  cases e; rfl
/-- a slice that is not empty leads to a row -/
theorem BSl.toRow {σ : Heap} {a : Option Addr} {n c : Nat} {l : List UInt8} (h : BSl σ (.slice a n c) l) (hn : 0 < n) : ∃ b o cs ro, a = some ⟨b, o, some 1⟩ ∧ row? σ b = some ⟨bcells cs, ro⟩ ∧ o + n ≤ cs.length ∧ l = (cs.drop o).take n := by
  cases h with
  | nil c => omega
  | @row b o c n cs ro h hn => exact ⟨b, o, cs, ro, rfl, h, hn, rfl⟩
/-- a part of it -/
theorem BSl.part {σ : Heap} {b o n c : Nat} {l : List UInt8} (h : BSl σ (.slice (some ⟨b, o, some 1⟩) n c) l) {i k c' : Nat} (hk : i + k ≤ n) : BSl σ (.slice (some ⟨b, o + i, some 1⟩) k c') ((l.drop i).take k) := by
  cases h with
  | @row b o c n cs ro h hn =>
    have : (((cs.drop o).take n).drop i).take k = (cs.drop (o + i)).take k := by
      rw [List.drop_take, List.drop_drop, List.take_take, Nat.min_eq_left (by omega)]
    rw [this]
    exact .row h (by omega)
end Go.Abs
