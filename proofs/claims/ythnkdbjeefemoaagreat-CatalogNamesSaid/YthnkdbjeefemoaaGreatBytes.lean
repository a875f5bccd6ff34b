/-
  Slices of bytes: made, appended.
-/
import Derived.Test.YthnkdbjeefemoaaGreatCrc
set_option linter.unusedVariables false
set_option linter.unusedSimpArgs false
namespace Go.Abs
open Go Go.RowKit Go.Proofs
set_option maxRecDepth 10000

/-- a slice of bytes in a row of its own, that may be appended to -/
inductive FSl (B : Nat) (σ : Heap) : Value → List UInt8 → Prop
  | nil : FSl B σ (.slice none 0 0) []
  | row {b c : Nat} {l : List UInt8} (hb : B ≤ b) (h : row? σ b = some ⟨bcells l, false⟩) (hc : c = 0 ∨ c = l.length + 1) : FSl B σ (.slice (some ⟨b, 0, some 1⟩) l.length c) l
theorem FSl.bsl {B : Nat} {σ : Heap} {v : Value} {l : List UInt8} (h : FSl B σ v l) : BSl σ v l := by
  cases h with
  | nil => exact .nil 0
  | @row b c l hb h hc =>
    have := BSl.row (o := 0) (n := l.length) (c := c) h (by omega)
    simpa using this
theorem FSl.mono {B B' : Nat} (hB : B' ≤ B) {σ : Heap} {v : Value} {l : List UInt8} (h : FSl B σ v l) : FSl B' σ v l := by
  cases h with
  | nil => exact .nil
  | row hb h hc => exact .row (by omega) h hc
theorem FSl.grows {B : Nat} {σ σ' : Heap} (g : Grows σ σ') {v : Value} {l : List UInt8} (h : FSl B σ v l) : FSl B σ' v l := by
  cases h with
  | nil => exact .nil
  | row hb h hc => exact .row hb (g.row h) hc

theorem FSl.own {B : Nat} {σ : Heap} {v : Value} {l : List UInt8} (h : FSl B σ v l) {a : Addr} {n c : Nat} (e : v = .slice (some a) n c) : B ≤ a.block := by
  cases h with
  | nil => cases e
  | row hb h hc => cases e; exact hb
theorem src_BSl {σ : Heap} {v : Value} {l : List UInt8} (h : BSl σ v l) : ∃ a n c, v = .slice a n c ∧ srcCells v 1 σ = some (l.length, bcells l) := by
  cases h with
  | nil c => exact ⟨_, _, c, rfl, rfl⟩
  | @row b o c n cs ro h hn =>
    refine ⟨_, _, _, rfl, ?_⟩
    have hl : ((cs.drop o).take n).length = n := by rw [List.length_take, List.length_drop, Nat.min_eq_left (by omega)]
    have : rdCells σ b o (n * 1) = some (bcells ((cs.drop o).take n)) := by
      simp only [rdCells, h, Nat.mul_one, bcells_size, hn, if_true, bcells_extract]
      rw [show o + n - o = n by omega]
    simp only [srcCells, this, hl]

theorem z5 : Tryz.t5.zero = some (.int .u8 0) := rfl
/-- append of bytes to a slice of its own -/
theorem app_bytes {B : Nat} {σ : Heap} {s x : Value} {l l' : List UInt8} (hs : FSl B σ s l) (hB : B ≤ σ.size) (hx : BSl σ x l') (hl : l.length + l'.length < 1099511627776) :
    ∃ v σ', aAppend Tryz.prog 22 s x σ = some (v, σ') ∧ FSl B σ' v (l ++ l') ∧ σ.size ≤ σ'.size ∧ (∀ b, b < σ.size → (∀ a n c, s = .slice (some a) n c → a.block ≠ b) → σ'[b]? = σ[b]?) := by
  obtain ⟨a, n, c, rfl, hsrc⟩ := src_BSl hx
  have hz : (Value.int .u8 0).cells.size = 1 := rfl
  have hsz : (bcells l').size = l'.length := bcells_size
  have hsize : Tryz.t5.size = 1 := rfl
  have hbytes : Tryz.t5.bytes = 1 := rfl
  unfold aAppend
  simp only [Tryz.underlying22, inf_5, hsize, hbytes, hsrc, z5]
  rw [if_pos ⟨hz, Nat.zero_lt_one, by rw [hsz, Nat.mul_one], bcells_all⟩]
  cases hs with
  | nil =>
    by_cases h0 : l'.length = 0
    · obtain rfl : l' = [] := List.eq_nil_of_length_eq_zero h0
      exact ⟨_, σ, rfl, .nil, Nat.le_refl _, fun _ _ _ => rfl⟩
    · simp only [h0, if_false]
      rw [if_pos ⟨by omega, by omega⟩]
      refine ⟨_, _, rfl, ?_, by simp, fun b hb _ => by rw [Array.getElem?_push, if_neg (by omega)]⟩
      exact .row hB row?_push_eq (.inl rfl)
  | @row b c0 l hb h hc =>
    simp only [h]
    by_cases h0 : l'.length = 0
    · obtain rfl : l' = [] := List.eq_nil_of_length_eq_zero h0
      refine ⟨_, σ, rfl, ?_, Nat.le_refl _, fun _ _ _ => rfl⟩
      rw [List.append_nil]
      exact .row hb h hc
    · simp only [h0, if_false]
      have hbl := row?_lt h
      rw [if_pos ⟨by rw [bcells_size]; omega, trivial, by omega, by omega⟩]
      have hx2 : (bcells l).extract 0 (0 + l.length * 1) ++ bcells l' = bcells (l ++ l') := by
        rw [bcells_extract, bcells_append]; simp
      have hlen : (l ++ l').length = l.length + l'.length := List.length_append
      rcases hc with rfl | rfl
      · rw [if_neg (by omega), if_pos ⟨rfl, trivial⟩]
        refine ⟨_, _, rfl, ?_, by simp, fun k hk hne => ?_⟩
        · rw [hx2, ← hlen]
          refine .row hB ?_ (.inl rfl)
          have := @row?_push_eq (σ.setIfInBounds b none) ⟨bcells (l ++ l'), false⟩
          rwa [Array.size_setIfInBounds] at this
        · have hkb : b ≠ k := hne _ _ _ rfl
          rw [Array.getElem?_push, Array.size_setIfInBounds, if_neg (by omega), Array.getElem?_setIfInBounds_ne hkb]
      · rw [if_pos ⟨by omega, by omega⟩]
        refine ⟨_, _, rfl, ?_, by simp, fun k hk _ => by rw [Array.getElem?_push, if_neg (by omega)]⟩
        rw [hx2, ← hlen]
        exact .row hB row?_push_eq (.inl rfl)
end Go.Abs
