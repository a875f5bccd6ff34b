/-
  A cursor as a state: what its methods do, as functions.
-/
import Derived.Test.YthnkdbjeefemoaaGreatNumber
import Derived.Test.YthnkdbjeefemoaaGreatSl
set_option linter.unusedVariables false
set_option linter.unusedSimpArgs false
set_option linter.unusedSectionVars false
namespace Go.Abs
open Go Go.RowKit Go.Proofs
set_option maxRecDepth 10000

structure CS where
  l : List UInt8
  i : Nat
  e : Int
def CS.fail (s : CS) (e : Int) : CS := if s.e = 0 then { s with e := e } else s
def CS.bytes (s : CS) (n : Int) : List UInt8 × CS :=
  if s.e ≠ 0 then ([], s) else if n < 0 then ([], { s with e := 3 }) else if ((s.l.length - s.i : Nat) : Int) < n then ([], { s with e := 2 })
  else ((s.l.drop s.i).take n.toNat, { s with i := s.i + n.toNat, e := 0 })
def CS.number (s : CS) : Nat × CS :=
  if s.e ≠ 0 then (0, s) else match numGo (s.l.drop s.i) 0 0 with
    | .error e => (0, { s with e := e })
    | .ok (x, k) => (x, { s with i := s.i + k, e := 0 })
def CS.most (s : CS) (n : Nat) : Nat × CS := if n < s.number.1 then (0, { s with e := 3 }) else s.number
def CS.byte (s : CS) : Nat × CS := ((s.bytes 1).1.headD 0 |>.toNat, (s.bytes 1).2)
def CS.text (s : CS) : List UInt8 × CS :=
  let r := s.most 4096
  let q := r.2.bytes r.1
  (q.1, if q.2.e ≠ 0 then { q.2 with i := s.i } else q.2)
/-- the cursor at p -/
def CurS (σ : Heap) (p : Nat) (s : CS) : Prop := Cur σ p s.l s.i s.e
theorem CurS.grows {σ σ' : Heap} {p : Nat} {s : CS} (h : CurS σ p s) (g : Grows σ σ') : CurS σ' p s := Cur.grows h g

theorem CS.bytes_len (s : CS) (n : Int) : (s.bytes n).1.length ≤ n.toNat := by
  unfold CS.bytes
  split
  · simp
  · split
    · simp
    · split
      · simp
      · simp only [List.length_take, List.length_drop]; omega
theorem CS.bytes_l (s : CS) (n : Int) : (s.bytes n).2.l = s.l := by
  unfold CS.bytes
  repeat (split; · rfl)
  rfl
theorem CS.number_l (s : CS) : s.number.2.l = s.l := by
  unfold CS.number
  split
  · rfl
  · split <;> rfl
theorem CS.most_l (s : CS) (n : Nat) : (s.most n).2.l = s.l := by
  unfold CS.most
  split
  · rfl
  · exact s.number_l
theorem CS.most_le (s : CS) (n : Nat) : (s.most n).1 ≤ n := by
  unfold CS.most
  split
  · exact Nat.zero_le _
  · omega
theorem CS.byte_l (s : CS) : s.byte.2.l = s.l := s.bytes_l 1
theorem CS.byte_lt (s : CS) : s.byte.1 < 256 := (UInt8.toNat_lt _)
theorem CS.text_l (s : CS) : s.text.2.l = s.l := by
  unfold CS.text
  simp only
  split
  · show (CS.bytes _ _).2.l = _
    rw [CS.bytes_l, CS.most_l]
  · rw [CS.bytes_l, CS.most_l]
theorem CS.fail_l (s : CS) (e : Int) : (s.fail e).l = s.l := by
  unfold CS.fail
  split <;> rfl

section
variable {σ : Heap} {p : Nat} {s : CS} (h : CurS σ p s)
include h
theorem c162 (e : Int) : wp (Call 162 #[.pointer (some ⟨p, 0, none⟩), .int .i64 e] σ) fun r => r.1 = .tuple #[] ∧ Only p σ r.2 ∧ r.2.size = σ.size ∧ CurS r.2 p (s.fail e) := by
  have h' := h
  obtain ⟨⟨a, c, h0, hb, hne⟩, hi, hlt⟩ := h
  refine wp_mono (s162 h0 hi (by omega) e) ?_
  rintro _ rfl
  refine ⟨rfl, ?_⟩
  unfold CS.fail
  split
  · exact ⟨Only.set _ _ _, size_set, cur_set (row?_lt h0) hb hne hi hlt⟩
  · exact ⟨Only.refl _ _, rfl, h'⟩
theorem c55 : wp (Call 55 #[.pointer (some ⟨p, 0, none⟩)] σ) fun r => r = (.int .i64 ((s.l.length - s.i : Nat) : Int), σ) := by
  obtain ⟨⟨a, c, h0, hb, hne⟩, hi, hlt⟩ := h
  exact s55 h0 hi (by omega)
theorem c51 : wp (Call 51 #[.pointer (some ⟨p, 0, none⟩)] σ) fun r => r = (.bool (decide (s.e = 0)), σ) := by
  obtain ⟨⟨a, c, h0, hb, hne⟩, hi, hlt⟩ := h
  exact s51 h0 hi (by omega)
theorem c56 : wp (Call 56 #[.pointer (some ⟨p, 0, none⟩)] σ) fun r => r = (.int .i64 (if s.e = 0 ∧ s.i < s.l.length then 2 else s.e), σ) := by
  obtain ⟨⟨a, c, h0, hb, hne⟩, hi, hlt⟩ := h
  exact s56 h0 hi (by omega)
theorem c141 (n : Int) (hn : n < 1099511627776) (hn' : -1099511627776 < n) : wp (Call 141 #[.pointer (some ⟨p, 0, none⟩), .int .i64 n] σ) fun r => FSl σ.size r.2 r.1 (s.bytes n).1 ∧ Only p σ r.2 ∧ CurS r.2 p (s.bytes n).2 := by
  refine wp_mono (s141 h hn hn') ?_
  rintro ⟨v, σ'⟩ ⟨ho, hq⟩
  simp only at ho hq ⊢
  unfold CS.bytes
  split at hq
  · rename_i he
    cases hq
    rw [if_pos he]
    exact ⟨.nil, ho, h⟩
  · rename_i he
    rw [if_neg he]
    split at hq
    · rename_i h1
      rw [if_pos h1]
      obtain ⟨rfl, hc⟩ := hq
      exact ⟨.nil, ho, hc⟩
    · rename_i h1
      rw [if_neg h1]
      split at hq
      · rename_i h2
        rw [if_pos h2]
        obtain ⟨rfl, hc⟩ := hq
        exact ⟨.nil, ho, hc⟩
      · rename_i h2
        rw [if_neg h2]
        exact ⟨hq.1, ho, hq.2⟩
theorem c140 : wp (Call 140 #[.pointer (some ⟨p, 0, none⟩)] σ) fun r => r.1 = .int .i64 s.number.1 ∧ Only p σ r.2 ∧ CurS r.2 p s.number.2 := by
  refine wp_mono (s140 h) ?_
  rintro ⟨v, σ'⟩ ⟨ho, hq⟩
  simp only at ho hq ⊢
  unfold CS.number
  split at hq
  · rename_i he
    cases hq
    rw [if_pos he]
    exact ⟨rfl, ho, h⟩
  · rename_i he
    rw [if_neg he]
    revert hq
    cases numGo (s.l.drop s.i) 0 0 with
    | error e => rintro ⟨rfl, hc⟩; exact ⟨rfl, ho, hc⟩
    | ok r => rintro ⟨rfl, hc⟩; exact ⟨rfl, ho, hc⟩
theorem c120 (n : Nat) (hn : n < 1099511627776) : wp (Call 120 #[.pointer (some ⟨p, 0, none⟩), .int .i64 n] σ) fun r => r.1 = .int .i64 (s.most n).1 ∧ Only p σ r.2 ∧ CurS r.2 p (s.most n).2 := by
  refine wp_mono (s120 h hn) ?_
  rintro ⟨v, σ'⟩ ⟨ho, hq⟩
  simp only at ho hq ⊢
  unfold CS.most CS.number
  split at hq
  · rename_i he
    cases hq
    rw [if_pos he, if_neg (Nat.not_lt_zero _)]
    exact ⟨rfl, ho, h⟩
  · rename_i he
    rw [if_neg he]
    revert hq
    cases numGo (s.l.drop s.i) 0 0 with
    | error e => rintro ⟨rfl, hc⟩; simp only [Nat.not_lt_zero, if_false]; exact ⟨rfl, ho, hc⟩
    | ok r =>
      obtain ⟨x, k⟩ := r
      simp only
      intro hq
      split at hq
      · rename_i h1
        obtain ⟨rfl, hc⟩ := hq
        rw [if_pos h1]
        exact ⟨rfl, ho, hc⟩
      · rename_i h1
        obtain ⟨rfl, hc⟩ := hq
        rw [if_neg h1]
        exact ⟨rfl, ho, hc⟩
end
end Go.Abs
