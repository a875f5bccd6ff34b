/-
  Varints: there and back.
-/
import Derived.Test.YthnkdbjeefemoaaGreatNumber
set_option linter.unusedVariables false
set_option linter.unusedSimpArgs false
namespace Go.Abs

theorem or_mul_pow {x b k : Nat} (h : x < 2 ^ k) : x ||| (b * 2 ^ k) = x + b * 2 ^ k := by
  rw [Nat.or_comm, ← Nat.shiftLeft_eq, ← Nat.shiftLeft_add_eq_or_of_lt h, Nat.add_comm]
theorem putNum_small {n : Nat} (h : n < 128) : putNum n = [UInt8.ofNat n] := by rw [putNum, if_pos h]
theorem putNum_big {n : Nat} (h : ¬ n < 128) : putNum n = UInt8.ofNat ((n % 256) ||| 128) :: putNum (n / 128) := by rw [putNum, if_neg h]
theorem or_128 {n : Nat} : (n % 256) ||| 128 = n % 128 + 128 := by
  have h1 : (n % 256) ||| 128 = (n % 128) ||| 128 := by
    apply Nat.eq_of_testBit_eq
    intro i
    rw [Nat.testBit_or, Nat.testBit_or, show 256 = 2 ^ 8 by rfl, Nat.testBit_mod_two_pow, show (128 : Nat) = 2 ^ 7 by rfl, Nat.testBit_mod_two_pow, Nat.testBit_two_pow]
    by_cases hi : i = 7
    · subst hi; simp
    · have : (i < 8) ↔ (i < 7) := by omega
      simp [this, hi]
  rw [h1]
  have := or_mul_pow (x := n % 128) (b := 1) (k := 7) (Nat.mod_lt _ (by decide))
  simpa using this

/-- what is read is what is put -/
theorem numGo_put : ∀ (l : List UInt8) (i x y k : Nat), x < 2 ^ (7 * i) → numGo l i x = .ok (y, k) → ∃ z, y = x + z * 2 ^ (7 * i) ∧ i < k ∧ k ≤ i + l.length ∧ l.take (k - i) = putNum z ∧ (0 < i → z ≠ 0)
  | [], i, x, y, k, _, h => by cases h
  | b :: l, i, x, y, k, hx, h => by
    have hb := b.toNat_lt
    simp only [numGo] at h
    split at h
    · cases h
    · split at h
      · rename_i h8
        split at h
        · cases h
        · rename_i hz
          simp only [Except.ok.injEq, Prod.mk.injEq] at h
          obtain ⟨rfl, rfl⟩ := h
          refine ⟨b.toNat, or_mul_pow hx, by omega, by simp, ?_, fun h0 hz' => hz ⟨hz', h0⟩⟩
          rw [putNum_small h8, show i + 1 - i = 1 by omega]
          simp
      · rename_i h8
        have hpow : 2 ^ (7 * (i + 1)) = 128 * 2 ^ (7 * i) := by
          rw [show 7 * (i + 1) = 7 + 7 * i by omega, Nat.pow_add]
        have hx' : x ||| ((b.toNat % 128) * 2 ^ (7 * i)) < 2 ^ (7 * (i + 1)) := by
          refine Nat.or_lt_two_pow (Nat.lt_of_lt_of_le hx (Nat.pow_le_pow_right (by decide) (by omega))) ?_
          rw [hpow]
          exact Nat.mul_lt_mul_of_pos_right (by omega) (Nat.pos_of_ne_zero (by simp))
        obtain ⟨z, h1, h2, h3, h4, h5⟩ := numGo_put l (i + 1) _ y k hx' h
        have hz0 := h5 (by omega)
        refine ⟨b.toNat % 128 + 128 * z, ?_, by omega, by simp only [List.length_cons]; omega, ?_, by omega⟩
        · rw [h1, or_mul_pow hx, hpow, Nat.add_mul, ← Nat.mul_assoc, Nat.mul_comm z 128, Nat.add_assoc]
        · have hbig : ¬ (b.toNat % 128 + 128 * z) < 128 := by omega
          rw [show k - i = (k - (i + 1)) + 1 by omega, List.take_succ_cons, h4, putNum_big hbig, or_128]
          have e1 : (b.toNat % 128 + 128 * z) % 128 = b.toNat % 128 := by omega
          have e2 : (b.toNat % 128 + 128 * z) / 128 = z := by omega
          rw [e1, e2]
          congr 1
          apply UInt8.toNat_inj.1
          rw [UInt8.toNat_ofNat']
          omega
/-- what is put is read -/
theorem put_numGo (r : List UInt8) : ∀ (z i x : Nat), x < 2 ^ (7 * i) → z * 2 ^ (7 * i) < 2 ^ 63 → (0 < i → z ≠ 0) → numGo (putNum z ++ r) i x = .ok (x + z * 2 ^ (7 * i), i + (putNum z).length) := by
  intro z
  induction z using Nat.strongRecOn with
  | _ z ih =>
    intro i x hx hz h0
    have hi : i ≤ 9 := by
      rcases Nat.lt_or_ge 9 i with h | h
      · exfalso
        have h1 : 2 ^ 63 ≤ 2 ^ (7 * i) := Nat.pow_le_pow_right (by decide) (by omega)
        have h2 : 1 ≤ z := Nat.pos_of_ne_zero (h0 (by omega))
        have := Nat.mul_le_mul h2 h1
        omega
      · exact h
    have hi9 : i ≠ 9 := by
      rintro rfl
      have h2 : 1 ≤ z := Nat.pos_of_ne_zero (h0 (by omega))
      have := Nat.mul_le_mul_right (2 ^ (7 * 9)) h2
      omega
    by_cases h8 : z < 128
    · rw [putNum_small h8]
      have e : (UInt8.ofNat z).toNat = z := by rw [UInt8.toNat_ofNat']; omega
      simp only [List.cons_append, List.nil_append, numGo, e]
      rw [if_neg hi9, if_pos h8, if_neg (fun h => h0 h.2 h.1), or_mul_pow hx]
      rfl
    · rw [putNum_big h8]
      have e : (UInt8.ofNat ((z % 256) ||| 128)).toNat = z % 128 + 128 := by rw [UInt8.toNat_ofNat', or_128]; omega
      have hpow : 2 ^ (7 * (i + 1)) = 128 * 2 ^ (7 * i) := by
        rw [show 7 * (i + 1) = 7 + 7 * i by omega, Nat.pow_add]
      have hx' : x ||| ((z % 128) * 2 ^ (7 * i)) < 2 ^ (7 * (i + 1)) := by
        refine Nat.or_lt_two_pow (Nat.lt_of_lt_of_le hx (Nat.pow_le_pow_right (by decide) (by omega))) ?_
        rw [hpow]
        exact Nat.mul_lt_mul_of_pos_right (by omega) (Nat.pos_of_ne_zero (by simp))
      have hzz : z = z % 128 + 128 * (z / 128) := by omega
      have hz' : (z / 128) * 2 ^ (7 * (i + 1)) < 2 ^ 63 := by
        rw [hpow, ← Nat.mul_assoc]
        exact Nat.lt_of_le_of_lt (Nat.mul_le_mul_right _ (by omega)) hz
      have := ih (z / 128) (by omega) (i + 1) _ hx' hz' (fun _ => by omega)
      simp only [List.cons_append, numGo, e]
      rw [if_neg hi9, if_neg (by omega), show (z % 128 + 128) % 128 = z % 128 by omega, this, or_mul_pow hx, hpow]
      congr 2
      · conv => rhs; rw [hzz]
        rw [Nat.add_mul, ← Nat.mul_assoc, Nat.mul_comm 128, Nat.add_assoc]
      · simp only [List.length_cons]; omega
theorem num_put {l : List UInt8} {x k : Nat} (h : numGo l 0 0 = .ok (x, k)) : k ≤ l.length ∧ 0 < k ∧ l.take k = putNum x := by
  obtain ⟨z, h1, h2, h3, h4, _⟩ := numGo_put l 0 0 x k (by decide) h
  simp only [Nat.mul_zero, Nat.pow_zero, Nat.mul_one, Nat.zero_add] at h1
  subst h1
  exact ⟨by omega, by omega, by simpa using h4⟩
theorem put_num {x : Nat} (h : x < 2 ^ 63) (r : List UInt8) : numGo (putNum x ++ r) 0 0 = .ok (x, (putNum x).length) := by
  have := put_numGo r x 0 0 (by decide) (by simpa using h) (fun h => absurd h (Nat.lt_irrefl _))
  simpa using this
end Go.Abs
