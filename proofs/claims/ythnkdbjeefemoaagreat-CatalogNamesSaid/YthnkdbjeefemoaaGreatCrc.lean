/-
  crc.
-/
import Derived.Test.YthnkdbjeefemoaaGreatHeap
set_option linter.unusedVariables false
set_option linter.unusedSimpArgs false
namespace Go.Abs
open Go Go.RowKit Go.Proofs

def crcStep (x : Nat) : Nat := if x % 2 = 1 then (x / 2) ^^^ 3988292384 else x / 2
def crcRow (n x : Nat) : Nat := match n with | 0 => x | n + 1 => crcRow n (crcStep x)
theorem crcStep_lt {x : Nat} (h : x < 2 ^ 32) : crcStep x < 2 ^ 32 := by
  unfold crcStep
  split
  · exact Nat.xor_lt_two_pow (by omega) (by omega)
  · omega

set_option maxRecDepth 10000
theorem s231 (x : Nat) (hx : x < 4294967296) (σ : Heap) : wp (Call 231 #[.int .u32 x] σ) fun r => r = (.int .u32 (crcRow 8 x), σ) := by
  refine wp_call (args := [_]) rfl Tryz.func231 rfl (Nat.le_of_ble_eq_true rfl) 20 ?_
  simp -implicitDefEqProofs (disch := first | decide | omega | assumption | exact Nat.le_of_ble_eq_true rfl | (simp only [Array.size_push, size_set, Array.size_setIfInBounds]; omega)) only [↓pB, qB, ↓reduceIte, Nat.reduceLT, Nat.reduceEqDiff, Int.reducePow, Int.reduceMul, Int.reduceAdd, Int.reduceSub, Int.reduceMod, Int.reduceLT, Nat.reduceAdd, Nat.reduceMul, Int.reduceLE, Int.reduceToNat, Int.reduceEq, ↓p231, q231]
  refine wp_loop keep231x2 (fun k ρ σ' => σ' = σ ∧ ∃ y i, k = 8 - i ∧ i ≤ 8 ∧ y < 4294967296 ∧ ρ 0 = .int .u32 (y : Nat) ∧ ρ 3 = .int .i64 (i : Nat) ∧ crcRow (8 - i) y = crcRow 8 x)
    (fun e ρ σ' => σ' = σ ∧ e = .exit 0 ∧ ρ 0 = .int .u32 (crcRow 8 x : Nat)) 8 (by omega) ?_ ?_ ?_
  · refine ⟨rfl, x, 0, rfl, by omega, hx, ?_⟩
    simp -implicitDefEqProofs (disch := first | decide | omega | assumption | exact Nat.le_of_ble_eq_true rfl | (simp only [Array.size_push, size_set, Array.size_setIfInBounds]; omega)) only [↓pB, qB, ↓reduceIte, Nat.reduceLT, Nat.reduceEqDiff, Int.reducePow, Int.reduceMul, Int.reduceAdd, Int.reduceSub, Int.reduceMod, Int.reduceLT, Nat.reduceAdd, Nat.reduceMul, Int.reduceLE, Int.reduceToNat, Int.reduceEq, ↓p231, q231]
    simp
  · rintro k ρ _ ⟨rfl, y, i, rfl, hi, hy, h0, h3, hr⟩
    simp -implicitDefEqProofs (disch := first | decide | omega | assumption | exact Nat.le_of_ble_eq_true rfl | (simp only [Array.size_push, size_set, Array.size_setIfInBounds]; omega)) only [↓pB, qB, ↓reduceIte, Nat.reduceLT, Nat.reduceEqDiff, Int.reducePow, Int.reduceMul, Int.reduceAdd, Int.reduceSub, Int.reduceMod, Int.reduceLT, Nat.reduceAdd, Nat.reduceMul, Int.reduceLE, Int.reduceToNat, Int.reduceEq, ↓p231, q231, restrictE_def, List.foldl_cons, List.foldl_nil, h0, h3]
    refine wp_ifK_dec (fun hlt => ?_) (fun hge => ?_)
    · simp only [N_hold]
      simp -implicitDefEqProofs (disch := first | decide | omega | assumption | exact Nat.le_of_ble_eq_true rfl | (simp only [Array.size_push, size_set, Array.size_setIfInBounds]; omega)) only [↓pB, qB, ↓reduceIte, Nat.reduceLT, Nat.reduceEqDiff, Int.reducePow, Int.reduceMul, Int.reduceAdd, Int.reduceSub, Int.reduceMod, Int.reduceLT, Nat.reduceAdd, Nat.reduceMul, Int.reduceLE, Int.reduceToNat, Int.reduceEq, ↓p231, q231]
      refine wp_ifK_dec (fun h1 => ?_) (fun h1 => ?_)
      · simp only [N_hold]
        simp -implicitDefEqProofs (disch := first | decide | omega | assumption | exact Nat.le_of_ble_eq_true rfl | (simp only [Array.size_push, size_set, Array.size_setIfInBounds]; omega)) only [↓pB, qB, ↓reduceIte, Nat.reduceLT, Nat.reduceEqDiff, Int.reducePow, Int.reduceMul, Int.reduceAdd, Int.reduceSub, Int.reduceMod, Int.reduceLT, Nat.reduceAdd, Nat.reduceMul, Int.reduceLE, Int.reduceToNat, Int.reduceEq, ↓p231, q231]
        have h1' : y % 2 = 1 := by rw [← Nat.and_one_is_mod]; omega
        have hs : crcStep y = (y / 2) ^^^ 3988292384 := by rw [crcStep, if_pos h1']
        have e : ((y : Int) / 2).toNat = y / 2 := by omega
        refine ⟨8 - (i + 1), by omega, trivial, crcStep y, i + 1, rfl, by omega, crcStep_lt hy, ?_, ?_, ?_⟩
        · rw [hs, e]
        · congr 1
        · rw [← hr, show 8 - i = (8 - (i + 1)) + 1 by omega]; rfl
      · simp only [N_hold]
        simp -implicitDefEqProofs (disch := first | decide | omega | assumption | exact Nat.le_of_ble_eq_true rfl | (simp only [Array.size_push, size_set, Array.size_setIfInBounds]; omega)) only [↓pB, qB, ↓reduceIte, Nat.reduceLT, Nat.reduceEqDiff, Int.reducePow, Int.reduceMul, Int.reduceAdd, Int.reduceSub, Int.reduceMod, Int.reduceLT, Nat.reduceAdd, Nat.reduceMul, Int.reduceLE, Int.reduceToNat, Int.reduceEq, ↓p231, q231]
        have h1' : ¬ y % 2 = 1 := by rw [← Nat.and_one_is_mod]; omega
        have hs : crcStep y = y / 2 := by rw [crcStep, if_neg h1']
        refine ⟨8 - (i + 1), by omega, trivial, crcStep y, i + 1, rfl, by omega, crcStep_lt hy, ?_, ?_, ?_⟩
        · rw [hs]; congr 1
        · congr 1
        · rw [← hr, show 8 - i = (8 - (i + 1)) + 1 by omega]; rfl
    · simp only [N_hold]
      simp -implicitDefEqProofs (disch := first | decide | omega | assumption | exact Nat.le_of_ble_eq_true rfl | (simp only [Array.size_push, size_set, Array.size_setIfInBounds]; omega)) only [↓pB, qB, ↓reduceIte, Nat.reduceLT, Nat.reduceEqDiff, Int.reducePow, Int.reduceMul, Int.reduceAdd, Int.reduceSub, Int.reduceMod, Int.reduceLT, Nat.reduceAdd, Nat.reduceMul, Int.reduceLE, Int.reduceToNat, Int.reduceEq, ↓p231, q231]
      obtain rfl : i = 8 := by omega
      exact ⟨trivial, trivial, by rw [← hr]; rfl⟩
  · rintro e ρ _ ⟨rfl, rfl, h⟩
    simp -implicitDefEqProofs (disch := first | decide | omega | assumption | exact Nat.le_of_ble_eq_true rfl | (simp only [Array.size_push, size_set, Array.size_setIfInBounds]; omega)) only [↓pB, qB, ↓reduceIte, Nat.reduceLT, Nat.reduceEqDiff, Int.reducePow, Int.reduceMul, Int.reduceAdd, Int.reduceSub, Int.reduceMod, Int.reduceLT, Nat.reduceAdd, Nat.reduceMul, Int.reduceLE, Int.reduceToNat, Int.reduceEq, ↓p231, q231, restrictE_def, List.foldl_cons, List.foldl_nil, h]

def crcTab (i : Nat) : Array Value := (Array.range 256).map fun j => .int .u32 ((if j < i then crcRow 8 j else 0 : Nat) : Int)
theorem crcTab_size {i : Nat} : (crcTab i).size = 256 := by simp [crcTab]
theorem crcTab_set {i : Nat} (h : i < 256) : (crcTab i).setIfInBounds i (.int .u32 (crcRow 8 i : Nat)) = crcTab (i + 1) := by
  apply Array.ext_getElem?
  intro j
  rw [Array.getElem?_setIfInBounds]
  by_cases e : i = j
  · subst e
    rw [if_pos rfl, if_pos (by rw [crcTab_size]; exact h)]
    simp [crcTab, h]
  · rw [if_neg e]
    by_cases hj : j < 256
    · have : (j < i) ↔ (j < i + 1) := by omega
      simp only [crcTab, Array.getElem?_map, Array.getElem?_range, hj, if_true, Option.map_some, this]
    · simp [crcTab, hj]
theorem crcTab_zero : (Tryz.t270.zero.getD undef).cells = crcTab 0 := by
  have h : Tryz.t270.zero = some (.agg (Array.replicate 256 (.int .u32 0))) := rfl
  rw [h]
  apply Array.ext
  · simp [crcTab, Value.cells]
  · intro i h1 h2
    simp [crcTab, Value.cells]
theorem s190 (σ : Heap) : wp (Call 190 #[] σ) fun r => r = (.pointer (some ⟨σ.size, 0, none⟩), σ.push (some (.row ⟨crcTab 256, false⟩))) := by
  refine wp_call (args := []) rfl Tryz.func190 rfl (Nat.le_of_ble_eq_true rfl) 300 ?_
  simp -implicitDefEqProofs (disch := first | decide | omega | assumption | exact Nat.le_of_ble_eq_true rfl | (simp only [Array.size_push, size_set, Array.size_setIfInBounds]; omega)) only [↓pB, qB, ↓reduceIte, Nat.reduceLT, Nat.reduceEqDiff, Int.reducePow, Int.reduceMul, Int.reduceAdd, Int.reduceSub, Int.reduceMod, Int.reduceLT, Nat.reduceAdd, Nat.reduceMul, Int.reduceLE, Int.reduceToNat, Int.reduceEq, ↓p190, q190, crcTab_zero]
  refine wp_loop keep190x3 (fun k ρ σ' => ∃ i : Nat, k = 256 - i ∧ i ≤ 256 ∧ σ' = σ.push (some (.row ⟨crcTab i, false⟩)) ∧ ρ 1 = .pointer (some ⟨σ.size, 0, none⟩) ∧ ρ 3 = .int .i64 (i : Nat))
    (fun e ρ σ' => e = .exit 0 ∧ σ' = σ.push (some (.row ⟨crcTab 256, false⟩)) ∧ ρ 1 = .pointer (some ⟨σ.size, 0, none⟩)) 256 (by omega) ?_ ?_ ?_
  · refine ⟨0, rfl, by omega, rfl, ?_⟩
    simp -implicitDefEqProofs (disch := first | decide | omega | assumption | exact Nat.le_of_ble_eq_true rfl | (simp only [Array.size_push, size_set, Array.size_setIfInBounds]; omega)) only [↓pB, qB, ↓reduceIte, Nat.reduceLT, Nat.reduceEqDiff, Int.reducePow, Int.reduceMul, Int.reduceAdd, Int.reduceSub, Int.reduceMod, Int.reduceLT, Nat.reduceAdd, Nat.reduceMul, Int.reduceLE, Int.reduceToNat, Int.reduceEq, ↓p190, q190]
    simp
  · rintro k ρ _ ⟨i, rfl, hi, rfl, h1, h3⟩
    simp -implicitDefEqProofs (disch := first | decide | omega | assumption | exact Nat.le_of_ble_eq_true rfl | (simp only [Array.size_push, size_set, Array.size_setIfInBounds]; omega)) only [↓pB, qB, ↓reduceIte, Nat.reduceLT, Nat.reduceEqDiff, Int.reducePow, Int.reduceMul, Int.reduceAdd, Int.reduceSub, Int.reduceMod, Int.reduceLT, Nat.reduceAdd, Nat.reduceMul, Int.reduceLE, Int.reduceToNat, Int.reduceEq, ↓p190, q190, restrictE_def, List.foldl_cons, List.foldl_nil, h1, h3]
    refine wp_ifK_dec (fun hlt => ?_) (fun hge => ?_)
    · simp only [N_hold]
      simp -implicitDefEqProofs (disch := first | decide | omega | assumption | exact Nat.le_of_ble_eq_true rfl | (simp only [Array.size_push, size_set, Array.size_setIfInBounds]; omega)) only [↓pB, qB, ↓reduceIte, Nat.reduceLT, Nat.reduceEqDiff, Int.reducePow, Int.reduceMul, Int.reduceAdd, Int.reduceSub, Int.reduceMod, Int.reduceLT, Nat.reduceAdd, Nat.reduceMul, Int.reduceLE, Int.reduceToNat, Int.reduceEq, ↓p190, q190, List.map_cons, List.map_nil]
      refine wp_bindK (s231 i (by omega) _) ?_
      rintro _ rfl
      have hsz := @crcTab_size i
      simp -implicitDefEqProofs (disch := first | decide | omega | assumption | exact Nat.le_of_ble_eq_true rfl | (simp only [Array.size_push, size_set, Array.size_setIfInBounds]; omega)) only [↓pB, qB, ↓reduceIte, Nat.reduceLT, Nat.reduceEqDiff, Int.reducePow, Int.reduceMul, Int.reduceAdd, Int.reduceSub, Int.reduceMod, Int.reduceLT, Nat.reduceAdd, Nat.reduceMul, Int.reduceLE, Int.reduceToNat, Int.reduceEq, ↓p190, q190, row?_push_eq, Nat.mul_one, set_push, crcTab_set]
      exact ⟨256 - (i + 1), by omega, i + 1, rfl, by omega, by simp⟩
    · simp only [N_hold]
      simp -implicitDefEqProofs (disch := first | decide | omega | assumption | exact Nat.le_of_ble_eq_true rfl | (simp only [Array.size_push, size_set, Array.size_setIfInBounds]; omega)) only [↓pB, qB, ↓reduceIte, Nat.reduceLT, Nat.reduceEqDiff, Int.reducePow, Int.reduceMul, Int.reduceAdd, Int.reduceSub, Int.reduceMod, Int.reduceLT, Nat.reduceAdd, Nat.reduceMul, Int.reduceLE, Int.reduceToNat, Int.reduceEq, ↓p190, q190]
      obtain rfl : i = 256 := by omega
      simp
  · rintro e ρ _ ⟨rfl, rfl, h1⟩
    simp -implicitDefEqProofs (disch := first | decide | omega | assumption | exact Nat.le_of_ble_eq_true rfl | (simp only [Array.size_push, size_set, Array.size_setIfInBounds]; omega)) only [↓pB, qB, ↓reduceIte, Nat.reduceLT, Nat.reduceEqDiff, Int.reducePow, Int.reduceMul, Int.reduceAdd, Int.reduceSub, Int.reduceMod, Int.reduceLT, Nat.reduceAdd, Nat.reduceMul, Int.reduceLE, Int.reduceToNat, Int.reduceEq, ↓p190, q190, restrictE_def, List.foldl_cons, List.foldl_nil, h1]

def crcUpd (s : Nat) (b : UInt8) : Nat := crcRow 8 ((s % 256) ^^^ b.toNat) ^^^ (s / 256)
def crcOf (l : List UInt8) : Nat := l.foldl crcUpd 4294967295 ^^^ 4294967295
theorem crcRow_lt : ∀ (n x : Nat), x < 4294967296 → crcRow n x < 4294967296
  | 0, x, h => h
  | n + 1, x, h => crcRow_lt n _ (crcStep_lt h)
theorem crcUpd_lt {s : Nat} (h : s < 4294967296) (b : UInt8) : crcUpd s b < 4294967296 := by
  have hb := b.toNat_lt
  have : (s % 256) ^^^ b.toNat < 256 := Nat.xor_lt_two_pow (n := 8) (by omega) (by omega)
  have h1 := crcRow_lt 8 ((s % 256) ^^^ b.toNat) (by omega)
  exact Nat.xor_lt_two_pow (n := 32) h1 (by omega)
theorem crcTab_get {i : Nat} (h : i < 256) : (crcTab 256)[i]? = some (.int .u32 (crcRow 8 i : Nat)) := by
  simp [crcTab, h]

theorem s147 {σ : Heap} {b0 c0 : Nat} {ro : Bool} {a : Option Addr} {n c : Nat} {l : List UInt8} (h0 : row? σ b0 = some ⟨#[.slice a n c], ro⟩) (hv : BSl σ (.slice a n c) l) (hn : n < 4611686018427387904) :
    wp (Call 147 #[.slice (some ⟨b0, 0, some 1⟩) 1 c0] σ) fun r => r.1 = .int .u32 (crcOf l : Nat) ∧ Grows σ r.2 := by
  refine wp_call (args := [_]) rfl Tryz.func147 rfl (Nat.le_of_ble_eq_true rfl) (n + 5) ?_
  simp -implicitDefEqProofs (disch := first | decide | omega | assumption | exact Nat.le_of_ble_eq_true rfl | (simp only [Array.size_push, size_set, Array.size_setIfInBounds]; omega)) only [↓pB, qB, ↓reduceIte, Nat.reduceLT, Nat.reduceEqDiff, Int.reducePow, Int.reduceMul, Int.reduceAdd, Int.reduceSub, Int.reduceMod, Int.reduceLT, Nat.reduceAdd, Nat.reduceMul, Int.reduceLE, Int.reduceToNat, Int.reduceEq, ↓p147, q147]
  refine wp_bindK (s190 σ) ?_
  rintro _ rfl
  simp -implicitDefEqProofs (disch := first | decide | omega | assumption | exact Nat.le_of_ble_eq_true rfl | (simp only [Array.size_push, size_set, Array.size_setIfInBounds]; omega)) only [↓pB, qB, ↓reduceIte, Nat.reduceLT, Nat.reduceEqDiff, Int.reducePow, Int.reduceMul, Int.reduceAdd, Int.reduceSub, Int.reduceMod, Int.reduceLT, Nat.reduceAdd, Nat.reduceMul, Int.reduceLE, Int.reduceToNat, Int.reduceEq, ↓p147, q147]
  have hl := hv.len
  refine wp_loop keep147x4 (fun k ρ σ' => ∃ i : Nat, k = 1 - i ∧ i ≤ 1 ∧ σ' = σ.push (some (.row ⟨crcTab 256, false⟩)) ∧ ρ 3 = .pointer (some ⟨σ.size, 0, none⟩) ∧ ρ 4 = .int .u32 ((if i = 0 then 4294967295 else l.foldl crcUpd 4294967295 : Nat) : Int)
      ∧ ρ 10 = .slice (some ⟨b0, 0, some 1⟩) 1 c0 ∧ ρ 11 = .int .i64 1 ∧ ρ 12 = .int .i64 (i : Nat))
    (fun e ρ σ' => e = .exit 0 ∧ σ' = σ.push (some (.row ⟨crcTab 256, false⟩)) ∧ ρ 4 = .int .u32 (l.foldl crcUpd 4294967295 : Nat)) 1 (by omega) ?_ ?_ ?_
  · refine ⟨0, rfl, by omega, rfl, ?_⟩
    simp -implicitDefEqProofs (disch := first | decide | omega | assumption | exact Nat.le_of_ble_eq_true rfl | (simp only [Array.size_push, size_set, Array.size_setIfInBounds]; omega)) only [↓pB, qB, ↓reduceIte, Nat.reduceLT, Nat.reduceEqDiff, Int.reducePow, Int.reduceMul, Int.reduceAdd, Int.reduceSub, Int.reduceMod, Int.reduceLT, Nat.reduceAdd, Nat.reduceMul, Int.reduceLE, Int.reduceToNat, Int.reduceEq, ↓p147, q147]
    simp
  · rintro k ρ _ ⟨i, rfl, hi, rfl, h3, h4, h10, h11, h12⟩
    simp -implicitDefEqProofs (disch := first | decide | omega | assumption | exact Nat.le_of_ble_eq_true rfl | (simp only [Array.size_push, size_set, Array.size_setIfInBounds]; omega)) only [↓pB, qB, ↓reduceIte, Nat.reduceLT, Nat.reduceEqDiff, Int.reducePow, Int.reduceMul, Int.reduceAdd, Int.reduceSub, Int.reduceMod, Int.reduceLT, Nat.reduceAdd, Nat.reduceMul, Int.reduceLE, Int.reduceToNat, Int.reduceEq, ↓p147, q147, restrictE_def, List.foldl_cons, List.foldl_nil, h3, h4, h10, h11, h12]
    refine wp_ifK_dec (fun hlt => ?_) (fun hge => ?_)
    · simp only [N_hold]
      obtain rfl : i = 0 := by omega
      have hb0 := row?_lt h0
      simp -implicitDefEqProofs (disch := first | decide | omega | assumption | exact Nat.le_of_ble_eq_true rfl | (simp only [Array.size_push, size_set, Array.size_setIfInBounds]; omega)) only [↓pB, qB, ↓reduceIte, Nat.reduceLT, Nat.reduceEqDiff, Int.reducePow, Int.reduceMul, Int.reduceAdd, Int.reduceSub, Int.reduceMod, Int.reduceLT, Nat.reduceAdd, Nat.reduceMul, Int.reduceLE, Int.reduceToNat, Int.reduceEq, ↓p147, q147, row?_push_lt, h0]
      refine wp_loop keep147x7 (fun k ρ σ' => ∃ j : Nat, k = n - j ∧ j ≤ n ∧ σ' = σ.push (some (.row ⟨crcTab 256, false⟩)) ∧ ρ 3 = .pointer (some ⟨σ.size, 0, none⟩) ∧ (∃ s : Nat, s < 4294967296 ∧ ρ 4 = .int .u32 s ∧ (l.drop j).foldl crcUpd s = l.foldl crcUpd 4294967295)
        ∧ ρ 10 = .slice (some ⟨b0, 0, some 1⟩) 1 c0 ∧ ρ 11 = .int .i64 1 ∧ ρ 12 = .int .i64 0 ∧ ρ 16 = .slice a n c ∧ ρ 17 = .int .i64 n ∧ ρ 18 = .int .i64 (j : Nat))
        (fun e ρ σ' => e = .exit 2 ∧ σ' = σ.push (some (.row ⟨crcTab 256, false⟩)) ∧ ρ 3 = .pointer (some ⟨σ.size, 0, none⟩) ∧ ρ 4 = .int .u32 (l.foldl crcUpd 4294967295 : Nat)
        ∧ ρ 10 = .slice (some ⟨b0, 0, some 1⟩) 1 c0 ∧ ρ 11 = .int .i64 1 ∧ ρ 12 = .int .i64 0) n (by omega) ?_ ?_ ?_
      · refine ⟨0, rfl, by omega, rfl, ?_⟩
        simp -implicitDefEqProofs (disch := first | decide | omega | assumption | exact Nat.le_of_ble_eq_true rfl | (simp only [Array.size_push, size_set, Array.size_setIfInBounds]; omega)) only [↓pB, qB, ↓reduceIte, Nat.reduceLT, Nat.reduceEqDiff, Int.reducePow, Int.reduceMul, Int.reduceAdd, Int.reduceSub, Int.reduceMod, Int.reduceLT, Nat.reduceAdd, Nat.reduceMul, Int.reduceLE, Int.reduceToNat, Int.reduceEq, ↓p147, q147]
        simp
        exact ⟨_, by decide, by rfl, rfl⟩
      · rintro k ρ _ ⟨j, rfl, hj, rfl, h3, ⟨s, hs, h4, hf⟩, h10, h11, h12, h16, h17, h18⟩
        simp -implicitDefEqProofs (disch := first | decide | omega | assumption | exact Nat.le_of_ble_eq_true rfl | (simp only [Array.size_push, size_set, Array.size_setIfInBounds]; omega)) only [↓pB, qB, ↓reduceIte, Nat.reduceLT, Nat.reduceEqDiff, Int.reducePow, Int.reduceMul, Int.reduceAdd, Int.reduceSub, Int.reduceMod, Int.reduceLT, Nat.reduceAdd, Nat.reduceMul, Int.reduceLE, Int.reduceToNat, Int.reduceEq, ↓p147, q147, restrictE_def, List.foldl_cons, List.foldl_nil, h3, h4, h10, h11, h12, h16, h17, h18]
        refine wp_ifK_dec (fun hlt => ?_) (fun hge => ?_)
        · simp only [N_hold]
          obtain ⟨b, o, rfl, hc⟩ := hv.at (i := j) (by omega)
          have hbl : b < σ.size := by
            cases hv with
            | row h _ => exact row?_lt h
          have hbyte := (l[j]?.getD 0).toNat_lt
          have hm : ((s : Int) % 256).toNat = s % 256 := by omega
          have hd : ((s : Int) / 256).toNat = s / 256 := by omega
          have hx : (s % 256) ^^^ (l[j]?.getD 0).toNat < 256 := Nat.xor_lt_two_pow (n := 8) (by omega) (by omega)
          have hr := crcRow_lt 8 ((s % 256) ^^^ (l[j]?.getD 0).toNat) (by omega)
          simp -implicitDefEqProofs (disch := first | decide | omega | assumption | exact Nat.le_of_ble_eq_true rfl | (simp only [Array.size_push, size_set, Array.size_setIfInBounds]; omega)) only [↓pB, qB, ↓reduceIte, Nat.reduceLT, Nat.reduceEqDiff, Int.reducePow, Int.reduceMul, Int.reduceAdd, Int.reduceSub, Int.reduceMod, Int.reduceLT, Nat.reduceAdd, Nat.reduceMul, Int.reduceLE, Int.reduceToNat, Int.reduceEq, ↓p147, q147, row?_push_lt, row?_push_eq, hc, bv, hm, hd, crcTab_get]
          refine ⟨n - (j + 1), by omega, j + 1, rfl, by omega, trivial, trivial, ⟨crcUpd s (l[j]?.getD 0), crcUpd_lt hs _, rfl, ?_⟩, by simp⟩
          rw [← hf, List.drop_eq_getElem_cons (show j < l.length by omega), List.foldl_cons, List.getElem?_eq_getElem (show j < l.length by omega)]
          rfl
        · simp only [N_hold]
          simp -implicitDefEqProofs (disch := first | decide | omega | assumption | exact Nat.le_of_ble_eq_true rfl | (simp only [Array.size_push, size_set, Array.size_setIfInBounds]; omega)) only [↓pB, qB, ↓reduceIte, Nat.reduceLT, Nat.reduceEqDiff, Int.reducePow, Int.reduceMul, Int.reduceAdd, Int.reduceSub, Int.reduceMod, Int.reduceLT, Nat.reduceAdd, Nat.reduceMul, Int.reduceLE, Int.reduceToNat, Int.reduceEq, ↓p147, q147]
          obtain rfl : j = n := by omega
          rw [List.drop_eq_nil_of_le (by omega)] at hf
          simp only [List.foldl_nil] at hf
          simp [hf]
      · rintro e ρ _ ⟨rfl, rfl, h3, h4, h10, h11, h12⟩
        simp -implicitDefEqProofs (disch := first | decide | omega | assumption | exact Nat.le_of_ble_eq_true rfl | (simp only [Array.size_push, size_set, Array.size_setIfInBounds]; omega)) only [↓pB, qB, ↓reduceIte, Nat.reduceLT, Nat.reduceEqDiff, Int.reducePow, Int.reduceMul, Int.reduceAdd, Int.reduceSub, Int.reduceMod, Int.reduceLT, Nat.reduceAdd, Nat.reduceMul, Int.reduceLE, Int.reduceToNat, Int.reduceEq, ↓p147, q147, restrictE_def, List.foldl_cons, List.foldl_nil, h3, h4, h10, h11, h12]
        exact ⟨0, by omega, 1, rfl, by omega, by simp⟩
    · simp only [N_hold]
      simp -implicitDefEqProofs (disch := first | decide | omega | assumption | exact Nat.le_of_ble_eq_true rfl | (simp only [Array.size_push, size_set, Array.size_setIfInBounds]; omega)) only [↓pB, qB, ↓reduceIte, Nat.reduceLT, Nat.reduceEqDiff, Int.reducePow, Int.reduceMul, Int.reduceAdd, Int.reduceSub, Int.reduceMod, Int.reduceLT, Nat.reduceAdd, Nat.reduceMul, Int.reduceLE, Int.reduceToNat, Int.reduceEq, ↓p147, q147]
      obtain rfl : i = 1 := by omega
      simp
  · rintro e ρ _ ⟨rfl, rfl, h4⟩
    have hlt : ∀ (l : List UInt8) (s : Nat), s < 4294967296 → l.foldl crcUpd s < 4294967296 := by
      intro l
      induction l with
      | nil => intro s h; exact h
      | cons b l ih => intro s h; exact ih _ (crcUpd_lt h b)
    have := hlt l 4294967295 (by omega)
    simp -implicitDefEqProofs (disch := first | decide | omega | assumption | exact Nat.le_of_ble_eq_true rfl | (simp only [Array.size_push, size_set, Array.size_setIfInBounds]; omega)) only [↓pB, qB, ↓reduceIte, Nat.reduceLT, Nat.reduceEqDiff, Int.reducePow, Int.reduceMul, Int.reduceAdd, Int.reduceSub, Int.reduceMod, Int.reduceLT, Nat.reduceAdd, Nat.reduceMul, Int.reduceLE, Int.reduceToNat, Int.reduceEq, ↓p147, q147, restrictE_def, List.foldl_cons, List.foldl_nil, h4]
    exact ⟨rfl, (Grows.refl σ).push _⟩
end Go.Abs
