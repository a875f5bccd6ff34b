/-
  CatalogNames: the law.
-/
import Derived.Test.YthnkdbjeefemoaaGreatNames2
set_option linter.unusedVariables false
set_option linter.unusedSimpArgs false
set_option linter.unusedSectionVars false
namespace Go.Abs
open Go Go.RowKit Go.Proofs
set_option maxRecDepth 10000

theorem cmp3_spec : ∀ x y : List UInt8, (cmp3 x y < 0 ∧ x < y) ∨ (cmp3 x y = 0 ∧ x = y) ∨ (0 < cmp3 x y ∧ y < x)
  | [], [] => .inr (.inl ⟨rfl, rfl⟩)
  | [], b :: y => .inl ⟨by simp [cmp3], by simp⟩
  | a :: x, [] => .inr (.inr ⟨by simp [cmp3], by simp⟩)
  | a :: x, b :: y => by
    simp only [cmp3]
    by_cases h1 : a.toNat < b.toNat
    · rw [if_pos h1]
      exact .inl ⟨by decide, List.cons_lt_cons_iff.2 (.inl (UInt8.lt_iff_toNat_lt.2 h1))⟩
    · rw [if_neg h1]
      by_cases h2 : b.toNat < a.toNat
      · rw [if_pos h2]
        exact .inr (.inr ⟨by decide, List.cons_lt_cons_iff.2 (.inl (UInt8.lt_iff_toNat_lt.2 h2))⟩)
      · rw [if_neg h2]
        have e : a = b := UInt8.toNat_inj.1 (by omega)
        subst e
        rcases cmp3_spec x y with ⟨h, h'⟩ | ⟨h, h'⟩ | ⟨h, h'⟩
        · exact .inl ⟨h, List.cons_lt_cons_iff.2 (.inr ⟨rfl, h'⟩)⟩
        · exact .inr (.inl ⟨h, by rw [h']⟩)
        · exact .inr (.inr ⟨h, List.cons_lt_cons_iff.2 (.inr ⟨rfl, h'⟩)⟩)
theorem cmp3_lt {x y : List UInt8} (h : x ≤ y) (hne : x ≠ y) : cmp3 x y < 0 := by
  rcases cmp3_spec x y with ⟨h1, _⟩ | ⟨_, h1⟩ | ⟨_, h1⟩
  · exact h1
  · exact absurd h1 hne
  · exact absurd h1 (List.not_lt.2 h)
theorem sortStr_sorted {ks : List (List UInt8)} (hn : ks.Nodup) {i : Nat} (hi : i + 1 < (sortStr ks).length) : cmp3 (sortStr ks)[i] (sortStr ks)[i + 1] < 0 := by
  have tr : ∀ a b c : List UInt8, decide (a ≤ b) = true → decide (b ≤ c) = true → decide (a ≤ c) = true := fun a b c h1 h2 => by simp only [decide_eq_true_eq] at *; exact List.le_trans h1 h2
  have to : ∀ a b : List UInt8, (decide (a ≤ b) || decide (b ≤ a)) = true := fun a b => by simp only [Bool.or_eq_true, decide_eq_true_eq]; exact List.le_total a b
  have h1 := List.pairwise_mergeSort tr to ks
  have h2 : (sortStr ks).Nodup := (List.mergeSort_perm ks fun x y => decide (x ≤ y)).nodup_iff.2 hn
  refine cmp3_lt ?_ ?_
  · have := List.pairwise_iff_getElem.1 h1 i (i + 1) (Nat.lt_of_succ_lt hi) hi (Nat.lt_succ_self i)
    exact of_decide_eq_true this
  · exact List.pairwise_iff_getElem.1 h2 i (i + 1) (Nat.lt_of_succ_lt hi) hi (Nat.lt_succ_self i)
theorem sortStr_sorted' {ks : List (List UInt8)} (hn : ks.Nodup) {i : Nat} {x y : List UInt8} (hx : (sortStr ks)[i]? = some x) (hy : (sortStr ks)[i + 1]? = some y) : cmp3 x y < 0 := by
  have hi : i + 1 < (sortStr ks).length := by
    rcases Nat.lt_or_ge (i + 1) (sortStr ks).length with h1 | h1
    · exact h1
    · rw [List.getElem?_eq_none h1] at hy; cases hy
  have := sortStr_sorted hn hi
  rw [List.getElem?_eq_getElem (by omega)] at hx
  rw [List.getElem?_eq_getElem hi] at hy
  cases hx; cases hy
  exact this
theorem newRow1_sl (l : List (List UInt8)) (σ : Heap) : Sl eStr (newRow1 (l.map encStr) σ).2 (newRow1 (l.map encStr) σ).1 l ∧ Grows σ (newRow1 (l.map encStr) σ).2 := by
  unfold newRow1
  by_cases h : l = []
  · subst h
    rw [List.map_nil, if_pos rfl]
    exact ⟨.nil 0, Grows.refl _⟩
  · rw [if_neg (by simpa using h)]
    refine ⟨?_, (Grows.refl σ).push _⟩
    have e : l.map encStr = [] ++ l.flatMap eStr.f ++ [] := by
      rw [List.nil_append, List.append_nil, List.flatMap_def]
      show _ = (l.map fun x => [Value.string (bs x)]).flatten
      induction l with
      | nil => rfl
      | cons x l ih =>
        simp only [List.map_cons, List.flatten_cons, List.cons_append, List.nil_append]
        cases l with
        | nil => rfl
        | cons y l => rw [ih (by simp)]; rfl
    rw [e]
    exact .row (cs := []) (by rw [← e]; exact row?_push_eq) rfl (by rw [← e, List.length_map])

/-- the law's names -/
def nm (L i : Nat) : List UInt8 := UInt8.ofNat (97 + i * 7 % 24) :: List.replicate L 120
theorem nm_len (L i : Nat) : (nm L i).length = L + 1 := by simp [nm]
theorem nm_inj {L i j : Nat} (hi : i < 24) (hj : j < 24) (h : nm L i = nm L j) : i = j := by
  simp only [nm, List.cons.injEq, and_true] at h
  have := congrArg UInt8.toNat h
  rw [UInt8.toNat_ofNat', UInt8.toNat_ofNat'] at this
  have h1 : i * 7 % 24 = j * 7 % 24 := by omega
  have h2 : (i * 7 % 24) * 7 % 24 = i := by omega
  have h3 : (j * 7 % 24) * 7 % 24 = j := by omega
  rw [← h2, h1, h3]
theorem bytesStr_one {σ : Heap} {a : Int} {c : Nat} : bytesStr (σ.push (some (.row ⟨#[.int .u8 a], false⟩))) (.slice (some ⟨σ.size, 0, some 1⟩) 1 c) = some (.string (bs [UInt8.ofNat a.toNat])) := by
  have : rdCells (σ.push (some (.row ⟨#[.int .u8 a], false⟩))) σ.size 0 1 = some #[.int .u8 a] := by
    unfold rdCells
    rw [row?_push_eq]
    rfl
  unfold bytesStr
  simp only [this]
  rfl
/-- the tables' names behind i rounds -/
def namesAt (L i : Nat) : List ByteArray := if L ≤ 31 then (List.range (min i 16)).map fun j => bs (nm L j) else []
theorem namesAt_new {L i : Nat} (hi : i < 24) : bs (nm L i) ∉ namesAt L i := by
  unfold namesAt
  split
  · intro h
    obtain ⟨j, hj, he⟩ := List.mem_map.1 h
    rw [List.mem_range] at hj
    have := nm_inj (by omega) hi (bs_inj.1 he)
    omega
  · simp
theorem namesAt_len {L i : Nat} : (namesAt L i).length = if L ≤ 31 then min i 16 else 0 := by
  unfold namesAt
  split <;> simp
theorem namesAt_size {L i : Nat} : ∀ k ∈ namesAt L i, k.size ≤ 32 := by
  unfold namesAt
  split
  · rename_i h
    intro k hk
    obtain ⟨j, hj, rfl⟩ := List.mem_map.1 hk
    rw [bs_size, nm_len]; omega
  · simp
theorem namesAt_succ {L i : Nat} (h : L ≤ 31) (hi : i < 16) : namesAt L (i + 1) = namesAt L i ++ [bs (nm L i)] := by
  unfold namesAt
  rw [if_pos h, if_pos h, Nat.min_eq_left (by omega), Nat.min_eq_left (by omega), List.range_succ, List.map_append]
  rfl
theorem namesAt_same {L i : Nat} (h : ¬ L ≤ 31 ∨ 16 ≤ i) : namesAt L (i + 1) = namesAt L i := by
  unfold namesAt
  rcases h with h | h
  · rw [if_neg h, if_neg h]
  · rw [Nat.min_eq_right (by omega), Nat.min_eq_right (by omega)]

theorem s4 (n L0 : Nat) (hn : n < 256) (hL0 : L0 < 256) (σ : Heap) : wp (Call 4 #[.int .u8 n, .int .u8 L0] σ) fun r => r.1 = .bool true := by
  refine wp_call (args := [_, _]) rfl Tryz.func4 rfl (Nat.le_of_ble_eq_true rfl) 100 ?_
  simp -implicitDefEqProofs (disch := first | decide | omega | assumption | exact Nat.le_of_ble_eq_true rfl | (simp only [Array.size_push, size_set, Array.size_setIfInBounds]; omega)) only [↓pB, qB, ↓reduceIte, Nat.reduceLT, Nat.reduceEqDiff, Int.reducePow, Int.reduceMul, Int.reduceAdd, Int.reduceSub, Int.reduceMod, Int.reduceLT, Nat.reduceAdd, Nat.reduceMul, Int.reduceLE, Int.reduceToNat, Int.reduceEq, ↓p4, q4]
  refine wp_bindK (s20 σ) ?_
  rintro ⟨_, σ1⟩ ⟨rfl, g1⟩
  simp -implicitDefEqProofs (disch := first | decide | omega | assumption | exact Nat.le_of_ble_eq_true rfl | (simp only [Array.size_push, size_set, Array.size_setIfInBounds]; omega)) only [↓pB, qB, ↓reduceIte, Nat.reduceLT, Nat.reduceEqDiff, Int.reducePow, Int.reduceMul, Int.reduceAdd, Int.reduceSub, Int.reduceMod, Int.reduceLT, Nat.reduceAdd, Nat.reduceMul, Int.reduceLE, Int.reduceToNat, Int.reduceEq, ↓p4, q4]
  refine wp_bindK (k22 σ1) ?_
  rintro ⟨_, σ2⟩ ⟨p, rfl, hc, g2⟩
  simp only at hc g2
  simp -implicitDefEqProofs (disch := first | decide | omega | assumption | exact Nat.le_of_ble_eq_true rfl | (simp only [Array.size_push, size_set, Array.size_setIfInBounds]; omega)) only [↓pB, qB, ↓reduceIte, Nat.reduceLT, Nat.reduceEqDiff, Int.reducePow, Int.reduceMul, Int.reduceAdd, Int.reduceSub, Int.reduceMod, Int.reduceLT, Nat.reduceAdd, Nat.reduceMul, Int.reduceLE, Int.reduceToNat, Int.reduceEq, ↓p4, q4, Option.isNone_some]
  obtain ⟨L, hL⟩ : ∃ L, L = L0 % 40 := ⟨_, rfl⟩
  obtain ⟨N, hN⟩ : ∃ N, N = n % 24 := ⟨_, rfl⟩
  refine wp_loop keep4x7 (fun k ρ σ' => ∃ (i : Nat) (m : Ents), k = N - i ∧ i ≤ N ∧ CatG σ1.size σ' p m ∧ σ1.size ≤ σ'.size ∧ m.map (·.1) = namesAt L i ∧ ρ 0 = .int .u8 n ∧ ρ 1 = .int .u8 L0 ∧ ρ 5 = .pointer (some ⟨p, 0, none⟩) ∧ ρ 6 = .int .i64 i)
    (fun e ρ σ' => ∃ (m : Ents), e = .exit 0 ∧ CatG σ1.size σ' p m ∧ σ1.size ≤ σ'.size ∧ m.map (·.1) = namesAt L N ∧ ρ 5 = .pointer (some ⟨p, 0, none⟩)) N (by omega) ?_ ?_ ?_
  · refine ⟨0, [], rfl, Nat.zero_le _, hc, g2.1, ?_, ?_⟩
    · simp [namesAt]
    simp -implicitDefEqProofs (disch := first | decide | omega | assumption | exact Nat.le_of_ble_eq_true rfl | (simp only [Array.size_push, size_set, Array.size_setIfInBounds]; omega)) only [↓pB, qB, ↓reduceIte, Nat.reduceLT, Nat.reduceEqDiff, Int.reducePow, Int.reduceMul, Int.reduceAdd, Int.reduceSub, Int.reduceMod, Int.reduceLT, Nat.reduceAdd, Nat.reduceMul, Int.reduceLE, Int.reduceToNat, Int.reduceEq, ↓p4, q4]
    simp
  · rintro k ρ σ3 ⟨i, m, rfl, hi, hc3, hz3, hkeys, r0, r1, r5, r6⟩
    simp -implicitDefEqProofs (disch := first | decide | omega | assumption | exact Nat.le_of_ble_eq_true rfl | (simp only [Array.size_push, size_set, Array.size_setIfInBounds]; omega)) only [↓pB, qB, ↓reduceIte, Nat.reduceLT, Nat.reduceEqDiff, Int.reducePow, Int.reduceMul, Int.reduceAdd, Int.reduceSub, Int.reduceMod, Int.reduceLT, Nat.reduceAdd, Nat.reduceMul, Int.reduceLE, Int.reduceToNat, Int.reduceEq, ↓p4, q4, restrictE_def, List.foldl_cons, List.foldl_nil, r0, r1, r5, r6]
    by_cases hlt : i < N
    · have hlt' : (i : Int) < (n : Nat) % 24 := by omega
      simp -implicitDefEqProofs (disch := first | decide | omega | assumption | exact Nat.le_of_ble_eq_true rfl | (simp only [Array.size_push, size_set, Array.size_setIfInBounds]; omega)) only [↓pB, qB, ↓reduceIte, Nat.reduceLT, Nat.reduceEqDiff, Int.reducePow, Int.reduceMul, Int.reduceAdd, Int.reduceSub, Int.reduceMod, Int.reduceLT, Nat.reduceAdd, Nat.reduceMul, Int.reduceLE, Int.reduceToNat, Int.reduceEq, ↓p4, q4, hlt', bytesStr_one]
      have hx : UInt8.ofNat ((97 + (i : Int) * 7 % 24).toNat) = UInt8.ofNat (97 + i * 7 % 24) := by
        congr 1
      refine wp_loop keep4x10 (fun k ρ σ' => σ' = σ3.push (some (.row ⟨#[.int .u8 (97 + (i : Int) * 7 % 24)], false⟩)) ∧ ∃ j : Nat, k = L - j ∧ j ≤ L ∧ ρ 0 = .int .u8 n ∧ ρ 1 = .int .u8 L0 ∧ ρ 5 = .pointer (some ⟨p, 0, none⟩) ∧ ρ 6 = .int .i64 i ∧ ρ 7 = .string (bs (UInt8.ofNat (97 + i * 7 % 24) :: List.replicate j 120)))
        (fun e ρ σ' => e = .exit 2 ∧ σ' = σ3.push (some (.row ⟨#[.int .u8 (97 + (i : Int) * 7 % 24)], false⟩)) ∧ ρ 0 = .int .u8 n ∧ ρ 1 = .int .u8 L0 ∧ ρ 5 = .pointer (some ⟨p, 0, none⟩) ∧ ρ 6 = .int .i64 i ∧ ρ 7 = .string (bs (nm L i))) L (by omega) ?_ ?_ ?_
      · refine ⟨rfl, 0, rfl, Nat.zero_le _, ?_⟩
        simp -implicitDefEqProofs (disch := first | decide | omega | assumption | exact Nat.le_of_ble_eq_true rfl | (simp only [Array.size_push, size_set, Array.size_setIfInBounds]; omega)) only [↓pB, qB, ↓reduceIte, Nat.reduceLT, Nat.reduceEqDiff, Int.reducePow, Int.reduceMul, Int.reduceAdd, Int.reduceSub, Int.reduceMod, Int.reduceLT, Nat.reduceAdd, Nat.reduceMul, Int.reduceLE, Int.reduceToNat, Int.reduceEq, ↓p4, q4]
        rw [hx]
        exact ⟨trivial, trivial, trivial, trivial, rfl⟩
      · rintro k ρ _ ⟨rfl, j, rfl, hj, r0, r1, r5, r6, r7⟩
        have hl : (UInt8.ofNat (97 + i * 7 % 24) :: List.replicate j 120).length = j + 1 := by simp
        have h1 : ([120] : List UInt8).length = 1 := rfl
        have e120 : (⟨#[120]⟩ : ByteArray) = bs [120] := rfl
        simp -implicitDefEqProofs (disch := first | decide | omega | assumption | exact Nat.le_of_ble_eq_true rfl | (simp only [Array.size_push, size_set, Array.size_setIfInBounds]; omega)) only [↓pB, qB, ↓reduceIte, Nat.reduceLT, Nat.reduceEqDiff, Int.reducePow, Int.reduceMul, Int.reduceAdd, Int.reduceSub, Int.reduceMod, Int.reduceLT, Nat.reduceAdd, Nat.reduceMul, Int.reduceLE, Int.reduceToNat, Int.reduceEq, ↓p4, q4, restrictE_def, List.foldl_cons, List.foldl_nil, r0, r1, r5, r6, r7]
        refine wp_ifK_dec (fun h2 => ?_) (fun h2 => ?_)
        · simp only [N_hold]
          simp -implicitDefEqProofs (disch := first | decide | omega | assumption | exact Nat.le_of_ble_eq_true rfl | (simp only [Array.size_push, size_set, Array.size_setIfInBounds]; omega)) only [↓pB, qB, ↓reduceIte, Nat.reduceLT, Nat.reduceEqDiff, Int.reducePow, Int.reduceMul, Int.reduceAdd, Int.reduceSub, Int.reduceMod, Int.reduceLT, Nat.reduceAdd, Nat.reduceMul, Int.reduceLE, Int.reduceToNat, Int.reduceEq, ↓p4, q4, e120]
          refine ⟨L - (j + 1), by omega, trivial, j + 1, rfl, by omega, ?_⟩
          simp only [List.replicate_succ', List.cons_append, List.nil_append]
          exact ⟨trivial, trivial, trivial, trivial, trivial⟩
        · simp only [N_hold]
          simp -implicitDefEqProofs (disch := first | decide | omega | assumption | exact Nat.le_of_ble_eq_true rfl | (simp only [Array.size_push, size_set, Array.size_setIfInBounds]; omega)) only [↓pB, qB, ↓reduceIte, Nat.reduceLT, Nat.reduceEqDiff, Int.reducePow, Int.reduceMul, Int.reduceAdd, Int.reduceSub, Int.reduceMod, Int.reduceLT, Nat.reduceAdd, Nat.reduceMul, Int.reduceLE, Int.reduceToNat, Int.reduceEq, ↓p4, q4]
          obtain rfl : j = L := by omega
          exact ⟨trivial, trivial, trivial, trivial, trivial, trivial, rfl⟩
      · rintro e ρ _ ⟨rfl, rfl, r0, r1, r5, r6, r7⟩
        have g4 : Grows σ3 (σ3.push (some (.row ⟨#[.int .u8 (97 + (i : Int) * 7 % 24)], false⟩))) := (Grows.refl _).push _
        simp -implicitDefEqProofs (disch := first | decide | omega | assumption | exact Nat.le_of_ble_eq_true rfl | (simp only [Array.size_push, size_set, Array.size_setIfInBounds]; omega)) only [↓pB, qB, ↓reduceIte, Nat.reduceLT, Nat.reduceEqDiff, Int.reducePow, Int.reduceMul, Int.reduceAdd, Int.reduceSub, Int.reduceMod, Int.reduceLT, Nat.reduceAdd, Nat.reduceMul, Int.reduceLE, Int.reduceToNat, Int.reduceEq, ↓p4, q4, restrictE_def, List.foldl_cons, List.foldl_nil, r0, r1, r5, r6, r7]
        have hlen := nm_len L i
        have hm16 : m.length = (namesAt L i).length := by rw [← hkeys, List.length_map]
        rw [namesAt_len] at hm16
        have hz4 := g4.1
        refine wp_bindK (k28 (hc3.grows g4) (by omega) (bs (nm L i)) (by rw [bs_size, hlen]; omega) (1 + (i : Int) % 8)) ?_
        rintro ⟨_, σ5⟩ ⟨rfl, st5, h5⟩
        simp only at st5 h5
        have hz5 := st5.size
        have hnone : mfind (bs (nm L i)) m 0 = none := mfind_of_not (by rw [hkeys]; exact namesAt_new (by omega))
        have herr : createErr (bs (nm L i)) m (1 + (i : Int) % 8) = if L ≤ 31 then (if i < 16 then 0 else 6) else 1 := by
          unfold createErr
          rw [bs_size, hlen, hnone]
          by_cases h1 : L ≤ 31
          · rw [if_pos h1] at hm16
            rw [if_neg (by omega), if_pos h1]
            by_cases h2 : i < 16
            · rw [if_pos h2, if_neg (by simp), if_neg (by omega)]
            · rw [if_neg h2, if_neg (by simp), if_pos (by omega)]
          · rw [if_pos (by omega), if_neg h1]
        rw [herr] at h5 ⊢
        by_cases h1 : L ≤ 31
        · rw [if_pos h1] at hm16 h5 ⊢
          have w1 : ¬ (32 : Int) < ((nm L i).length : Nat) := by omega
          have w2 : ((nm L i).length : Int) ≤ 32 := by omega
          by_cases h2 : i < 16
          · rw [if_pos h2] at h5 ⊢
            rw [if_pos rfl] at h5
            obtain ⟨t, c, hc5, _, _⟩ := h5
            have w3 : (i : Int) < 16 := by omega
            have w4 : ¬ (16 : Int) ≤ i := by omega
            simp -implicitDefEqProofs (disch := first | decide | omega | assumption | exact Nat.le_of_ble_eq_true rfl | (simp only [Array.size_push, size_set, Array.size_setIfInBounds]; omega)) only [↓pB, qB, ↓reduceIte, Nat.reduceLT, Nat.reduceEqDiff, Int.reducePow, Int.reduceMul, Int.reduceAdd, Int.reduceSub, Int.reduceMod, Int.reduceLT, Nat.reduceAdd, Nat.reduceMul, Int.reduceLE, Int.reduceToNat, Int.reduceEq, ↓p4, q4, w1, w2, w3, w4]
            refine ⟨N - (i + 1), by omega, i + 1, _, rfl, by omega, hc5, by omega, ?_, ?_⟩
            · rw [List.map_append, hkeys, namesAt_succ h1 h2]; rfl
            · simp
          · rw [if_neg h2] at h5 ⊢
            rw [if_neg (by decide)] at h5
            have w3 : ¬ (i : Int) < 16 := by omega
            have w4 : (16 : Int) ≤ i := by omega
            simp -implicitDefEqProofs (disch := first | decide | omega | assumption | exact Nat.le_of_ble_eq_true rfl | (simp only [Array.size_push, size_set, Array.size_setIfInBounds]; omega)) only [↓pB, qB, ↓reduceIte, Nat.reduceLT, Nat.reduceEqDiff, Int.reducePow, Int.reduceMul, Int.reduceAdd, Int.reduceSub, Int.reduceMod, Int.reduceLT, Nat.reduceAdd, Nat.reduceMul, Int.reduceLE, Int.reduceToNat, Int.reduceEq, ↓p4, q4, w1, w2, w3, w4]
            refine ⟨N - (i + 1), by omega, i + 1, m, rfl, by omega, h5, by omega, ?_, ?_⟩
            · rw [hkeys, namesAt_same (.inr (by omega))]
            · simp
        · rw [if_neg h1] at hm16 h5 ⊢
          rw [if_neg (by decide)] at h5
          have w1 : (32 : Int) < ((nm L i).length : Nat) := by omega
          have w2 : ¬ ((nm L i).length : Int) ≤ 32 := by omega
          simp -implicitDefEqProofs (disch := first | decide | omega | assumption | exact Nat.le_of_ble_eq_true rfl | (simp only [Array.size_push, size_set, Array.size_setIfInBounds]; omega)) only [↓pB, qB, ↓reduceIte, Nat.reduceLT, Nat.reduceEqDiff, Int.reducePow, Int.reduceMul, Int.reduceAdd, Int.reduceSub, Int.reduceMod, Int.reduceLT, Nat.reduceAdd, Nat.reduceMul, Int.reduceLE, Int.reduceToNat, Int.reduceEq, ↓p4, q4, w1, w2]
          refine ⟨N - (i + 1), by omega, i + 1, m, rfl, by omega, h5, by omega, ?_, ?_⟩
          · rw [hkeys, namesAt_same (.inl h1)]
          · simp
    · have hlt' : ¬ (i : Int) < (n : Nat) % 24 := by omega
      simp -implicitDefEqProofs (disch := first | decide | omega | assumption | exact Nat.le_of_ble_eq_true rfl | (simp only [Array.size_push, size_set, Array.size_setIfInBounds]; omega)) only [↓pB, qB, ↓reduceIte, Nat.reduceLT, Nat.reduceEqDiff, Int.reducePow, Int.reduceMul, Int.reduceAdd, Int.reduceSub, Int.reduceMod, Int.reduceLT, Nat.reduceAdd, Nat.reduceMul, Int.reduceLE, Int.reduceToNat, Int.reduceEq, ↓p4, q4, hlt']
      obtain rfl : i = N := by omega
      exact ⟨m, trivial, hc3, hz3, hkeys, trivial⟩
  · rintro e ρ σ3 ⟨m, rfl, hc3, hz3, hkeys, r5⟩
    simp -implicitDefEqProofs (disch := first | decide | omega | assumption | exact Nat.le_of_ble_eq_true rfl | (simp only [Array.size_push, size_set, Array.size_setIfInBounds]; omega)) only [↓pB, qB, ↓reduceIte, Nat.reduceLT, Nat.reduceEqDiff, Int.reducePow, Int.reduceMul, Int.reduceAdd, Int.reduceSub, Int.reduceMod, Int.reduceLT, Nat.reduceAdd, Nat.reduceMul, Int.reduceLE, Int.reduceToNat, Int.reduceEq, ↓p4, q4, restrictE_def, List.foldl_cons, List.foldl_nil, r5]
    have hm16 : m.length = (namesAt L N).length := by rw [← hkeys, List.length_map]
    rw [namesAt_len] at hm16
    have hm : m.length ≤ 16 := by
      rw [hm16]; split <;> omega
    refine wp_bindK (k24 hc3 (by omega) ?_) ?_
    · intro x hx
      have : x.1 ∈ m.map (·.1) := List.mem_map_of_mem hx
      rw [hkeys] at this
      have := namesAt_size _ this
      omega
    rintro _ rfl
    obtain ⟨ks, hks⟩ : ∃ ks, ks = m.map fun x => x.1.data.toList := ⟨_, rfl⟩
    rw [← hks]
    have hnd : ks.Nodup := by
      have e : ks = (m.map (·.1)).map fun s => s.data.toList := by rw [hks, List.map_map]; rfl
      rw [e]
      exact List.pairwise_map.2 (hc3.nk.imp fun hne he => hne (ba_ext he))
    have hks16 : (sortStr ks).length ≤ 16 := by
      have : (sortStr ks).length = ks.length := by simp [sortStr]
      rw [this, hks, List.length_map]; exact hm
    have hshort : ∀ x ∈ sortStr ks, x.length ≤ 32 := by
      intro x hx
      have hx2 : x ∈ ks := (List.mergeSort_perm ks fun x y => decide (x ≤ y)).mem_iff.1 hx
      rw [hks] at hx2
      obtain ⟨y, hy, rfl⟩ := List.mem_map.1 hx2
      have : y.1 ∈ m.map (·.1) := List.mem_map_of_mem hy
      rw [hkeys] at this
      exact namesAt_size _ this
    obtain ⟨hsl, hg⟩ := newRow1_sl (sortStr ks) σ3
    have hsorted := fun (i : Nat) (x y : List UInt8) (hx : (sortStr ks)[i]? = some x) (hy : (sortStr ks)[i + 1]? = some y) => sortStr_sorted' hnd hx hy
    generalize newRow1 ((sortStr ks).map encStr) σ3 = r at hsl hg ⊢
    obtain ⟨v, σ4⟩ := r
    simp only at hsl hg
    clear hks hnd
    generalize sortStr ks = l at hks16 hshort hsorted hsl
    obtain ⟨a, cc, rfl⟩ := hsl.slice
    simp -implicitDefEqProofs (disch := first | decide | omega | assumption | exact Nat.le_of_ble_eq_true rfl | (simp only [Array.size_push, size_set, Array.size_setIfInBounds]; omega)) only [↓pB, qB, ↓reduceIte, Nat.reduceLT, Nat.reduceEqDiff, Int.reducePow, Int.reduceMul, Int.reduceAdd, Int.reduceSub, Int.reduceMod, Int.reduceLT, Nat.reduceAdd, Nat.reduceMul, Int.reduceLE, Int.reduceToNat, Int.reduceEq, ↓p4, q4]
    refine wp_loop keep4x17 (fun k ρ σ' => σ' = σ4 ∧ ∃ i : Nat, k = l.length + 1 - i ∧ 1 ≤ i ∧ i ≤ l.length + 1 ∧ ρ 9 = .slice a l.length cc ∧ ρ 10 = .int .i64 i)
      (fun e ρ σ' => e = .exit 4 ∧ ρ 9 = .slice a l.length cc) l.length (by omega) ?_ ?_ ?_
    · refine ⟨rfl, 1, by omega, by omega, by omega, ?_⟩
      simp -implicitDefEqProofs (disch := first | decide | omega | assumption | exact Nat.le_of_ble_eq_true rfl | (simp only [Array.size_push, size_set, Array.size_setIfInBounds]; omega)) only [↓pB, qB, ↓reduceIte, Nat.reduceLT, Nat.reduceEqDiff, Int.reducePow, Int.reduceMul, Int.reduceAdd, Int.reduceSub, Int.reduceMod, Int.reduceLT, Nat.reduceAdd, Nat.reduceMul, Int.reduceLE, Int.reduceToNat, Int.reduceEq, ↓p4, q4]
      trivial
    · rintro k ρ σ5 ⟨hσ5, i, rfl, hi1, hi2, r9, r10⟩
      rw [hσ5]
      simp -implicitDefEqProofs (disch := first | decide | omega | assumption | exact Nat.le_of_ble_eq_true rfl | (simp only [Array.size_push, size_set, Array.size_setIfInBounds]; omega)) only [↓pB, qB, ↓reduceIte, Nat.reduceLT, Nat.reduceEqDiff, Int.reducePow, Int.reduceMul, Int.reduceAdd, Int.reduceSub, Int.reduceMod, Int.reduceLT, Nat.reduceAdd, Nat.reduceMul, Int.reduceLE, Int.reduceToNat, Int.reduceEq, ↓p4, q4, restrictE_def, List.foldl_cons, List.foldl_nil, r9, r10]
      refine wp_ifK_dec (fun hlt => ?_) (fun hge => ?_)
      · simp only [N_hold]
        simp -implicitDefEqProofs (disch := first | decide | omega | assumption | exact Nat.le_of_ble_eq_true rfl | (simp only [Array.size_push, size_set, Array.size_setIfInBounds]; omega)) only [↓pB, qB, ↓reduceIte, Nat.reduceLT, Nat.reduceEqDiff, Int.reducePow, Int.reduceMul, Int.reduceAdd, Int.reduceSub, Int.reduceMod, Int.reduceLT, Nat.reduceAdd, Nat.reduceMul, Int.reduceLE, Int.reduceToNat, Int.reduceEq, ↓p4, q4]
        obtain ⟨j, rfl⟩ : ∃ j, i = j + 1 := ⟨i - 1, by omega⟩
        obtain ⟨b, o, x, rfl, hx, hcx⟩ := hsl.at1 (E := eStr) rfl (i := j) (by omega)
        obtain ⟨b', o', y, hbo, hy, hcy⟩ := hsl.at1 (E := eStr) rfl (i := j + 1) (by omega)
        simp only [Option.some.injEq, Addr.mk.injEq, and_true] at hbo
        obtain ⟨rfl, rfl⟩ := hbo
        have hcx' : cellAt (row? σ4 b) (o + j) = some (.string (bs x)) := hcx
        have hcy' : cellAt (row? σ4 b) (o + (j + 1)) = some (.string (bs y)) := hcy
        refine wp_drawn dr4x19 ?_
        have e1 : (((j + 1 : Nat) : Int) - 1).toNat = j := by omega
        simp -implicitDefEqProofs (disch := first | decide | omega | assumption | exact Nat.le_of_ble_eq_true rfl | (simp only [Array.size_push, size_set, Array.size_setIfInBounds]; omega)) only [↓pB, qB, ↓reduceIte, Nat.reduceLT, Nat.reduceEqDiff, Int.reducePow, Int.reduceMul, Int.reduceAdd, Int.reduceSub, Int.reduceMod, Int.reduceLT, Nat.reduceAdd, Nat.reduceMul, Int.reduceLE, Int.reduceToNat, Int.reduceEq, ↓p4, q4, e1, hcx', hcy']
        have hmem : ∀ (i : Nat) (x : List UInt8), l[i]? = some x → x.length ≤ 32 := fun i x h => hshort x (List.mem_of_getElem? h)
        have hxl := hmem _ _ hx
        have hyl := hmem _ _ hy
        refine wp_bindK (s29 x y (by omega) (by omega) _) ?_
        rintro _ rfl
        have hneg := hsorted j x y hx hy
        have w5 : ¬ (0 : Int) ≤ cmp3 x y := by omega
        simp -implicitDefEqProofs (disch := first | decide | omega | assumption | exact Nat.le_of_ble_eq_true rfl | (simp only [Array.size_push, size_set, Array.size_setIfInBounds]; omega)) only [↓pB, qB, ↓reduceIte, Nat.reduceLT, Nat.reduceEqDiff, Int.reducePow, Int.reduceMul, Int.reduceAdd, Int.reduceSub, Int.reduceMod, Int.reduceLT, Nat.reduceAdd, Nat.reduceMul, Int.reduceLE, Int.reduceToNat, Int.reduceEq, ↓p4, q4, w5, e1, hcx', hcy']
        exact ⟨l.length + 1 - (j + 2), by omega, trivial, j + 2, rfl, by omega, by omega, trivial, congrArg _ (by omega)⟩
      · simp only [N_hold]
        simp -implicitDefEqProofs (disch := first | decide | omega | assumption | exact Nat.le_of_ble_eq_true rfl | (simp only [Array.size_push, size_set, Array.size_setIfInBounds]; omega)) only [↓pB, qB, ↓reduceIte, Nat.reduceLT, Nat.reduceEqDiff, Int.reducePow, Int.reduceMul, Int.reduceAdd, Int.reduceSub, Int.reduceMod, Int.reduceLT, Nat.reduceAdd, Nat.reduceMul, Int.reduceLE, Int.reduceToNat, Int.reduceEq, ↓p4, q4]
        exact ⟨trivial, trivial⟩
    · rintro e ρ σ5 ⟨rfl, r9⟩
      simp -implicitDefEqProofs (disch := first | decide | omega | assumption | exact Nat.le_of_ble_eq_true rfl | (simp only [Array.size_push, size_set, Array.size_setIfInBounds]; omega)) only [↓pB, qB, ↓reduceIte, Nat.reduceLT, Nat.reduceEqDiff, Int.reducePow, Int.reduceMul, Int.reduceAdd, Int.reduceSub, Int.reduceMod, Int.reduceLT, Nat.reduceAdd, Nat.reduceMul, Int.reduceLE, Int.reduceToNat, Int.reduceEq, ↓p4, q4, restrictE_def, List.foldl_cons, List.foldl_nil, r9]
      rw [decide_eq_true (show (l.length : Int) ≤ 16 by omega)]
end Go.Abs
