/-
  catalog: Load of a table without segments; Compare.
-/
import Derived.Test.YthnkdbjeefemoaaGreatCatalog2
import Derived.Test.YthnkdbjeefemoaaGreatCs
import Derived.Test.YthnkdbjeefemoaaGreatEnc
import Derived.Test.YthnkdbjeefemoaaGreatNumLaw
set_option linter.unusedVariables false
set_option linter.unusedSimpArgs false
set_option linter.unusedSectionVars false
namespace Go.Abs
open Go Go.RowKit Go.Proofs
set_option maxRecDepth 10000

theorem Only.toGrows {p : Nat} {σ0 σ σ' : Heap} (h : Only p σ σ') (g : Grows σ0 σ) (hp : σ0.size ≤ p) : Grows σ0 σ' :=
  ⟨Nat.le_trans g.1 h.1, fun b hb => (h.2 b (Nat.lt_of_lt_of_le hb g.1) (by omega)).trans (g.2 b hb)⟩
theorem Only.row {p : Nat} {σ σ' : Heap} (h : Only p σ σ') {b : Nat} (hb : b ≠ p) {r : Row} (hr : row? σ b = some r) : row? σ' b = some r := by
  have := row?_lt hr
  rw [row?_eq] at hr ⊢
  rw [h.2 b this hb, hr]
theorem Only.trans {p : Nat} {σ σ1 σ2 : Heap} (h : Only p σ σ1) (k : Only p σ1 σ2) : Only p σ σ2 :=
  ⟨Nat.le_trans h.1 k.1, fun b hb hne => (k.2 b (Nat.lt_of_lt_of_le hb h.1) hne).trans (h.2 b hb hne)⟩
theorem Grows.only {p : Nat} {σ σ1 σ2 : Heap} (h : Grows σ σ1) (k : Only p σ1 σ2) : Only p σ σ2 :=
  ⟨Nat.le_trans h.1 k.1, fun b hb hne => (k.2 b (Nat.lt_of_lt_of_le hb h.1) hne).trans (h.2 b hb)⟩

theorem c49 {σ : Heap} {v : Value} {l : List UInt8} (h : BSl σ v l) (hl : l.length < 549755813888) : wp (Call 49 #[v] σ) fun r => ∃ p, r.1 = .pointer (some ⟨p, 0, none⟩) ∧ σ.size ≤ p ∧ p < r.2.size ∧ CurS r.2 p ⟨l, 0, 0⟩ ∧ Grows σ r.2 := by
  refine wp_mono (s49 h hl) ?_
  rintro ⟨w, σ'⟩ ⟨p, a, c, rfl, hp, hr, hf, hg⟩
  refine ⟨p, rfl, hp, row?_lt hr, ⟨⟨a, c, hr, hf.bsl, ?_⟩, Nat.zero_le _, hl⟩, hg⟩
  rintro x rfl hx
  generalize hn : l.length = n at hf hr
  cases hf with
  | @row b c l hb h2 hc =>
    have hx : b = p := hx
    subst hx
    rw [h2] at hr
    simp only [Option.some.injEq, Row.mk.injEq, and_true] at hr
    have h3 := congrArg (fun x : Array Value => x[0]?) hr
    simp only [bcells] at h3
    cases l with
    | nil => simp at h3
    | cons y l => simp [bv] at h3

theorem CS.number_put {s : CS} {x : Nat} {r : List UInt8} (he : s.e = 0) (h : s.l.drop s.i = putNum x ++ r) (hx : x < 2 ^ 63) : s.number = (x, ⟨s.l, s.i + (putNum x).length, 0⟩) := by
  unfold CS.number
  rw [if_neg (by simp [he]), h, put_num hx]
theorem CS.most_put {s : CS} {x n : Nat} {r : List UInt8} (he : s.e = 0) (h : s.l.drop s.i = putNum x ++ r) (hx : x < 2 ^ 63) (hn : x ≤ n) : s.most n = (x, ⟨s.l, s.i + (putNum x).length, 0⟩) := by
  unfold CS.most
  rw [CS.number_put he h hx, if_neg (by simp; omega)]

/-- catalog.read: of a table without segments -/
theorem s86e {σ : Heap} {v : Value} {l : List UInt8} {n : Nat} (h : BSl σ v l) (hl : l.length < 549755813888) (hn : 1 ≤ n ∧ n ≤ 8) (ho : opened l = some (putNum n ++ putNum 0)) :
    wp (Call 86 #[v] σ) fun r => ∃ p, r.1 = .tuple #[.pointer (some ⟨p, 0, none⟩), .bool true] ∧ σ.size ≤ p ∧ p < r.2.size ∧ row? r.2 p = some ⟨#[.int .i64 n, .slice none 0 0, .slice none 0 0, .int .i64 0], false⟩ ∧ Grows σ r.2 := by
  refine wp_call (args := [_]) rfl Tryz.func86 rfl (Nat.le_of_ble_eq_true rfl) 20 ?_
  obtain ⟨a, c, rfl⟩ := h.slice
  simp -implicitDefEqProofs (disch := first | decide | omega | assumption | exact Nat.le_of_ble_eq_true rfl | (simp only [Array.size_push, size_set, Array.size_setIfInBounds]; omega)) only [↓pB, qB, ↓reduceIte, Nat.reduceLT, Nat.reduceEqDiff, Int.reducePow, Int.reduceMul, Int.reduceAdd, Int.reduceSub, Int.reduceMod, Int.reduceLT, Nat.reduceAdd, Nat.reduceMul, Int.reduceLE, Int.reduceToNat, Int.reduceEq, ↓p86, q86]
  refine wp_bindK (s119 h hl) ?_
  rintro ⟨v1, σ1⟩ ⟨u, rfl, f1, g1⟩
  rw [ho] at f1
  simp only [Option.getD_some] at f1
  rw [ho]
  simp only [Option.isSome_some]
  simp -implicitDefEqProofs (disch := first | decide | omega | assumption | exact Nat.le_of_ble_eq_true rfl | (simp only [Array.size_push, size_set, Array.size_setIfInBounds]; omega)) only [↓pB, qB, ↓reduceIte, Nat.reduceLT, Nat.reduceEqDiff, Int.reducePow, Int.reduceMul, Int.reduceAdd, Int.reduceSub, Int.reduceMod, Int.reduceLT, Nat.reduceAdd, Nat.reduceMul, Int.reduceLE, Int.reduceToNat, Int.reduceEq, ↓p86, q86]
  have hlen : (putNum n ++ putNum 0).length < 549755813888 := by
    have h1 := putNum_len n
    have h2 := putNum_len 0
    rw [List.length_append]; omega
  refine wp_bindK (c49 f1.bsl hlen) ?_
  rintro ⟨_, σ2⟩ ⟨p, rfl, hp, hp2, hc, g2⟩
  simp only at hp hp2 hc g2
  simp -implicitDefEqProofs (disch := first | decide | omega | assumption | exact Nat.le_of_ble_eq_true rfl | (simp only [Array.size_push, size_set, Array.size_setIfInBounds]; omega)) only [↓pB, qB, ↓reduceIte, Nat.reduceLT, Nat.reduceEqDiff, Int.reducePow, Int.reduceMul, Int.reduceAdd, Int.reduceSub, Int.reduceMod, Int.reduceLT, Nat.reduceAdd, Nat.reduceMul, Int.reduceLE, Int.reduceToNat, Int.reduceEq, ↓p86, q86]
  refine wp_bindK (c120 hc 8 (by omega)) ?_
  rintro ⟨_, σ3⟩ ⟨rfl, o3, hc3⟩
  simp only at o3 hc3
  rw [CS.most_put (x := n) (r := putNum 0) rfl rfl (by omega) hn.2] at hc3 ⊢
  simp only [Nat.zero_add] at hc3 ⊢
  simp -implicitDefEqProofs (disch := first | decide | omega | assumption | exact Nat.le_of_ble_eq_true rfl | (simp only [Array.size_push, size_set, Array.size_setIfInBounds]; omega)) only [↓pB, qB, ↓reduceIte, Nat.reduceLT, Nat.reduceEqDiff, Int.reducePow, Int.reduceMul, Int.reduceAdd, Int.reduceSub, Int.reduceMod, Int.reduceLT, Nat.reduceAdd, Nat.reduceMul, Int.reduceLE, Int.reduceToNat, Int.reduceEq, ↓p86, q86]
  have hz3 := o3.1
  have g34 : Grows σ3 (σ3.push (some (.row ⟨#[.int .i64 n, .slice none 0 0, .slice none 0 0, .int .i64 0], false⟩))) := (Grows.refl _).push _
  refine wp_bindK (c140 (hc3.grows g34)) ?_
  rintro ⟨_, σ4⟩ ⟨rfl, o4, hc4⟩
  simp only at o4 hc4
  have hd : (putNum n ++ putNum 0).drop (putNum n).length = putNum 0 ++ [] := by simp
  rw [CS.number_put (x := 0) (r := []) rfl hd (by omega)] at hc4 ⊢
  have ht4 : row? σ4 σ3.size = some ⟨#[.int .i64 n, .slice none 0 0, .slice none 0 0, .int .i64 0], false⟩ := o4.row (by omega) row?_push_eq
  have hn0 : ¬ (n : Int) = 0 := by omega
  simp -implicitDefEqProofs (disch := first | decide | omega | assumption | exact Nat.le_of_ble_eq_true rfl | (simp only [Array.size_push, size_set, Array.size_setIfInBounds]; omega)) only [↓pB, qB, ↓reduceIte, Nat.reduceLT, Nat.reduceEqDiff, Int.reducePow, Int.reduceMul, Int.reduceAdd, Int.reduceSub, Int.reduceMod, Int.reduceLT, Nat.reduceAdd, Nat.reduceMul, Int.reduceLE, Int.reduceToNat, Int.reduceEq, ↓p86, q86]
  refine wp_bindK (c51 hc4) ?_
  rintro _ rfl
  simp -implicitDefEqProofs (disch := first | decide | omega | assumption | exact Nat.le_of_ble_eq_true rfl | (simp only [Array.size_push, size_set, Array.size_setIfInBounds]; omega)) only [↓pB, qB, ↓reduceIte, Nat.reduceLT, Nat.reduceEqDiff, Int.reducePow, Int.reduceMul, Int.reduceAdd, Int.reduceSub, Int.reduceMod, Int.reduceLT, Nat.reduceAdd, Nat.reduceMul, Int.reduceLE, Int.reduceToNat, Int.reduceEq, ↓p86, q86, ht4, hn0]
  refine wp_loop keep86x8 (fun k ρ σ' => k = 0 ∧ σ' = σ4 ∧ ρ 37 = .int .i64 0 ∧ ρ 38 = .int .i64 0 ∧ ρ 6 = .pointer (some ⟨p, 0, none⟩) ∧ ρ 7 = .pointer (some ⟨σ3.size, 0, none⟩))
    (fun e ρ σ' => e = .exit 0 ∧ σ' = σ4 ∧ ρ 6 = .pointer (some ⟨p, 0, none⟩) ∧ ρ 7 = .pointer (some ⟨σ3.size, 0, none⟩)) 0 (by omega) ?_ ?_ ?_
  · refine ⟨rfl, rfl, ?_⟩
    simp -implicitDefEqProofs (disch := first | decide | omega | assumption | exact Nat.le_of_ble_eq_true rfl | (simp only [Array.size_push, size_set, Array.size_setIfInBounds]; omega)) only [↓pB, qB, ↓reduceIte, Nat.reduceLT, Nat.reduceEqDiff, Int.reducePow, Int.reduceMul, Int.reduceAdd, Int.reduceSub, Int.reduceMod, Int.reduceLT, Nat.reduceAdd, Nat.reduceMul, Int.reduceLE, Int.reduceToNat, Int.reduceEq, ↓p86, q86]
    simp
  · rintro k ρ _ ⟨rfl, rfl, r37, r38, r6, r7⟩
    simp -implicitDefEqProofs (disch := first | decide | omega | assumption | exact Nat.le_of_ble_eq_true rfl | (simp only [Array.size_push, size_set, Array.size_setIfInBounds]; omega)) only [↓pB, qB, ↓reduceIte, Nat.reduceLT, Nat.reduceEqDiff, Int.reducePow, Int.reduceMul, Int.reduceAdd, Int.reduceSub, Int.reduceMod, Int.reduceLT, Nat.reduceAdd, Nat.reduceMul, Int.reduceLE, Int.reduceToNat, Int.reduceEq, ↓p86, q86, restrictE_def, List.foldl_cons, List.foldl_nil, r37, r38, r6, r7]
    exact ⟨trivial, trivial, trivial, trivial⟩
  · rintro e ρ _ ⟨rfl, rfl, r6, r7⟩
    simp -implicitDefEqProofs (disch := first | decide | omega | assumption | exact Nat.le_of_ble_eq_true rfl | (simp only [Array.size_push, size_set, Array.size_setIfInBounds]; omega)) only [↓pB, qB, ↓reduceIte, Nat.reduceLT, Nat.reduceEqDiff, Int.reducePow, Int.reduceMul, Int.reduceAdd, Int.reduceSub, Int.reduceMod, Int.reduceLT, Nat.reduceAdd, Nat.reduceMul, Int.reduceLE, Int.reduceToNat, Int.reduceEq, ↓p86, q86, restrictE_def, List.foldl_cons, List.foldl_nil, r6, r7]
    refine wp_bindK (c56 hc4) ?_
    rintro _ rfl
    simp -implicitDefEqProofs (disch := first | decide | omega | assumption | exact Nat.le_of_ble_eq_true rfl | (simp only [Array.size_push, size_set, Array.size_setIfInBounds]; omega)) only [↓pB, qB, ↓reduceIte, Nat.reduceLT, Nat.reduceEqDiff, Int.reducePow, Int.reduceMul, Int.reduceAdd, Int.reduceSub, Int.reduceMod, Int.reduceLT, Nat.reduceAdd, Nat.reduceMul, Int.reduceLE, Int.reduceToNat, Int.reduceEq, ↓p86, q86]
    have g02 := g1.trans g2
    have g03 := o3.toGrows g02 (by have : σ.size ≤ σ1.size := g1.1; omega)
    have g04 := o4.toGrows (g03.trans g34) (by have : σ.size ≤ σ1.size := g1.1; omega)
    refine ⟨σ3.size, by simp, g03.1, row?_lt ht4, ht4, g04⟩

/-- Catalog.Load: of a table without segments -/
theorem s23e {σ : Heap} {p : Nat} {m : Ents} (h : Cat σ p m) (k : ByteArray) (hk : 1 ≤ k.size ∧ k.size ≤ 32) (hm : mfind k m 0 = none) (hlen : m.length < 16) {v : Value} {l : List UInt8} {n : Nat} (hb : BSl σ v l) (hl : l.length < 549755813888) (hn : 1 ≤ n ∧ n ≤ 8) (ho : opened l = some (putNum n ++ putNum 0)) :
    wp (Call 23 #[.pointer (some ⟨p, 0, none⟩), .string k, v] σ) fun r => r.1 = .int .i64 0 ∧ ∃ t c b σ1, Grows σ σ1 ∧ row? σ p = some ⟨#[.map (some b)], false⟩ ∧ map? σ b = some (ents m, c) ∧
      row? σ1 t = some ⟨#[.int .i64 n, .slice none 0 0, .slice none 0 0, .int .i64 0], false⟩ ∧ r.2 = σ1.setIfInBounds b (some (.map (ents (m ++ [(k, t, c)])) (c + 1))) := by
  refine wp_call (args := [_, _, _]) rfl Tryz.func23 rfl (Nat.le_of_ble_eq_true rfl) 20 ?_
  obtain ⟨a, c, rfl⟩ := hb.slice
  simp -implicitDefEqProofs (disch := first | decide | omega | assumption | exact Nat.le_of_ble_eq_true rfl | (simp only [Array.size_push, size_set, Array.size_setIfInBounds]; omega)) only [↓pB, qB, ↓reduceIte, Nat.reduceLT, Nat.reduceEqDiff, Int.reducePow, Int.reduceMul, Int.reduceAdd, Int.reduceSub, Int.reduceMod, Int.reduceLT, Nat.reduceAdd, Nat.reduceMul, Int.reduceLE, Int.reduceToNat, Int.reduceEq, ↓p23, q23]
  refine wp_bindK (s84 k (by omega) σ) ?_
  rintro _ rfl
  have hd : decide (1 ≤ k.size ∧ k.size ≤ 32) = true := by simp [hk]
  rw [hd]
  simp -implicitDefEqProofs (disch := first | decide | omega | assumption | exact Nat.le_of_ble_eq_true rfl | (simp only [Array.size_push, size_set, Array.size_setIfInBounds]; omega)) only [↓pB, qB, ↓reduceIte, Nat.reduceLT, Nat.reduceEqDiff, Int.reducePow, Int.reduceMul, Int.reduceAdd, Int.reduceSub, Int.reduceMod, Int.reduceLT, Nat.reduceAdd, Nat.reduceMul, Int.reduceLE, Int.reduceToNat, Int.reduceEq, ↓p23, q23]
  refine wp_bindK (s85 h k) ?_
  rintro _ rfl
  have hl16 : ¬ 16 ≤ m.length := by omega
  simp -implicitDefEqProofs (disch := first | decide | omega | assumption | exact Nat.le_of_ble_eq_true rfl | (simp only [Array.size_push, size_set, Array.size_setIfInBounds]; omega)) only [↓pB, qB, ↓reduceIte, Nat.reduceLT, Nat.reduceEqDiff, Int.reducePow, Int.reduceMul, Int.reduceAdd, Int.reduceSub, Int.reduceMod, Int.reduceLT, Nat.reduceAdd, Nat.reduceMul, Int.reduceLE, Int.reduceToNat, Int.reduceEq, ↓p23, q23, hm, hl16, Option.isSome_none]
  refine wp_bindK (s86e hb hl hn ho) ?_
  rintro ⟨_, σ1⟩ ⟨t, rfl, ht, htl, hr, g⟩
  simp only at ht htl hr g
  obtain ⟨b, c', h0, h1⟩ := h
  simp -implicitDefEqProofs (disch := first | decide | omega | assumption | exact Nat.le_of_ble_eq_true rfl | (simp only [Array.size_push, size_set, Array.size_setIfInBounds]; omega)) only [↓pB, qB, ↓reduceIte, Nat.reduceLT, Nat.reduceEqDiff, Int.reducePow, Int.reduceMul, Int.reduceAdd, Int.reduceSub, Int.reduceMod, Int.reduceLT, Nat.reduceAdd, Nat.reduceMul, Int.reduceLE, Int.reduceToNat, Int.reduceEq, ↓p23, q23, g.row h0, mu142 (g.map h1) hm]
  exact ⟨trivial, t, c', b, σ1, g, h0, h1, hr, rfl⟩
end Go.Abs
