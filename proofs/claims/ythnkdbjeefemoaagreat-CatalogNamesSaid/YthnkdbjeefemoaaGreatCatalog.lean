/-
  catalog.
-/
import Derived.Test.YthnkdbjeefemoaaGreatNumber
set_option linter.unusedVariables false
set_option linter.unusedSimpArgs false
set_option linter.unusedSectionVars false
namespace Go.Abs
open Go Go.RowKit Go.Proofs
set_option maxRecDepth 10000

/-- a map's entries: names, and where their tables lie; and their births -/
abbrev Ents := List (ByteArray × Nat × Nat)
def ents (m : Ents) : Array MapEntry := (m.map fun x => { key := .string x.1, val := .pointer (some ⟨x.2.1, 0, none⟩), born := x.2.2 }).toArray
def mfind (k : ByteArray) : Ents → Nat → Option (Nat × Nat)
  | [], _ => none
  | x :: m, i => if k = x.1 then some (i, x.2.1) else mfind k m (i + 1)
theorem bytes_dec (a b : ByteArray) : (a == b) = decide (a = b) := by
  cases a with
  | mk x =>
    cases b with
    | mk y =>
      show (x == y) = _
      rw [Bool.eq_iff_iff, beq_iff_eq, decide_eq_true_iff, ByteArray.mk.injEq]
theorem findNow_ents (k : ByteArray) : ∀ (m : Ents) (i : Nat), Instr.findNow .string (.string k) (ents m).toList i = some ((mfind k m i).map fun x => (x.1, .pointer (some ⟨x.2, 0, none⟩)))
  | [], i => rfl
  | x :: m, i => by
    have ih := findNow_ents k m (i + 1)
    show (match Instr.sameNow .string (.string k) (.string x.1) with
      | some true => some (some (i, Value.pointer (some ⟨x.2.1, 0, none⟩)))
      | some false => Instr.findNow .string (.string k) (ents m).toList (i + 1)
      | none => none) = _
    simp only [Instr.sameNow, mfind]
    by_cases h : k = x.1
    · subst h; simp [bytes_dec]
    · have hb : (k == x.1) = false := by rw [bytes_dec]; simpa using h
      simp only [hb, ih, if_neg h]
theorem map?_push_eq {σ : Heap} {es : Array MapEntry} {c : Nat} : map? (σ.push (some (.map es c))) σ.size = some (es, c) := by rw [map?_eq]; simp
theorem map?_lt {σ : Heap} {b : Nat} {x : Array MapEntry × Nat} (h : map? σ b = some x) : b < σ.size := (alive_of_map h).lt
theorem map?_push_lt {σ : Heap} {o : Option AObj} {b : Nat} (h : b < σ.size) : map? (σ.push o) b = map? σ b := by
  unfold map?
  rw [Array.getElem?_push, if_neg (by omega)]
theorem map?_set_eq {σ : Heap} {b : Nat} {es : Array MapEntry} {c : Nat} (h : b < σ.size) : map? (σ.setIfInBounds b (some (.map es c))) b = some (es, c) := by rw [map?_eq]; simp [h]
theorem Grows.map {σ σ' : Heap} (h : Grows σ σ') {b : Nat} {x : Array MapEntry × Nat} (hb : map? σ b = some x) : map? σ' b = some x := by
  have := map?_lt hb
  rw [map?_eq] at hb ⊢
  rw [h.2 b this, hb]
theorem ti146 : tinfo Tryz.prog 146 = some Tryz.t146 := tinfo_of_type Tryz.type146
theorem lk142 {σ : Heap} {b c : Nat} {m : Ents} {k : ByteArray} (h : map? σ b = some (ents m, c)) : aLookup Tryz.prog 142 (.map (some b)) (.string k) true σ =
    some (match mfind k m 0 with | some x => .tuple #[.pointer (some ⟨x.2, 0, none⟩), .bool true] | none => .tuple #[.pointer none, .bool false]) := by
  have hz : Tryz.t146.zero = some (.pointer none) := rfl
  simp only [aLookup, Tryz.underlying142, Tryz.underlying9, ti146, h, findNow_ents, hz]
  cases mfind k m 0 <;> rfl
theorem mu142 {σ : Heap} {b c t : Nat} {m : Ents} {k : ByteArray} (h : map? σ b = some (ents m, c)) (hk : mfind k m 0 = none) : aMapUpdate Tryz.prog 142 (.map (some b)) (.string k) (.pointer (some ⟨t, 0, none⟩)) σ =
    some (σ.setIfInBounds b (some (.map (ents (m ++ [(k, t, c)])) (c + 1)))) := by
  simp only [aMapUpdate, Tryz.underlying142, Tryz.underlying9, h, findNow_ents, hk, Option.map_none]
  simp [ents]
/-- a catalog -/
def Cat (σ : Heap) (p : Nat) (m : Ents) : Prop := ∃ b c, row? σ p = some ⟨#[.map (some b)], false⟩ ∧ map? σ b = some (ents m, c)

/-- catalog.New -/
theorem s22 (σ : Heap) : wp (Call 22 #[] σ) fun r => r = (.pointer (some ⟨σ.size + 1, 0, none⟩), (σ.push (some (.map #[] 0))).push (some (.row ⟨#[.map (some σ.size)], false⟩))) := by
  refine wp_call (args := []) rfl Tryz.func22 rfl (Nat.le_of_ble_eq_true rfl) 20 ?_
  simp -implicitDefEqProofs (disch := first | decide | omega | assumption | exact Nat.le_of_ble_eq_true rfl | (simp only [Array.size_push, size_set, Array.size_setIfInBounds]; omega)) only [↓pB, qB, ↓reduceIte, Nat.reduceLT, Nat.reduceEqDiff, Int.reducePow, Int.reduceMul, Int.reduceAdd, Int.reduceSub, Int.reduceMod, Int.reduceLT, Nat.reduceAdd, Nat.reduceMul, Int.reduceLE, Int.reduceToNat, Int.reduceEq, ↓p22, q22]

def lenMap (σ : Heap) (v : Value) : Option Value :=
  match v with
  | .map (some r) => (map? σ r).map fun x => .int .i64 x.1.size
  | _ => none
theorem lenMap_some {σ : Heap} {b c : Nat} {m : Ents} (h : map? σ b = some (ents m, c)) : lenMap σ (.map (some b)) = some (.int .i64 m.length) := by
  simp [lenMap, h, ents]
theorem olm142 {α : Type} {call : CallFn} {n : Nat} {ρ : Env} {σ : Heap} {ops : Array Oper} {os : List Oper} {d : Option Tmp} {ty : TypeId} {pos : String} {af : Array Edge} {K : Env → Heap → Option α} {x : Operand} :
    kOps Tryz.prog call n ops (⟨d, .call { callee := .builtin .len, args := #[x], argTypes := #[142] }, ty, pos, af, none⟩ :: os) ρ σ K = bindK (lenMap σ (evE ρ x)) (contK Tryz.prog call n ops os ρ d σ K) := by
  have hc : cls Tryz.prog (.call { callee := .builtin .len, args := #[x], argTypes := #[142] }) = .read := by simp [cls, Tryz.underlying142]
  have hr : aRead Tryz.prog (.call { callee := .builtin .len, args := #[x], argTypes := #[142] }) [evE ρ x] σ = lenMap σ (evE ρ x) := by
    unfold lenMap
    cases hv : evE ρ x with
    | map r =>
      cases r with
      | none => simp [aRead]
      | some r =>
        simp only [aRead, Tryz.underlying142]
        cases map? σ r <;> rfl
    | _ => simp [aRead]
  simp only [kOps, guardK, kOp, hc]
  show bindK (aRead Tryz.prog (.call { callee := .builtin .len, args := #[x], argTypes := #[142] }) ((Op.call { callee := .builtin .len, args := #[x], argTypes := #[142] }).operands.toList.map (evE ρ)) σ) _ = _
  rw [← hr]
  rfl
/-- Catalog.free -/
theorem s85 {σ : Heap} {p : Nat} {m : Ents} (h : Cat σ p m) (k : ByteArray) : wp (Call 85 #[.pointer (some ⟨p, 0, none⟩), .string k] σ) fun r => r = (.int .i64 (if (mfind k m 0).isSome then 7 else if 16 ≤ m.length then 6 else 0), σ) := by
  refine wp_call (args := [_, _]) rfl Tryz.func85 rfl (Nat.le_of_ble_eq_true rfl) 20 ?_
  obtain ⟨b, c, h0, h1⟩ := h
  cases hm : mfind k m 0 with
  | some x =>
    simp -implicitDefEqProofs (disch := first | decide | omega | assumption | exact Nat.le_of_ble_eq_true rfl | (simp only [Array.size_push, size_set, Array.size_setIfInBounds]; omega)) only [↓pB, qB, ↓reduceIte, Nat.reduceLT, Nat.reduceEqDiff, Int.reducePow, Int.reduceMul, Int.reduceAdd, Int.reduceSub, Int.reduceMod, Int.reduceLT, Nat.reduceAdd, Nat.reduceMul, Int.reduceLE, Int.reduceToNat, Int.reduceEq, ↓p85, q85, h0, lk142 h1, hm, ↓olm142, lenMap_some h1]
    simp
  | none =>
    simp -implicitDefEqProofs (disch := first | decide | omega | assumption | exact Nat.le_of_ble_eq_true rfl | (simp only [Array.size_push, size_set, Array.size_setIfInBounds]; omega)) only [↓pB, qB, ↓reduceIte, Nat.reduceLT, Nat.reduceEqDiff, Int.reducePow, Int.reduceMul, Int.reduceAdd, Int.reduceSub, Int.reduceMod, Int.reduceLT, Nat.reduceAdd, Nat.reduceMul, Int.reduceLE, Int.reduceToNat, Int.reduceEq, ↓p85, q85, h0, lk142 h1, hm, ↓olm142, lenMap_some h1]
    (refine wp_ifK_dec (fun h2 => ?_) (fun h2 => ?_) <;> simp only [H_o, H_d, N_hold] <;> simp -implicitDefEqProofs (disch := first | decide | omega | assumption | exact Nat.le_of_ble_eq_true rfl | (simp only [Array.size_push, size_set, Array.size_setIfInBounds]; omega)) only [↓pB, qB, ↓reduceIte, Nat.reduceLT, Nat.reduceEqDiff, Int.reducePow, Int.reduceMul, Int.reduceAdd, Int.reduceSub, Int.reduceMod, Int.reduceLT, Nat.reduceAdd, Nat.reduceMul, Int.reduceLE, Int.reduceToNat, Int.reduceEq, ↓p85, q85, h2, h0])
    · have : 16 ≤ m.length := by omega
      simp [this]
    · have : ¬ 16 ≤ m.length := by omega
      simp [this]

/-- Catalog.Create: the errors -/
theorem s28 {σ : Heap} {p : Nat} {m : Ents} (h : Cat σ p m) (k : ByteArray) (hk : k.size < 1000000000) (n : Int) : wp (Call 28 #[.pointer (some ⟨p, 0, none⟩), .string k, .int .i64 n] σ) fun r =>
    if ¬ (1 ≤ k.size ∧ k.size ≤ 32) ∨ n < 1 ∨ 8 < n then r = (.int .i64 1, σ)
    else if (mfind k m 0).isSome then r = (.int .i64 7, σ)
    else if 16 ≤ m.length then r = (.int .i64 6, σ)
    else r.1 = .int .i64 0 ∧ ∃ b c, row? σ p = some ⟨#[.map (some b)], false⟩ ∧ map? σ b = some (ents m, c) ∧
      r.2 = (σ.push (some (.row ⟨#[.int .i64 n, .slice none 0 0, .slice none 0 0, .int .i64 0], false⟩))).setIfInBounds b (some (.map (ents (m ++ [(k, σ.size, c)])) (c + 1))) := by
  refine wp_call (args := [_, _, _]) rfl Tryz.func28 rfl (Nat.le_of_ble_eq_true rfl) 20 ?_
  have h' := h
  obtain ⟨b, c, h0, h1⟩ := h
  simp -implicitDefEqProofs (disch := first | decide | omega | assumption | exact Nat.le_of_ble_eq_true rfl | (simp only [Array.size_push, size_set, Array.size_setIfInBounds]; omega)) only [↓pB, qB, ↓reduceIte, Nat.reduceLT, Nat.reduceEqDiff, Int.reducePow, Int.reduceMul, Int.reduceAdd, Int.reduceSub, Int.reduceMod, Int.reduceLT, Nat.reduceAdd, Nat.reduceMul, Int.reduceLE, Int.reduceToNat, Int.reduceEq, ↓p28, q28, h0]
  refine wp_bindK (s84 k hk σ) ?_
  rintro _ rfl
  by_cases hn : 1 ≤ k.size ∧ k.size ≤ 32
  · have hd : decide (1 ≤ k.size ∧ k.size ≤ 32) = true := by simp [hn]
    rw [hd]
    simp -implicitDefEqProofs (disch := first | decide | omega | assumption | exact Nat.le_of_ble_eq_true rfl | (simp only [Array.size_push, size_set, Array.size_setIfInBounds]; omega)) only [↓pB, qB, ↓reduceIte, Nat.reduceLT, Nat.reduceEqDiff, Int.reducePow, Int.reduceMul, Int.reduceAdd, Int.reduceSub, Int.reduceMod, Int.reduceLT, Nat.reduceAdd, Nat.reduceMul, Int.reduceLE, Int.reduceToNat, Int.reduceEq, ↓p28, q28, h0]
    (refine wp_ifK_dec (fun h2 => ?_) (fun h2 => ?_) <;> simp only [H_o, H_d, N_hold] <;> simp -implicitDefEqProofs (disch := first | decide | omega | assumption | exact Nat.le_of_ble_eq_true rfl | (simp only [Array.size_push, size_set, Array.size_setIfInBounds]; omega)) only [↓pB, qB, ↓reduceIte, Nat.reduceLT, Nat.reduceEqDiff, Int.reducePow, Int.reduceMul, Int.reduceAdd, Int.reduceSub, Int.reduceMod, Int.reduceLT, Nat.reduceAdd, Nat.reduceMul, Int.reduceLE, Int.reduceToNat, Int.reduceEq, ↓p28, q28, h2, h0])
    · simp
    · (refine wp_ifK_dec (fun h3 => ?_) (fun h3 => ?_) <;> simp only [H_o, H_d, N_hold] <;> simp -implicitDefEqProofs (disch := first | decide | omega | assumption | exact Nat.le_of_ble_eq_true rfl | (simp only [Array.size_push, size_set, Array.size_setIfInBounds]; omega)) only [↓pB, qB, ↓reduceIte, Nat.reduceLT, Nat.reduceEqDiff, Int.reducePow, Int.reduceMul, Int.reduceAdd, Int.reduceSub, Int.reduceMod, Int.reduceLT, Nat.reduceAdd, Nat.reduceMul, Int.reduceLE, Int.reduceToNat, Int.reduceEq, ↓p28, q28, h3, h2, h0])
      · simp
      · refine wp_bindK (s85 h' k) ?_
        rintro _ rfl
        cases hm : (mfind k m 0).isSome with
        | true =>
          simp -implicitDefEqProofs (disch := first | decide | omega | assumption | exact Nat.le_of_ble_eq_true rfl | (simp only [Array.size_push, size_set, Array.size_setIfInBounds]; omega)) only [↓pB, qB, ↓reduceIte, Nat.reduceLT, Nat.reduceEqDiff, Int.reducePow, Int.reduceMul, Int.reduceAdd, Int.reduceSub, Int.reduceMod, Int.reduceLT, Nat.reduceAdd, Nat.reduceMul, Int.reduceLE, Int.reduceToNat, Int.reduceEq, ↓p28, q28, h0, hm]
          simp [hn]
        | false =>
          by_cases hl : 16 ≤ m.length
          · simp -implicitDefEqProofs (disch := first | decide | omega | assumption | exact Nat.le_of_ble_eq_true rfl | (simp only [Array.size_push, size_set, Array.size_setIfInBounds]; omega)) only [↓pB, qB, ↓reduceIte, Nat.reduceLT, Nat.reduceEqDiff, Int.reducePow, Int.reduceMul, Int.reduceAdd, Int.reduceSub, Int.reduceMod, Int.reduceLT, Nat.reduceAdd, Nat.reduceMul, Int.reduceLE, Int.reduceToNat, Int.reduceEq, ↓p28, q28, h0, hm, hl]
            simp [hn]
          · have hm' : mfind k m 0 = none := by simpa using hm
            have h1' : map? (σ.push (some (.row ⟨#[.int .i64 n, .slice none 0 0, .slice none 0 0, .int .i64 0], false⟩))) b = some (ents m, c) := by
              rw [map?_push_lt (map?_lt h1)]; exact h1
            simp -implicitDefEqProofs (disch := first | decide | omega | assumption | exact Nat.le_of_ble_eq_true rfl | (simp only [Array.size_push, size_set, Array.size_setIfInBounds]; omega)) only [↓pB, qB, ↓reduceIte, Nat.reduceLT, Nat.reduceEqDiff, Int.reducePow, Int.reduceMul, Int.reduceAdd, Int.reduceSub, Int.reduceMod, Int.reduceLT, Nat.reduceAdd, Nat.reduceMul, Int.reduceLE, Int.reduceToNat, Int.reduceEq, ↓p28, q28, h0, hm, hl, mu142 h1' hm']
            rw [if_neg (by simp [hn])]
            exact ⟨trivial, b, c, rfl, h1, rfl⟩
  · have hd : decide (1 ≤ k.size ∧ k.size ≤ 32) = false := by simp [hn]
    rw [hd]
    simp -implicitDefEqProofs (disch := first | decide | omega | assumption | exact Nat.le_of_ble_eq_true rfl | (simp only [Array.size_push, size_set, Array.size_setIfInBounds]; omega)) only [↓pB, qB, ↓reduceIte, Nat.reduceLT, Nat.reduceEqDiff, Int.reducePow, Int.reduceMul, Int.reduceAdd, Int.reduceSub, Int.reduceMod, Int.reduceLT, Nat.reduceAdd, Nat.reduceMul, Int.reduceLE, Int.reduceToNat, Int.reduceEq, ↓p28, q28, h0]
    rw [if_pos (.inl hn)]; trivial

theorem odel {α : Type} {call : CallFn} {n : Nat} {ρ : Env} {σ : Heap} {ops : Array Oper} {os : List Oper} {d : Option Tmp} {ty t t' : TypeId} {pos : String} {af : Array Edge} {K : Env → Heap → Option α} {x y : Operand} :
    kOps Tryz.prog call n ops (⟨d, .call { callee := .builtin .delete, args := #[x, y], argTypes := #[t, t'] }, ty, pos, af, none⟩ :: os) ρ σ K =
      bindK ((aDelete Tryz.prog t (evE ρ x) (evE ρ y) σ).map fun σ' => (Value.tuple #[], σ')) (contR Tryz.prog call n ops os ρ d K) := rfl
theorem de142 {σ : Heap} {b c i t : Nat} {m : Ents} {k : ByteArray} (h : map? σ b = some (ents m, c)) (hk : mfind k m 0 = some (i, t)) : aDelete Tryz.prog 142 (.map (some b)) (.string k) σ =
    some (σ.setIfInBounds b (some (.map (ents (m.eraseIdx i)) c))) := by
  simp only [aDelete, Tryz.underlying142, Tryz.underlying9, h, findNow_ents, hk, Option.map_some]
  congr 3
  simp only [ents, List.eraseIdxIfInBounds_toArray]
  congr 1
  have key : ∀ (l : Ents) (i : Nat), (l.map fun x => ({ key := .string x.1, val := .pointer (some ⟨x.2.1, 0, none⟩), born := x.2.2 } : MapEntry)).eraseIdx i = (l.eraseIdx i).map fun x => ({ key := .string x.1, val := .pointer (some ⟨x.2.1, 0, none⟩), born := x.2.2 } : MapEntry) := by
    intro l
    induction l with
    | nil => intro i; rfl
    | cons x l ih =>
      intro i
      cases i with
      | zero => rfl
      | succ i => simp only [List.map_cons, List.eraseIdx_cons_succ, ih i]
  rw [key m i]
/-- Catalog.Drop -/
theorem s35 {σ : Heap} {p : Nat} {m : Ents} (h : Cat σ p m) (k : ByteArray) : wp (Call 35 #[.pointer (some ⟨p, 0, none⟩), .string k] σ) fun r =>
    match mfind k m 0 with
    | none => r = (.int .i64 7, σ)
    | some (i, _) => r.1 = .int .i64 0 ∧ ∃ b c, row? σ p = some ⟨#[.map (some b)], false⟩ ∧ map? σ b = some (ents m, c) ∧ r.2 = σ.setIfInBounds b (some (.map (ents (m.eraseIdx i)) c)) := by
  refine wp_call (args := [_, _]) rfl Tryz.func35 rfl (Nat.le_of_ble_eq_true rfl) 20 ?_
  obtain ⟨b, c, h0, h1⟩ := h
  cases hm : mfind k m 0 with
  | none =>
    simp -implicitDefEqProofs (disch := first | decide | omega | assumption | exact Nat.le_of_ble_eq_true rfl | (simp only [Array.size_push, size_set, Array.size_setIfInBounds]; omega)) only [↓pB, qB, ↓reduceIte, Nat.reduceLT, Nat.reduceEqDiff, Int.reducePow, Int.reduceMul, Int.reduceAdd, Int.reduceSub, Int.reduceMod, Int.reduceLT, Nat.reduceAdd, Nat.reduceMul, Int.reduceLE, Int.reduceToNat, Int.reduceEq, ↓p35, q35, h0, lk142 h1, hm]
  | some x =>
    obtain ⟨i, t⟩ := x
    simp -implicitDefEqProofs (disch := first | decide | omega | assumption | exact Nat.le_of_ble_eq_true rfl | (simp only [Array.size_push, size_set, Array.size_setIfInBounds]; omega)) only [↓pB, qB, ↓reduceIte, Nat.reduceLT, Nat.reduceEqDiff, Int.reducePow, Int.reduceMul, Int.reduceAdd, Int.reduceSub, Int.reduceMod, Int.reduceLT, Nat.reduceAdd, Nat.reduceMul, Int.reduceLE, Int.reduceToNat, Int.reduceEq, ↓p35, q35, h0, lk142 h1, hm, ↓odel, de142 h1 hm]
    exact ⟨trivial, b, c, rfl, h1, rfl⟩
end Go.Abs
