/-
  Operations at known types: general laws, of which the table's are instances.
-/
import Derived.Test.YthnkdbjeefemoaaGreatEval
set_option linter.unusedVariables false
set_option linter.unusedSimpArgs false
namespace Go.Abs
open Go Go.RowKit

theorem info_of_type {P : Program} {t : TypeId} {i : TypeInfo} (h : P.types[t]? = some i) : P.info? t = some i := by
  have : t < P.types.size := by
    rcases Nat.lt_or_ge t P.types.size with h' | h'
    · exact h'
    · rw [Array.getElem?_eq_none h'] at h; cases h
  show (if t < P.types.size then P.types[t]? else _) = _
  rw [if_pos this, h]

def cellAt (r : Option Row) (o : Nat) : Option Value := r.bind fun r => r.cells[o]?
def aggAt (r : Option Row) (o n : Nat) : Option Value := r.bind fun r => if o + n ≤ r.cells.size then some (.agg (r.cells.extract o (o + n))) else none
def putAt (r : Option Row) (σ : Heap) (b o n : Nat) (v : Value) : Option Heap :=
  r.bind fun r => if v.cells.size = n ∧ v.cells.all okCell = true ∧ o + n ≤ r.cells.size ∧ r.ro = false then some (aSetRow σ b { r with cells := putCells r.cells o v.cells.toList }) else none
def idxAddr (b o n len : Nat) (i : Int) : Option Value := if 0 ≤ i ∧ i < len then some (.pointer (some ⟨b, o + i.toNat * n, none⟩)) else none
def partAt (cs : Array Value) (o n : Nat) : Option Value := if o + n ≤ cs.size then some (.agg (cs.extract o (o + n))) else none
def slc (b o z len c : Nat) (lo hi : Option Nat) : Option Value :=
  match lo, hi with
  | some l, some h => if l ≤ h ∧ h ≤ len then some (.slice (some ⟨b, o + l * z, some z⟩) (h - l) (c - l)) else none
  | _, _ => none
def slcS (s : ByteArray) (lo hi : Option Nat) : Option Value :=
  match lo, hi with
  | some l, some h => if l ≤ h ∧ h ≤ s.size then some (.string (s.extract l h)) else none
  | _, _ => none
def mkSl (n bytes : Nat) (z : Array Value) (l c : Value) : Option (AObj × (Nat → Value)) :=
  match l, c with
  | .int .i64 a, .int .i64 m =>
    if a = m ∧ 0 ≤ a ∧ a * bytes ≤ 2 ^ 48 ∧ a < 2 ^ 63 then some (.row ⟨repeatCells z (a.toNat * n), false⟩, fun b => .slice (some ⟨b, 0, some n⟩) a.toNat (a.toNat + 1)) else none
  | _, _ => none

def nilSlc (c : Nat) (lo hi : Option Nat) : Option Value :=
  match lo, hi with
  | some 0, some 0 => some (.slice none 0 c)
  | _, _ => none
theorem nilSlc_zero {c : Nat} : nilSlc c (some 0) (some 0) = some (.slice none 0 c) := rfl

section
variable {P : Program} {t e : TypeId} {i : TypeInfo} {b o n len c z off f : Nat} {σ : Heap} {k : IntKind} {j : Int} {cs : Array Value}

theorem cellAt_some {r : Row} : cellAt (some r) o = r.cells[o]? := rfl
theorem aggAt_some {r : Row} (h : o + n ≤ r.cells.size) : aggAt (some r) o n = some (.agg (r.cells.extract o (o + n))) := by simp [aggAt, h]
theorem idxAddr_ok (h : 0 ≤ j) (h' : j < len) : idxAddr b o n len j = some (.pointer (some ⟨b, o + j.toNat * n, none⟩)) := by simp [idxAddr, h, h']
theorem partAt_ok (h : o + n ≤ cs.size) : partAt cs o n = some (.agg (cs.extract o (o + n))) := by simp [partAt, h]
theorem slc_ok {l h : Nat} (h1 : l ≤ h) (h2 : h ≤ len) : slc b o z len c (some l) (some h) = some (.slice (some ⟨b, o + l * z, some z⟩) (h - l) (c - l)) := by simp [slc, h1, h2]
theorem slcS_ok {s : ByteArray} {l h : Nat} (h1 : l ≤ h) (h2 : h ≤ s.size) : slcS s (some l) (some h) = some (.string (s.extract l h)) := by simp [slcS, h1, h2]
theorem putAt_int {cs : Array Value} {k : IntKind} {a : Int} (h : o + 1 ≤ cs.size) : putAt (some ⟨cs, false⟩) σ b o 1 (.int k a) = some (aSetRow σ b ⟨cs.setIfInBounds o (.int k a), false⟩) := by
  simp [putAt, h, Value.cells, okCell, putCells]
theorem putAt_bool {cs : Array Value} {a : Bool} (h : o + 1 ≤ cs.size) : putAt (some ⟨cs, false⟩) σ b o 1 (.bool a) = some (aSetRow σ b ⟨cs.setIfInBounds o (.bool a), false⟩) := by
  simp [putAt, h, Value.cells, okCell, putCells]
theorem putAt_string {cs : Array Value} {a : ByteArray} (h : o + 1 ≤ cs.size) : putAt (some ⟨cs, false⟩) σ b o 1 (.string a) = some (aSetRow σ b ⟨cs.setIfInBounds o (.string a), false⟩) := by
  simp [putAt, h, Value.cells, okCell, putCells]
theorem putAt_pointer {cs : Array Value} {a : Option Addr} (h : o + 1 ≤ cs.size) : putAt (some ⟨cs, false⟩) σ b o 1 (.pointer a) = some (aSetRow σ b ⟨cs.setIfInBounds o (.pointer a), false⟩) := by
  simp [putAt, h, Value.cells, okCell, putCells]
theorem putAt_slice {cs : Array Value} {a : Option Addr} {x y : Nat} (h : o + 1 ≤ cs.size) : putAt (some ⟨cs, false⟩) σ b o 1 (.slice a x y) = some (aSetRow σ b ⟨cs.setIfInBounds o (.slice a x y), false⟩) := by
  simp [putAt, h, Value.cells, okCell, putCells]
theorem putAt_map {cs : Array Value} {a : Option Nat} (h : o + 1 ≤ cs.size) : putAt (some ⟨cs, false⟩) σ b o 1 (.map a) = some (aSetRow σ b ⟨cs.setIfInBounds o (.map a), false⟩) := by
  simp [putAt, h, Value.cells, okCell, putCells]
theorem putAt_agg {cs vs : Array Value} {m : Nat} (hm : vs.size = m) (h : o + m ≤ cs.size) (hv : vs.all okCell = true) : putAt (some ⟨cs, false⟩) σ b o m (.agg vs) = some (aSetRow σ b ⟨putCells cs o vs.toList, false⟩) := by
  subst hm
  simp [putAt, Value.cells, hv, h]

theorem g_ld (h : isAggT P t = some false) : aLoad P t (.pointer (some ⟨b, o, none⟩)) σ = cellAt (row? σ b) o := by
  simp only [aLoad, h, cellAt]
  cases row? σ b <;> rfl
theorem g_lda (h : isAggT P t = some true) (hi : P.info? t = some i) (hs : i.size = n) : aLoad P t (.pointer (some ⟨b, o, none⟩)) σ = aggAt (row? σ b) o n := by
  simp only [aLoad, h, hi, hs, aggAt, rdCells]
  cases row? σ b with
  | none => rfl
  | some r =>
    simp only [Option.bind_some]
    split <;> rfl
theorem g_st (hi : P.info? t = some i) (hs : i.size = n) {v : Value} : aStore P t (.pointer (some ⟨b, o, none⟩)) v σ = putAt (row? σ b) σ b o n v := by
  subst hs
  simp only [aStore, hi, putAt]
  cases row? σ b <;> rfl
theorem g_fa {fs : Array Field} {fd : Field} (hu : P.underlying t = some (.struct fs)) (hf : fs[f]? = some fd) (hi : P.info? fd.type = some i) (hz : i.size ≠ 0) (ho : fd.offset = off) :
    aFieldAddr P t (.pointer (some ⟨b, o, none⟩)) f = some (.pointer (some ⟨b, o + off, none⟩)) := by
  simp only [aFieldAddr, hu, hf, hi, hz, ho, if_false, ptrVal]
theorem g_fd {fs : Array Field} {fd : Field} (hu : P.underlying t = some (.struct fs)) (hf : fs[f]? = some fd) (ha : isAggT P fd.type = some false) (ho : fd.offset = off) :
    aField P t (.agg cs) f = cs[off]? := by
  simp only [aField, hu, hf, aPart, ha, ho]
theorem g_fda {fs : Array Field} {fd : Field} (hu : P.underlying t = some (.struct fs)) (hf : fs[f]? = some fd) (ha : isAggT P fd.type = some true) (hi : P.info? fd.type = some i) (hs : i.size = n) (ho : fd.offset = off) :
    aField P t (.agg cs) f = partAt cs off n := by
  simp only [aField, hu, hf, aPart, ha, hi, hs, ho, partAt]
theorem g_ia (hu : P.underlying t = some (.slice e)) (hi : P.info? e = some i) (hs : i.size = n) : aIndexAddr P t (.slice (some ⟨b, o, some z⟩) len c) (.int k j) = idxAddr b o n len j := by
  simp only [aIndexAddr, hu, hi, hs, idxAddr, ptrVal]
theorem g_iaa {m : Nat} (hu : P.underlying t = some (.array m e)) (hi : P.info? e = some i) (hs : i.size = n) : aIndexAddr P t (.pointer (some ⟨b, o, none⟩)) (.int k j) = idxAddr b o n m j := by
  simp only [aIndexAddr, hu, hi, hs, idxAddr, ptrVal]
theorem g_ixs (hu : P.underlying t = some .string) {s : ByteArray} : aIndex P t (.string s) (.int k j) = if h : 0 ≤ j ∧ j.toNat < s.size then some (.int .u8 (s[j.toNat]'h.2).toNat) else none := by
  simp only [aIndex, hu]
theorem g_ixa {m : Nat} (hu : P.underlying t = some (.array m e)) (hi : P.info? e = some i) (hs : i.size = 1) (ha : isAggT P e = some false) : aIndex P t (.agg cs) (.int k j) = if 0 ≤ j ∧ j < m then cs[j.toNat]? else none := by
  simp only [aIndex, hu, hi, hs, aPart, ha, Nat.mul_one]
theorem g_sl (hu : P.underlying t = some (.slice e)) (hi : P.info? e = some i) (hs : i.size = n) {lo hi' : Option Value} : aSlice P t (.slice (some ⟨b, o, some n⟩) len c) lo hi' none = slc b o n len c (optNat 0 lo) (optNat len hi') := by
  subst hs
  simp only [aSlice, hu, hi, slc]
  cases optNat 0 lo <;> cases optNat len hi' <;> simp
theorem g_sln (hu : P.underlying t = some (.slice e)) (hi : P.info? e = some i) {lo hi' : Option Value} : aSlice P t (.slice none 0 c) lo hi' none = nilSlc c (optNat 0 lo) (optNat 0 hi') := by
  simp only [aSlice, hu, hi]
  cases optNat 0 lo with
  | none => rfl
  | some x =>
    cases optNat 0 hi' with
    | none => cases x <;> rfl
    | some y => cases x <;> cases y <;> rfl
theorem g_sls (hu : P.underlying t = some .string) {s : ByteArray} {lo hi' : Option Value} : aSlice P t (.string s) lo hi' none = slcS s (optNat 0 lo) (optNat s.size hi') := by
  simp only [aSlice, hu, slcS]
  cases optNat 0 lo <;> cases optNat s.size hi' <;> rfl
theorem optNat_none {y : Nat} : optNat y none = some y := rfl
theorem optNat_int {y : Nat} (h : 0 ≤ j) : optNat y (some (.int k j)) = some j.toNat := by simp [optNat, h]
theorem g_len (hu : P.underlying t = some (.slice e)) {a : Option Addr} : aBuiltin P .len #[t] #[.slice a n c] = some (.int .i64 n) := by simp [aBuiltin, hu]
theorem g_lens (hu : P.underlying t = some .string) {s : ByteArray} : aBuiltin P .len #[t] #[.string s] = some (.int .i64 s.size) := by simp [aBuiltin, hu]
theorem tinfo_of_type (h : P.types[t]? = some i) : tinfo P t = some i := by
  have : t < P.types.size := by
    rcases Nat.lt_or_ge t P.types.size with h' | h'
    · exact h'
    · rw [Array.getElem?_eq_none h'] at h; cases h
  unfold tinfo
  rw [if_pos this, info_of_type h]
theorem g_al (hi : tinfo P t = some i) {v : Value} (hz : i.zero = some v) {ρ : Operand → Value} : aMake P (.alloc t) ρ = some (.row ⟨v.cells, false⟩, fun b => .pointer (some ⟨b, 0, none⟩)) := by
  simp only [aMake, hi, hz, ptrVal]
theorem g_ms (hu : P.underlying t = some (.slice e)) (hi : tinfo P e = some i) (hs : i.size = n) {v : Value} (hz : i.zero = some v) {l m : Operand} {ρ : Operand → Value} : aMake P (.makeSlice t l m) ρ = mkSl n i.bytes v.cells (ρ l) (ρ m) := by
  subst hs
  simp only [aMake, hu, mkSl]
  cases ρ l with
  | int k a =>
    cases k <;> try rfl
    cases ρ m with
    | int k' a' => cases k' <;> try rfl
                   simp only [hi, hz]
    | _ => rfl
  | _ => rfl
theorem g_mm {ρ : Operand → Value} : aMake P (.makeMap t none) ρ = some (.map #[] 0, fun b => .map (some b)) := rfl
theorem g_nil_slice (hu : P.underlying t = some (.slice e)) {a : Option Addr} {x y x' y' : Nat} : aBin P .eql t (.slice a x y) (.slice none x' y') = some (.bool a.isNone) := by
  cases a <;> simp [aBin, nilEq, hu]
theorem g_nil_ptr (hu : P.underlying t = some (.pointer e)) {a : Option Addr} : aBin P .eql t (.pointer a) (.pointer none) = some (.bool a.isNone) := by
  cases a <;> simp [aBin, nilEq, hu]
theorem g_nnil_ptr (hu : P.underlying t = some (.pointer e)) {a : Option Addr} : aBin P .neq t (.pointer a) (.pointer none) = some (.bool a.isSome) := by
  cases a <;> simp [aBin, nilEq, hu]
theorem g_app {t' : TypeId} (hu : P.underlying t' = some (.slice e)) {call : CallFn} {s x : Operand} {ρ : Operand → Value} : aEff P call (.call { callee := .builtin .append, args := #[s, x], argTypes := #[t, t'] }) ρ σ =
    (match ρ x with | .slice a b c => aAppend P t (ρ s) (.slice a b c) σ | _ => none) := by
  simp only [aEff, hu]
  cases ρ x <;> rfl
theorem g_apps {t' : TypeId} (hu : P.underlying t' = some .string) {call : CallFn} {s x : Operand} {ρ : Operand → Value} : aEff P call (.call { callee := .builtin .append, args := #[s, x], argTypes := #[t, t'] }) ρ σ =
    (match ρ x with | .string b => aAppend P t (ρ s) (.string b) σ | _ => none) := by
  simp only [aEff, hu]
  cases ρ x <;> rfl
theorem g_bool_eq {x y : Bool} (hu : P.underlying t = some .bool) : aBin P .eql t (.bool x) (.bool y) = some (.bool (x == y)) := by simp [aBin, nilEq, hu]
theorem g_bool_ne {x y : Bool} (hu : P.underlying t = some .bool) : aBin P .neq t (.bool x) (.bool y) = some (.bool (!(x == y))) := by simp [aBin, nilEq, hu]
end
end Go.Abs
