/-
  Strings as lists of bytes.
-/
import Derived.Test.YthnkdbjeefemoaaGreatNum
import Derived.Laws.Strings
set_option linter.unusedVariables false
set_option linter.unusedSimpArgs false
set_option linter.unusedSectionVars false
namespace Go.Abs
open Go Go.RowKit Go.Proofs

/-- bytes as cells -/
def bv (n : UInt8) : Value := .int .u8 ((n.toNat : Nat) : Int)
def bcells (l : List UInt8) : Array Value := (l.map bv).toArray

/-- a text of these bytes -/
def bs (l : List UInt8) : ByteArray := ⟨l.toArray⟩
theorem bs_size {l : List UInt8} : (bs l).size = l.length := rfl
theorem bs_data (s : ByteArray) : bs s.data.toList = s := rfl
theorem bs_toList {l : List UInt8} : (bs l).toList = l := ByteArray.toList_mk l
theorem bs_inj {l l' : List UInt8} : bs l = bs l' ↔ l = l' := by
  constructor
  · intro h
    have := congrArg (fun s : ByteArray => s.data.toList) h
    simpa [bs] using this
  · rintro rfl; rfl
theorem ba_ext {a b : ByteArray} (h : a.data.toList = b.data.toList) : a = b := by
  cases a with
  | mk x => cases b with
    | mk y => simp only [Array.toList_inj] at h; rw [h]
theorem bs_append {l l' : List UInt8} : bs l ++ bs l' = bs (l ++ l') := by
  apply ba_ext
  simp [bs]
theorem bs_extract {l : List UInt8} {i j : Nat} : (bs l).extract i j = bs ((l.drop i).take (j - i)) := by
  apply ba_ext
  simp [bs, ByteArray.extract, ByteArray.copySlice, List.extract_eq_take_drop]
theorem bs_get {l : List UInt8} {i : Nat} (h : i < l.length) : (bs l)[i]'(by rw [bs_size]; exact h) = l[i] := by
  simp [bs, ByteArray.getElem_eq_getElem_data]

section
variable {P : Program} {t : TypeId} {a b : List UInt8}
theorem SB_add (h : a.length + b.length < 4611686018427387904) : aBin P .add t (.string (bs a)) (.string (bs b)) = some (.string (bs (a ++ b))) := by
  show aPure (Op.stringOp .add (bs a) (bs b)) = _
  unfold Op.stringOp
  simp only
  rw [if_neg (by show ¬ (((bs a).size + (bs b).size : Nat) : Int) > 9223372036854775807; rw [bs_size, bs_size]; omega), bs_append]
  rfl
theorem SB_eql : aBin P .eql t (.string (bs a)) (.string (bs b)) = some (.bool (decide (a = b))) := by
  show aPure (Op.stringOp .eql (bs a) (bs b)) = _
  unfold Op.stringOp
  simp only [bs_toList]
  show some _ = _
  congr 2
  rw [Bool.eq_iff_iff, beq_iff_eq, decide_eq_true_iff]
theorem SB_neq : aBin P .neq t (.string (bs a)) (.string (bs b)) = some (.bool (decide (a ≠ b))) := by
  show aPure (Op.stringOp .neq (bs a) (bs b)) = _
  unfold Op.stringOp
  simp only [bs_toList]
  show some _ = _
  congr 2
  rw [Bool.eq_iff_iff]; simp
theorem SB_lss : aBin P .lss t (.string (bs a)) (.string (bs b)) = some (.bool (Op.bytesLess a b)) := by
  show aPure (Op.stringOp .lss (bs a) (bs b)) = _
  unfold Op.stringOp
  simp only [bs_toList]
  rfl
theorem SB_geq : aBin P .geq t (.string (bs a)) (.string (bs b)) = some (.bool (!Op.bytesLess a b)) := by
  show aPure (Op.stringOp .geq (bs a) (bs b)) = _
  unfold Op.stringOp
  simp only [bs_toList]
  rfl
theorem SB_gtr : aBin P .gtr t (.string (bs a)) (.string (bs b)) = some (.bool (!(Op.bytesLess a b || a == b))) := by
  show aPure (Op.stringOp .gtr (bs a) (bs b)) = _
  unfold Op.stringOp
  simp only [bs_toList]
  rfl
theorem SB_leq : aBin P .leq t (.string (bs a)) (.string (bs b)) = some (.bool (Op.bytesLess a b || a == b)) := by
  show aPure (Op.stringOp .leq (bs a) (bs b)) = _
  unfold Op.stringOp
  simp only [bs_toList]
  rfl
end
theorem slcS_bs {l : List UInt8} {i j : Nat} (h1 : i ≤ j) (h2 : j ≤ l.length) : slcS (bs l) (some i) (some j) = some (.string (bs ((l.drop i).take (j - i)))) := by
  rw [slcS_ok h1 (by rw [bs_size]; exact h2), bs_extract]
theorem idxS_bs {l : List UInt8} {j : Int} {x : UInt8} (h0 : 0 ≤ j) (h : l[j.toNat]? = some x) : (if h : 0 ≤ j ∧ j.toNat < (bs l).size then some (Value.int .u8 ((bs l)[j.toNat]'h.2).toNat) else none) = some (bv x) := by
  have hl : j.toNat < l.length := by
    rcases Nat.lt_or_ge j.toNat l.length with h1 | h1
    · exact h1
    · rw [List.getElem?_eq_none h1] at h; cases h
  rw [dif_pos ⟨h0, by rw [bs_size]; exact hl⟩, bs_get hl]
  rw [List.getElem?_eq_getElem hl] at h
  cases h; rfl

theorem ixb_9 {l : List UInt8} {k : IntKind} {j : Int} (h0 : 0 ≤ j) (h : j.toNat < l.length) : aIndex Tryz.prog 9 (.string (bs l)) (.int k j) = some (bv (l[j.toNat]?.getD 0)) := by
  rw [ix_9]
  refine idxS_bs h0 ?_
  rw [List.getElem?_eq_getElem h]; rfl
/-- bytes as a text -/
def bytesStr (σ : Heap) (v : Value) : Option Value :=
  match v with
  | .slice none 0 _ => some (.string ⟨#[]⟩)
  | .slice (some ⟨b, o, some _⟩) n _ =>
    match rdCells σ b o n with
    | some cs => (bytesOf cs.toList).map fun l => .string ⟨l.toArray⟩
    | none => none
  | _ => none
section
variable {P : Program} {s t e : TypeId} (hs : P.underlying s = some (.slice e)) (ht : P.underlying t = some .string) (he : P.underlying e = some (.int .u8))
variable {α : Type} {call : CallFn} {m : Nat} {ρ : Env} {σ : Heap} {ops : Array Oper} {os : List Oper} {d : Option Tmp} {ty : TypeId} {pos : String} {af : Array Edge} {K : Env → Heap → Option α} {x : Operand}
include hs ht he
theorem aRead_bs {v : Value} : aRead P (.convert s t x) [v] σ = bytesStr σ v := by
  simp only [aRead, hs, ht, he]
  unfold bytesStr
  cases v with
  | slice a n c => cases a with
    | none => cases n <;> rfl
    | some a => obtain ⟨b, o, sp⟩ := a; cases sp <;> rfl
  | _ => rfl
theorem gO_bs : kOps P call m ops (⟨d, .convert s t x, ty, pos, af, none⟩ :: os) ρ σ K = bindK (bytesStr σ (evE ρ x)) (contK P call m ops os ρ d σ K) := by
  have hc : cls P (.convert s t x) = .read := by simp [cls, hs, ht]
  rw [← aRead_bs (x := x) hs ht he]
  simp only [kOps, guardK, kOp, hc]; rfl
theorem gO_sb : kOps P call m ops (⟨d, .convert t s x, ty, pos, af, none⟩ :: os) ρ σ K = bindK (aMake P (.convert t s x) (evE ρ)) (contM P call m ops os ρ d σ K) := by
  have hc : cls P (.convert t s x) = .make := by simp [cls, hs, ht]
  simp only [kOps, guardK, kOp, hc]; rfl
theorem gD_bs {base i : Nat} {msk : List Nat} {ss : List DS} {log : LogF} : dRd P call m ops base ⟨d, .convert s t x, ty, pos, af, none⟩ i msk ss ρ σ log K = bindK (bytesStr (mask σ (offs base msk)) (evE ρ x)) (cRd P call m ops base i [evE ρ x] ss ρ d σ log K) := by
  rw [← aRead_bs (x := x) hs ht he]; rfl
theorem gmk_sb : aMake P (.convert t s x) (evE ρ) = (match evE ρ x with | .string s => some (.row ⟨s.data.map fun b => .int .u8 b.toNat, false⟩, fun b => .slice (some ⟨b, 0, some 1⟩) s.size 0) | _ => none) := by
  simp only [aMake, hs, ht]
  cases evE ρ x <;> first | rfl | simp only [he]
end
section
variable {α : Type} {call : CallFn} {m : Nat} {ρ : Env} {σ : Heap} {ops : Array Oper} {os : List Oper} {d : Option Tmp} {ty : TypeId} {pos : String} {af : Array Edge} {K : Env → Heap → Option α} {x : Operand}
theorem O_bs : kOps Tryz.prog call m ops (⟨d, .convert 22 9 x, ty, pos, af, none⟩ :: os) ρ σ K = bindK (bytesStr σ (evE ρ x)) (contK Tryz.prog call m ops os ρ d σ K) := gO_bs Tryz.underlying22 Tryz.underlying9 Tryz.underlying5
theorem O_sb : kOps Tryz.prog call m ops (⟨d, .convert 9 22 x, ty, pos, af, none⟩ :: os) ρ σ K = bindK (aMake Tryz.prog (.convert 9 22 x) (evE ρ)) (contM Tryz.prog call m ops os ρ d σ K) := gO_sb Tryz.underlying22 Tryz.underlying9 Tryz.underlying5
theorem D_bs {base i : Nat} {msk : List Nat} {ss : List DS} {log : LogF} : dRd Tryz.prog call m ops base ⟨d, .convert 22 9 x, ty, pos, af, none⟩ i msk ss ρ σ log K = bindK (bytesStr (mask σ (offs base msk)) (evE ρ x)) (cRd Tryz.prog call m ops base i [evE ρ x] ss ρ d σ log K) := gD_bs Tryz.underlying22 Tryz.underlying9 Tryz.underlying5
theorem mk_sb : aMake Tryz.prog (.convert 9 22 x) (evE ρ) = (match evE ρ x with | .string s => some (.row ⟨s.data.map fun b => .int .u8 b.toNat, false⟩, fun b => .slice (some ⟨b, 0, some 1⟩) s.size 0) | _ => none) := gmk_sb Tryz.underlying22 Tryz.underlying9 Tryz.underlying5
end
theorem bytes_cells {l : List UInt8} : ((bs l).data.map fun b => Value.int .u8 b.toNat) = bcells l := by
  simp [bs, bcells, bv]
end Go.Abs
