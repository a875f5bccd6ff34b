/-
  How elements lie in cells; texts out of bytes.
-/
import Derived.Test.YthnkdbjeefemoaaGreatSl
set_option linter.unusedVariables false
set_option linter.unusedSimpArgs false
namespace Go.Abs
open Go Go.RowKit Go.Proofs

/-! Encodings -/
def eNat : Enc Nat := ⟨1, fun n => [.int .i64 n], fun _ => rfl, fun x v h => by simp at h; subst h; rfl, Nat.one_pos⟩
def eInt : Enc Int := ⟨1, fun n => [.int .i64 n], fun _ => rfl, fun x v h => by simp at h; subst h; rfl, Nat.one_pos⟩
def eBool : Enc Bool := ⟨1, fun n => [.bool n], fun _ => rfl, fun x v h => by simp at h; subst h; rfl, Nat.one_pos⟩
def eStr : Enc (List UInt8) := ⟨1, fun n => [.string (bs n)], fun _ => rfl, fun x v h => by simp at h; subst h; rfl, Nat.one_pos⟩
/-- places -/
def ePtr : Enc Nat := ⟨1, fun n => [.pointer (some ⟨n, 0, none⟩)], fun _ => rfl, fun x v h => by simp at h; subst h; rfl, Nat.one_pos⟩
/-- slices -/
def eSl : Enc (Option Addr × Nat × Nat) := ⟨1, fun n => [.slice n.1 n.2.1 n.2.2], fun _ => rfl, fun x v h => by simp at h; subst h; rfl, Nat.one_pos⟩
/-- a value: none, or a text -/
structure Val where
  null : Bool
  s : List UInt8
  deriving DecidableEq
def eVal : Enc Val := ⟨2, fun v => [.bool v.null, .string (bs v.s)], fun _ => rfl, fun x v h => by simp at h; rcases h with rfl | rfl <;> rfl, by decide⟩
theorem bytesOf_bv : ∀ l : List UInt8, bytesOf (l.map bv) = some l
  | [] => rfl
  | x :: l => by
    simp only [List.map_cons, bv, bytesOf]
    rw [bytesOf_bv l]
    simp
theorem bytesStr_some {σ : Heap} {v : Value} {l : List UInt8} (h : BSl σ v l) : bytesStr σ v = some (.string (bs l)) := by
  unfold bytesStr
  cases h with
  | nil c => rfl
  | @row b o c n cs ro h hn =>
    simp only [rdCells, h]
    rw [if_pos (by rw [bcells_size]; exact hn)]
    simp only [bcells_extract]
    rw [show o + n - o = n by omega]
    simp only [bcells, bytesOf_bv, Option.map_some]
    rfl
end Go.Abs
