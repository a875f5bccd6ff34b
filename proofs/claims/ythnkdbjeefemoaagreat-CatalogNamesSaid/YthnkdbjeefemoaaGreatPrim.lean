/-
  Functions whose contracts are taken from the shelf: what they compute over abstract heaps.
-/
import Derived.Test.YthnkdbjeefemoaaGreatAbsRun
import Derived.MapKept
import Derived.Sort.EncStr
set_option linter.unusedVariables false
namespace Go.Abs
open Go

/-- keys that are texts -/
def keysOf : List MapEntry → Option (List (List UInt8))
  | [] => some []
  | e :: es =>
    match e.key, keysOf es with
    | .string s, some l => some (s.data.toList :: l)
    | _, _ => none
def sortStr (l : List (List UInt8)) : List (List UInt8) := l.mergeSort fun x y => decide (x ≤ y)
def newRow1 (vs : List Value) (σ : Heap) : Value × Heap :=
  if vs = [] then (.slice none 0 0, σ) else (.slice (some ⟨σ.size, 0, some 1⟩) vs.length 0, σ.push (some (.row ⟨vs.toArray, false⟩)))
/-- slices.Sorted(maps.Keys(c.all)) -/
noncomputable def primNames (args : Array Value) (σ : Heap) : Option (Value × Heap) :=
  match args.toList with
  | [.pointer (some ⟨p, 0, none⟩)] =>
    match (row? σ p).bind (fun r => r.cells[0]?) with
    | some (Value.map (some b)) =>
      match map? σ b with
      | some (es, c) =>
        match keysOf es.toList with
        | some ks =>
          haveI := Classical.propDecidable (MapKept.Stamped es c ∧ es.size ≤ 1000 ∧ ∀ k ∈ ks, k.length ≤ 1000)
          if MapKept.Stamped es c ∧ es.size ≤ 1000 ∧ ∀ k ∈ ks, k.length ≤ 1000 then some (newRow1 ((sortStr ks).map Go.Proofs.encStr) σ) else none
        | none => none
      | none => none
    | _ => none
  | _ => none
noncomputable def primT : FuncId → Option PrimFn := fun f => if f = 24 then some primNames else none
end Go.Abs
