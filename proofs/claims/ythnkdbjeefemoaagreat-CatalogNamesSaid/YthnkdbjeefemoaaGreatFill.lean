/-
  Values and rows built of parts.
-/
import Derived.Test.YthnkdbjeefemoaaGreatOps
set_option linter.unusedVariables false
set_option linter.unusedSimpArgs false
namespace Go.Abs
open Go Go.RowKit

def fstep (p : Option (Nat × Nat)) (cs : Array Value) (v : Value) : Option (Array Value) :=
  match p with
  | none => none
  | some (off, size) => if v.cells.size = size ∧ off + size ≤ cs.size ∧ known v = true then some (putCells cs off v.cells.toList) else none
def fillK (place : Nat → Option (Nat × Nat)) : Array Value → List (Nat × Value) → Option (Array Value)
  | cs, [] => some cs
  | cs, p :: ps => bindK (fstep (place p.1) cs p.2) fun cs' => fillK place cs' ps

theorem foldl_putCells : ∀ (l : List Value) (off k : Nat) (cs : Array Value), (l.zipIdx k).foldl (fun cs (x : Value × Nat) => cs.setIfInBounds (off + x.2) x.1) cs = putCells cs (off + k) l
  | [], _, _, _ => rfl
  | v :: vs, off, k, cs => by
    simp only [List.zipIdx_cons, List.foldl_cons, putCells]
    rw [foldl_putCells vs off (k + 1)]
    rfl
theorem fill_fillK {place : Nat → Option (Nat × Nat)} : ∀ (ps : List (Nat × Value)) (cs : Array Value), (ps.all fun p => known p.2) = true → Instr.fill place cs ps = fillK place cs ps
  | [], cs, _ => rfl
  | (i, v) :: ps, cs, h => by
    simp only [List.all_cons, Bool.and_eq_true] at h
    simp only [Instr.fill, fillK]
    cases place i with
    | none => rfl
    | some p =>
      obtain ⟨off, size⟩ := p
      simp only [fstep]
      by_cases h1 : v.cells.size = size
      · subst h1
        by_cases h2 : off + v.cells.size ≤ cs.size
        · have h3 : ¬ (off + v.cells.size > cs.size) := by omega
          simp only [ne_eq, not_true_eq_false, decide_false, Bool.false_or, decide_eq_true_eq, h3, if_false, h2, h.1, and_self, if_true, bindK_some]
          rw [← fill_fillK ps _ h.2, ← Array.foldl_toList, Array.toList_zipIdx, foldl_putCells _ off 0 cs]
          rfl
        · have h3 : off + v.cells.size > cs.size := by omega
          simp [h2, h3]
          rfl
      · simp [h1]
        rfl
theorem fillK_known {place : Nat → Option (Nat × Nat)} : ∀ (ps : List (Nat × Value)) (cs res : Array Value), fillK place cs ps = some res → (ps.all fun p => known p.2) = true
  | [], _, _, _ => rfl
  | (i, v) :: ps, cs, res, h => by
    simp only [fillK] at h
    cases hp : fstep (place i) cs v with
    | none => rw [hp] at h; cases h
    | some cs' =>
      rw [hp, bindK_some] at h
      have := fillK_known ps cs' res h
      simp only [List.all_cons, Bool.and_eq_true]
      refine ⟨?_, this⟩
      generalize place i = q at hp
      cases q with
      | none => cases hp
      | some q =>
        obtain ⟨off, size⟩ := q
        simp only [fstep] at hp
        split at hp
        · rename_i hc; exact hc.2.2
        · cases hp
theorem fillAll_eq {place : Nat → Option (Nat × Nat)} (ps : List (Nat × Value)) (cs : Array Value) : fillAll place cs ps = fillK place cs ps := by
  unfold fillAll
  split
  · rename_i h; exact fill_fillK ps cs h
  · rename_i h
    cases hk : fillK place cs ps with
    | none => rfl
    | some res => exact absurd (fillK_known ps cs res hk) h

theorem fillK_nil {place : Nat → Option (Nat × Nat)} {cs : Array Value} : fillK place cs [] = some cs := rfl
def fillC (place : Nat → Option (Nat × Nat)) (ps : List (Nat × Value)) (cs : Array Value) : Option (Array Value) := fillK place cs ps
theorem fillK_cons {place : Nat → Option (Nat × Nat)} {cs : Array Value} {i : Nat} {v : Value} {ps : List (Nat × Value)} : fillK place cs ((i, v) :: ps) = bindK (fstep (place i) cs v) (fillC place ps) := rfl
theorem N_f {place : Nat → Option (Nat × Nat)} {cs : Array Value} {ps : List (Nat × Value)} : bindK (some cs) (fillC place ps) = fillK place cs ps := rfl
section
variable {off : Nat} {cs : Array Value} (h : off + 1 ≤ cs.size)
include h
theorem fstep_int {k : IntKind} {a : Int} : fstep (some (off, 1)) cs (.int k a) = some (cs.setIfInBounds off (.int k a)) := by simp [fstep, Value.cells, known, h, putCells]
theorem fstep_bool {a : Bool} : fstep (some (off, 1)) cs (.bool a) = some (cs.setIfInBounds off (.bool a)) := by simp [fstep, Value.cells, known, h, putCells]
theorem fstep_string {a : ByteArray} : fstep (some (off, 1)) cs (.string a) = some (cs.setIfInBounds off (.string a)) := by simp [fstep, Value.cells, known, h, putCells]
theorem fstep_pointer {a : Option Addr} : fstep (some (off, 1)) cs (.pointer a) = some (cs.setIfInBounds off (.pointer a)) := by simp [fstep, Value.cells, known, h, putCells]
theorem fstep_slice {a : Option Addr} {x y : Nat} : fstep (some (off, 1)) cs (.slice a x y) = some (cs.setIfInBounds off (.slice a x y)) := by simp [fstep, Value.cells, known, h, putCells]
theorem fstep_map {a : Option Nat} : fstep (some (off, 1)) cs (.map a) = some (cs.setIfInBounds off (.map a)) := by simp [fstep, Value.cells, known, h, putCells]
end
theorem fstep_agg {off : Nat} {cs vs : Array Value} {n : Nat} (hn : vs.size = n) (h : off + n ≤ cs.size) : fstep (some (off, n)) cs (.agg vs) = some (putCells cs off vs.toList) := by simp [fstep, Value.cells, known, h, hn]
theorem putCells_nil {cs : Array Value} {o : Nat} : putCells cs o [] = cs := rfl
theorem putCells_cons {cs : Array Value} {o : Nat} {v : Value} {vs : List Value} : putCells cs o (v :: vs) = putCells (cs.setIfInBounds o v) (o + 1) vs := rfl

def okRow (cs : Option (Array Value)) (n len : Nat) : Option (AObj × (Nat → Value)) :=
  cs.bind fun cs => if cs.all okCell = true then some (.row ⟨cs, false⟩, fun b => .slice (some ⟨b, 0, some n⟩) len (len + 1)) else none
section
variable {P : Program} {t e : TypeId} {i : TypeInfo} {n len : Nat} {ρ : Operand → Value}
theorem g_bs (hu : P.underlying t = some (.slice e)) (hi : tinfo P e = some i) (hs : i.size = n) {v : Value} (hz : i.zero = some v) {parts : Array (Nat × Operand)} (hl : len * n ≤ 2 ^ 24) :
    aMake P (.buildSlice t len parts) ρ = okRow (fillK (fun j => some (j * n, n)) (repeatCells v.cells (len * n)) (parts.toList.map fun p => (p.1, ρ p.2))) n len := by
  subst hs
  simp only [aMake, hu, hi, hl, hz, if_true, fillAll_eq, okRow]
  cases fillK (fun j => some (j * i.size, i.size)) (repeatCells v.cells (len * i.size)) (parts.toList.map fun p => (p.1, ρ p.2)) <;> rfl
theorem okRow_some {cs : Array Value} : okRow (some cs) n len = ifK (cs.all okCell) (some (.row ⟨cs, false⟩, fun b => .slice (some ⟨b, 0, some n⟩) len (len + 1))) none := by
  simp only [okRow, Option.bind_some, ifK]
  split
  · rename_i h; rw [h]; rfl
  · rename_i h; rw [Bool.not_eq_true] at h; rw [h]; rfl
theorem ifS_true {β : Type} {a : β} {y : Option β} : ifK true (some a) y = some a := rfl
theorem g_bd {fs : Array Field} {places : List (Nat × Nat)} (hi : tinfo P t = some i) (hu : P.underlying t = some (.struct fs)) {v : Value} (hz : i.zero = some v)
    (hp : fs.toList.mapM (fun f => (P.info? f.type).map fun i => (f.offset, i.size)) = some places) {parts : List (Nat × Value)} :
    aBuild P t parts = (fillK (places.toArray[·]?) v.cells parts).map .agg := by
  have hlt : t < P.types.size := by
    unfold tinfo at hi
    split at hi
    · assumption
    · cases hi
  have hi' := tinfo_some hi
  unfold aBuild
  by_cases hk : (parts.all fun p => known p.2) = true
  · rw [if_pos ⟨hlt, hk⟩]
    simp only [Program.built, hi', hu, hz, hp, fill_fillK parts _ hk]
  · rw [if_neg (fun h => hk h.2)]
    cases hf : fillK (places.toArray[·]?) v.cells parts with
    | none => rfl
    | some res => exact absurd (fillK_known parts _ res hf) hk
def boxK (v : Value) : Option (AObj × (Nat → Value)) := if v.cells.all okCell = true then some (.row ⟨v.cells, false⟩, fun b => .pointer (some ⟨b, 0, none⟩)) else none
theorem g_box {x : Operand} : aMake P (.box t x) ρ = boxK (ρ x) := by
  simp only [aMake, boxK, ptrVal]
theorem boxK_agg {cs : Array Value} : boxK (.agg cs) = ifK (cs.all okCell) (some (.row ⟨cs, false⟩, fun b => .pointer (some ⟨b, 0, none⟩))) none := by
  have e : (Value.agg cs).cells = cs := rfl
  unfold boxK ifK
  rw [e]
  by_cases h : cs.all okCell = true
  · rw [if_pos h, h]; rfl
  · rw [if_neg h]
    rw [Bool.not_eq_true] at h
    rw [h]; rfl
theorem boxK_int {k : IntKind} {a : Int} : boxK (.int k a) = some (.row ⟨#[.int k a], false⟩, fun b => .pointer (some ⟨b, 0, none⟩)) := by simp [boxK, Value.cells, okCell]
end
theorem toList_lit {α : Type} {l : List α} : (List.toArray l).toList = l := rfl
theorem ok_int {k : IntKind} {a : Int} : okCell (.int k a) = true := rfl
theorem ok_bool {a : Bool} : okCell (.bool a) = true := rfl
theorem ok_string {a : ByteArray} : okCell (.string a) = true := rfl
theorem ok_pointer {a : Option Addr} : okCell (.pointer a) = true := rfl
theorem ok_slice {a : Option Addr} {x y : Nat} : okCell (.slice a x y) = true := rfl
theorem ok_map {a : Option Nat} : okCell (.map a) = true := rfl
theorem all_nil : (List.toArray ([] : List Value)).all okCell = true := by simp
theorem all_cons {v : Value} {l : List Value} : (List.toArray (v :: l)).all okCell = (okCell v && (List.toArray l).all okCell) := by simp
theorem true_and_b {b : Bool} : (true && b) = b := rfl
end Go.Abs
