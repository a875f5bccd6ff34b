/-
  A deterministic semantics of the code over abstract heaps: no tape, no capacities, no orders.
  Its values are the model's own; a pointer's block is a place in the abstract heap; a slice's address bears its elements' size as its spot; its third number is 0 (capacity not known) or the capacity and one.
-/
import Derived.Orders
import Derived.Laws.Tables
import Derived.ScopeJumps
set_option linter.unusedVariables false
namespace Go.Abs
open Go

/-- what is not known: it stands for every value -/
def unk : Value := .chan none

structure Row where
  cells : Array Value
  ro : Bool
  deriving Inhabited

inductive AObj where
  | row (r : Row)
  | map (es : Array MapEntry) (clock : Nat)
  deriving Inhabited

abbrev Heap := Array (Option AObj)

def row? (σ : Heap) (b : Nat) : Option Row :=
  match σ[b]? with
  | some (some (.row r)) => some r
  | _ => none

def map? (σ : Heap) (b : Nat) : Option (Array MapEntry × Nat) :=
  match σ[b]? with
  | some (some (.map es c)) => some (es, c)
  | _ => none

def aPure (s : Sem Value) : Option Value :=
  match s with
  | .pure v => some v
  | _ => none

/-- may it stand in one cell? -/
def okCell : Value → Bool
  | .agg _ | .tuple _ | .chan _ => false
  | _ => true

/-- is it a number, a bool, a string? -/
def isScal : Value → Bool
  | .bool _ | .int _ _ | .string _ => true
  | _ => false

def isAggT (P : Program) (t : TypeId) : Option Bool :=
  match P.underlying t with
  | some (.struct _) | some (.array _ _) => some true
  | some _ => some false
  | none => none

/-! ### Operations that look at their operands alone -/

def ptrVal (b o : Nat) : Value := .pointer (some ⟨b, o, none⟩)

def aFieldAddr (P : Program) (t : TypeId) (x : Value) (f : Nat) : Option Value :=
  match P.underlying t with
  | some (.struct fields) =>
    match fields[f]?, x with
    | some f, .pointer (some ⟨b, o, none⟩) =>
      match P.info? f.type with
      | some i => if i.size = 0 then none else some (ptrVal b (o + f.offset))
      | none => none
    | _, _ => none
  | _ => none

def aPart (P : Program) (t : TypeId) (cs : Array Value) (off : Nat) : Option Value :=
  match isAggT P t with
  | some true =>
    match P.info? t with
    | some i => if off + i.size ≤ cs.size then some (.agg (cs.extract off (off + i.size))) else none
    | none => none
  | some false => cs[off]?
  | none => none

def aField (P : Program) (t : TypeId) (x : Value) (f : Nat) : Option Value :=
  match P.underlying t, x with
  | some (.struct fields), .agg cs =>
    match fields[f]? with
    | some f => aPart P f.type cs f.offset
    | none => none
  | _, _ => none

def aIndexAddr (P : Program) (t : TypeId) (x i : Value) : Option Value :=
  match i with
  | .int _ i =>
    match P.underlying t, x with
    | some (.slice e), .slice (some ⟨b, o, some _⟩) len _ =>
      match P.info? e with
      | some e => if 0 ≤ i ∧ i < len then some (ptrVal b (o + i.toNat * e.size)) else none
      | none => none
    | some (.array len e), .pointer (some ⟨b, o, none⟩) =>
      match P.info? e with
      | some e => if 0 ≤ i ∧ i < len then some (ptrVal b (o + i.toNat * e.size)) else none
      | none => none
    | _, _ => none
  | _ => none

def aIndex (P : Program) (t : TypeId) (x i : Value) : Option Value :=
  match i with
  | .int _ i =>
    match P.underlying t, x with
    | some .string, .string s => if h : 0 ≤ i ∧ i.toNat < s.size then some (.int .u8 (s[i.toNat]'h.2).toNat) else none
    | some (.array len e), .agg cs =>
      match P.info? e with
      | some j => if 0 ≤ i ∧ i < len then aPart P e cs (i.toNat * j.size) else none
      | none => none
    | _, _ => none
  | _ => none

def optNat (y : Nat) : Option Value → Option Nat
  | none => some y
  | some (.int _ i) => if 0 ≤ i then some i.toNat else none
  | some _ => none

def aSlice (P : Program) (t : TypeId) (x : Value) (lo hi mx : Option Value) : Option Value :=
  match P.underlying t, x with
  | some .string, .string s =>
    match mx, optNat 0 lo, optNat s.size hi with
    | none, some l, some h => if l ≤ h ∧ h ≤ s.size then some (.string (s.extract l h)) else none
    | _, _, _ => none
  | some (.slice e), .slice none 0 c =>
    match mx, optNat 0 lo, optNat 0 hi, P.info? e with
    | none, some 0, some 0, some _ => some (.slice none 0 c)
    | _, _, _, _ => none
  | some (.slice e), .slice (some ⟨b, o, some z⟩) len c =>
    match P.info? e, optNat 0 lo, optNat len hi with
    | some e, some l, some h =>
      if e.size = z then
        match mx with
        | none => if l ≤ h ∧ h ≤ len then some (.slice (some ⟨b, o + l * z, some z⟩) (h - l) (c - l)) else none
        | some m =>
          match hi, optNat 0 (some m) with
          | some _, some m => if l ≤ h ∧ h ≤ m ∧ m ≤ len then some (.slice (some ⟨b, o + l * z, some z⟩) (h - l) (m - l + 1)) else none
          | _, _ => none
      else none
    | _, _, _ => none
  | _, _ => none

def isCmp : BinOp → Bool
  | .eql | .neq | .lss | .leq | .gtr | .geq => true
  | _ => false

/-- '==' with nil -/
def nilEq (P : Program) (t : TypeId) (x y : Value) : Option Bool :=
  match P.underlying t, x, y with
  | some (.pointer _), .pointer none, .pointer b => some b.isNone
  | some (.pointer _), .pointer (some _), .pointer none => some false
  | some (.slice _), .slice none _ _, .slice b _ _ => some b.isNone
  | some (.slice _), .slice (some _) _ _, .slice none _ _ => some false
  | some (.func _ _ _), .nilFunc, .nilFunc => some true
  | some (.func _ _ _), .nilFunc, .func _ _ _ => some false
  | some (.func _ _ _), .func _ _ _, .nilFunc => some false
  | some (.map _ _), .map none, .map b => some b.isNone
  | some (.map _ _), .map (some _), .map none => some false
  | some .bool, .bool a, .bool b => some (a == b)
  | _, _, _ => none

/-- '==' of two structs, all of whose fields are numbers, bools or strings in one cell each -/
def structEqF (P : Program) (xs ys : Array Value) : List Field → Option Bool
  | [] => some true
  | f :: fs =>
    if f.name = "_" then none else
    match P.underlying f.type, xs[f.offset]?, ys[f.offset]? with
    | some .bool, some (.bool a), some (.bool b) => if a == b then structEqF P xs ys fs else some false
    | some (.int _), some (.int k a), some (.int k' b) => if k = k' then (if a == b then structEqF P xs ys fs else some false) else none
    | some .string, some (.string a), some (.string b) => if a == b then structEqF P xs ys fs else some false
    | _, _, _ => none

def structEq (P : Program) (t : TypeId) (xs ys : Array Value) : Option Bool :=
  match P.underlying t with
  | some (.struct fields) =>
    if P.eqGuardType P.depth t || P.stoodInHeld t then none else structEqF P xs ys fields.toList
  | _ => none

def aBin (P : Program) (op : BinOp) (t : TypeId) (x y : Value) : Option Value :=
  match x, y with
  | .int k a, .int k' b => aPure (binOp op t (.int k a) (.int k' b))
  | .string a, .string b => aPure (binOp op t (.string a) (.string b))
  | .float k a, .float k' b => if isCmp op then aPure (binOp op t (.float k a) (.float k' b)) else none
  | .complex k a b, .complex k' c d =>
    if k = k' then
      match op with
      | .eql => some (.bool (Op.floatEq k a c && Op.floatEq k b d))
      | .neq => some (.bool (!(Op.floatEq k a c && Op.floatEq k b d)))
      | _ => none
    else none
  | .agg xs, .agg ys =>
    match op with
    | .eql => (structEq P t xs ys).map fun b => .bool b
    | .neq => (structEq P t xs ys).map fun b => .bool (!b)
    | _ => none
  | x, y =>
    match op with
    | .eql => (nilEq P t x y).map fun b => .bool b
    | .neq => (nilEq P t x y).map fun b => .bool (!b)
    | _ => none

def aUn (op : UnOp) (x : Value) : Option Value :=
  match x with
  | .int k n => aPure (Op.unary op (.int k n))
  | .bool b => aPure (Op.unary op (.bool b))
  | _ => none

def aConv (P : Program) (s d : TypeId) (x : Value) : Option Value :=
  match P.underlying s, P.underlying d, x with
  | some _, some (.int k), .int _ n => some (.int k (k.wrap n))
  | some _, some (.float k), .int _ n => aPure (Conv.intToFloat k n)
  | some _, some .string, .string b => some (.string b)
  | _, _, _ => none

def aBuiltin (P : Program) (b : Builtin) (ts : Array TypeId) (xs : Array Value) : Option Value :=
  match b, ts.toList, xs.toList with
  | .len, t :: _, x :: _ =>
    match P.underlying t, x with
    | some .string, .string s => some (.int .i64 s.size)
    | some (.slice _), .slice _ n _ => some (.int .i64 n)
    | _, _ => none
  | .min, _, [.int k x, .int k' y] => some (.int k (if y < x then y else x))
  | .max, _, [.int k x, .int k' y] => some (.int k (if y > x then y else x))
  | .complex, _, [.float k x, .float k' y] => if k = k' then some (.complex k x y) else none
  | .real, _, [.complex k x _] => some (.float k x)
  | .imag, _, [.complex k _ y] => some (.float k y)
  | _, _, _ => none

def known : Value → Bool
  | .chan _ => false
  | _ => true
def fillAll (place : Nat → Option (Nat × Nat)) (cells : Array Value) (parts : List (Nat × Value)) : Option (Array Value) :=
  if parts.all fun p => known p.2 then Instr.fill place cells parts else none

def aBuild (P : Program) (t : TypeId) (parts : List (Nat × Value)) : Option Value :=
  if t < P.types.size ∧ (parts.all fun p => known p.2) = true then (P.built t parts).map .agg else none

def aPureOp (P : Program) (op : Op) (ρ : Operand → Value) : Option Value :=
  match op with
  | .move x | .assign x => some (ρ x)
  | .pick c a b =>
    match ρ c with
    | .bool t => some (if t then ρ a else ρ b)
    | _ => none
  | .nilCheck x =>
    match ρ x with
    | .pointer (some a) => some (.pointer (some a))
    | .func (.func f) p q => some (.func (.func f) p q)
    | _ => none
  | .binOp b t x y _ => aBin P b t (ρ x) (ρ y)
  | .unOp u _ x => aUn u (ρ x)
  | .convert s d x => aConv P s d (ρ x)
  | .makeInterface t x =>
    match P.underlying t with
    | some (.interface _) => none
    | some _ => some (.iface t (ρ x))
    | none => none
  | .makeFunc fn first cap => some (.func fn (first.map ρ) (cap.map ρ))
  | .slice t x lo hi mx => aSlice P t (ρ x) (lo.map ρ) (hi.map ρ) (mx.map ρ)
  | .fieldAddr t x f => aFieldAddr P t (ρ x) f
  | .field t x f => aField P t (ρ x) f
  | .indexAddr t x i => aIndexAddr P t (ρ x) (ρ i)
  | .index t x i => aIndex P t (ρ x) (ρ i)
  | .extract x i =>
    match ρ x with
    | .tuple vs => vs[i]?
    | _ => none
  | .build t parts => aBuild P t (parts.toList.map fun p => (p.1, ρ p.2))
  | .call { callee := .builtin b, args, argTypes } => aBuiltin P b argTypes (args.map ρ)
  | _ => none

/-! ### Operations that read -/

def rdCells (σ : Heap) (b o n : Nat) : Option (Array Value) :=
  match row? σ b with
  | some r => if o + n ≤ r.cells.size then some (r.cells.extract o (o + n)) else none
  | none => none

def aLoad (P : Program) (t : TypeId) (p : Value) (σ : Heap) : Option Value :=
  match p with
  | .pointer (some ⟨b, o, none⟩) =>
    match isAggT P t with
    | some true =>
      match P.info? t with
      | some i => (rdCells σ b o i.size).map .agg
      | none => none
    | some false =>
      match row? σ b with
      | some r => r.cells[o]?
      | none => none
    | none => none
  | _ => none

/-- bytes, if they are -/
def bytesOf : List Value → Option (List UInt8)
  | [] => some []
  | .int .u8 n :: vs => (bytesOf vs).map (UInt8.ofNat n.toNat :: ·)
  | _ :: _ => none

/-- a type of the text's own -/
def tinfo (P : Program) (t : TypeId) : Option TypeInfo := if t < P.types.size then P.info? t else none
theorem tinfo_some {P : Program} {t : TypeId} {i : TypeInfo} (h : tinfo P t = some i) : P.info? t = some i := by
  unfold tinfo at h
  split at h
  · exact h
  · cases h

def aLookup (P : Program) (t : TypeId) (m k : Value) (ok : Bool) (σ : Heap) : Option Value :=
  match P.underlying t, m with
  | some (.map kt et), .map (some r) =>
    match map? σ r, P.underlying kt, tinfo P et with
    | some (es, _), some kd, some ei =>
      match kd, k with
      | .string, .string _ | .int _, .int _ _ =>
        match Instr.findNow kd k es.toList 0, ei.zero with
        | some (some (_, v)), _ => some (if ok then .tuple #[v, .bool true] else v)
        | some none, some z => some (if ok then .tuple #[z, .bool false] else z)
        | _, _ => none
      | _, _ => none
    | _, _, _ => none
  | _, _ => none

def aRead (P : Program) (op : Op) (vs : List Value) (σ : Heap) : Option Value :=
  match op, vs with
  | .load t _, [p] => aLoad P t p σ
  | .lookup t _ _ ok, [m, k] => aLookup P t m k ok σ
  | .convert s d _, [x] =>
    match P.underlying s, P.underlying d with
    | some (.slice e), some .string =>
      match P.underlying e, x with
      | some (.int .u8), .slice none 0 _ => some (.string ⟨#[]⟩)
      | some (.int .u8), .slice (some ⟨b, o, some _⟩) n _ =>
        match rdCells σ b o n with
        | some cs => (bytesOf cs.toList).map fun l => .string ⟨l.toArray⟩
        | none => none
      | _, _ => none
    | _, _ => none
  | .call { callee := .builtin .len, argTypes, .. }, [.map (some r)] =>
    match argTypes.toList with
    | t :: _ =>
      match P.underlying t, map? σ r with
      | some (.map _ _), some (es, _) => some (.int .i64 es.size)
      | _, _ => none
    | _ => none
  | _, _ => none

/-! ### Operations that make an object -/

def repeatCells (z : Array Value) (n : Nat) : Array Value := (Array.range n).map (z[· % z.size]!)

def aMake (P : Program) (op : Op) (ρ : Operand → Value) : Option (AObj × (Nat → Value)) :=
  match op with
  | .alloc t =>
    match tinfo P t with
    | some i =>
      match i.zero with
      | some z => some (.row ⟨z.cells, false⟩, fun b => ptrVal b 0)
      | none => none
    | none => none
  | .box t x => if (ρ x).cells.all okCell then some (.row ⟨(ρ x).cells, false⟩, fun b => ptrVal b 0) else none
  | .buildSlice t len parts =>
    match P.underlying t with
    | some (.slice e) =>
      match tinfo P e with
      | some i =>
        if len * i.size ≤ 2 ^ 24 then
          match i.zero with
          | some z =>
            match fillAll (fun j => some (j * i.size, i.size)) (repeatCells z.cells (len * i.size)) (parts.toList.map fun p => (p.1, ρ p.2)) with
            | some cs => if cs.all okCell then some (.row ⟨cs, false⟩, fun b => .slice (some ⟨b, 0, some i.size⟩) len (len + 1)) else none
            | none => none
          | none => none
        else none
      | none => none
    | _ => none
  | .makeSlice t l c =>
    match P.underlying t, ρ l, ρ c with
    | some (.slice e), .int .i64 n, .int .i64 m =>
      match tinfo P e with
      | some i =>
        match i.zero with
        | some z =>
          if n = m ∧ 0 ≤ n ∧ n * i.bytes ≤ 2 ^ 48 ∧ n < 2 ^ 63 then
            some (.row ⟨repeatCells z.cells (n.toNat * i.size), false⟩, fun b => .slice (some ⟨b, 0, some i.size⟩) n.toNat (n.toNat + 1))
          else none
        | none => none
      | none => none
    | _, _, _ => none
  | .makeMap t r =>
    match r.map ρ with
    | none => some (.map #[] 0, fun b => .map (some b))
    | some _ => none
  | .convert s d x =>
    match P.underlying s, P.underlying d, ρ x with
    | some .string, some (.slice e), .string s =>
      match P.underlying e with
      | some (.int .u8) => some (.row ⟨s.data.map fun b => .int .u8 b.toNat, false⟩, fun b => .slice (some ⟨b, 0, some 1⟩) s.size 0)
      | _ => none
    | _, _, _ => none
  | _ => none

/-! ### Operations that turn the heap -/

def aSetRow (σ : Heap) (b : Nat) (r : Row) : Heap := σ.setIfInBounds b (some (.row r))

def putCells (cs : Array Value) (o : Nat) : List Value → Array Value
  | [] => cs
  | v :: vs => putCells (cs.setIfInBounds o v) (o + 1) vs

def aStore (P : Program) (t : TypeId) (p v : Value) (σ : Heap) : Option Heap :=
  match p with
  | .pointer (some ⟨b, o, none⟩) =>
    match row? σ b, P.info? t with
    | some r, some i =>
      if v.cells.size = i.size ∧ v.cells.all okCell = true ∧ o + i.size ≤ r.cells.size ∧ r.ro = false then
        some (aSetRow σ b { r with cells := putCells r.cells o v.cells.toList })
      else none
    | _, _ => none
  | _ => none

/-- the cells of what is appended, and how many elements -/
def srcCells (x : Value) (size : Nat) (σ : Heap) : Option (Nat × Array Value) :=
  match x with
  | .slice none 0 _ => some (0, #[])
  | .slice (some ⟨b, o, some _⟩) n _ =>
    match rdCells σ b o (n * size) with
    | some cs => some (n, cs)
    | none => none
  | .string s => if size = 1 then some (s.size, s.data.map fun b => .int .u8 b.toNat) else none
  | _ => none

def aAppend (P : Program) (t : TypeId) (s x : Value) (σ : Heap) : Option (Value × Heap) :=
  match P.underlying t with
  | some (.slice e) =>
    match P.info? e with
    | some i =>
      match srcCells x i.size σ, i.zero with
      | some (m, news), some z =>
        if z.cells.size = i.size ∧ 0 < i.size ∧ news.size = m * i.size ∧ news.all okCell = true then
          match s with
          | .slice none 0 c =>
            if m = 0 then some (.slice none 0 c, σ)
            else if m * i.bytes ≤ 140737488355328 ∧ m < 9223372036854775807 then
              some (.slice (some ⟨σ.size, 0, some i.size⟩) m 0, σ.push (some (.row ⟨news, false⟩)))
            else none
          | .slice (some ⟨b, o, some zz⟩) n c =>
            match row? σ b with
            | some r =>
              if m = 0 then some (.slice (some ⟨b, o, some zz⟩) n c, σ)
              else if o + n * i.size ≤ r.cells.size ∧ zz = i.size ∧ (n + m) * i.bytes ≤ 140737488355328 ∧ n + m < 9223372036854775807 then
                if 0 < c ∧ c - 1 < n + m then
                  some (.slice (some ⟨σ.size, 0, some i.size⟩) (n + m) 0, σ.push (some (.row ⟨r.cells.extract o (o + n * i.size) ++ news, false⟩)))
                else if c = 0 ∧ r.ro = false then
                  some (.slice (some ⟨σ.size, 0, some i.size⟩) (n + m) 0, (σ.setIfInBounds b none).push (some (.row ⟨r.cells.extract o (o + n * i.size) ++ news, false⟩)))
                else none
              else none
            | none => none
          | _ => none
        else none
      | _, _ => none
    | none => none
  | _ => none

def aMapUpdate (P : Program) (t : TypeId) (m k v : Value) (σ : Heap) : Option Heap :=
  match P.underlying t, m with
  | some (.map kt _), .map (some r) =>
    match map? σ r, P.underlying kt with
    | some (es, c), some kd =>
      match kd, k with
      | .string, .string _ | .int _, .int _ _ =>
        match Instr.findNow kd k es.toList 0 with
        | some (some (i, _)) => some (σ.setIfInBounds r (some (.map (es.modify i fun e => { e with key := k, val := v }) c)))
        | some none => some (σ.setIfInBounds r (some (.map (es.push { key := k, val := v, born := c }) (c + 1))))
        | none => none
      | _, _ => none
    | _, _ => none
  | _, _ => none

def aDelete (P : Program) (t : TypeId) (m k : Value) (σ : Heap) : Option Heap :=
  match P.underlying t, m with
  | some (.map kt _), .map (some r) =>
    match map? σ r, P.underlying kt with
    | some (es, c), some kd =>
      match kd, k with
      | .string, .string _ | .int _, .int _ _ =>
        match Instr.findNow kd k es.toList 0 with
        | some (some (i, _)) => some (σ.setIfInBounds r (some (.map (es.eraseIdxIfInBounds i) c)))
        | some none => some σ
        | none => none
      | _, _ => none
    | _, _ => none
  | _, _ => none

abbrev CallFn := FuncId → Array Value → Heap → Option (Value × Heap)

def aEff (P : Program) (call : CallFn) (op : Op) (ρ : Operand → Value) (σ : Heap) : Option (Value × Heap) :=
  match op with
  | .store t a v => (aStore P t (ρ a) (ρ v) σ).map fun σ' => (undef, σ')
  | .mapUpdate t m k v => (aMapUpdate P t (ρ m) (ρ k) (ρ v) σ).map fun σ' => (undef, σ')
  | .call { callee := .builtin .append, args, argTypes } =>
    match argTypes.toList, args.toList with
    | [t, t'], [s, x] =>
      match P.underlying t', ρ x with
      | some (.slice _), .slice a b c => aAppend P t (ρ s) (.slice a b c) σ
      | some .string, .string b => aAppend P t (ρ s) (.string b) σ
      | _, _ => none
    | _, _ => none
  | .call { callee := .builtin .delete, args, argTypes } =>
    match argTypes.toList, args.toList with
    | t :: _, [m, k] => (aDelete P t (ρ m) (ρ k) σ).map fun σ' => (.tuple #[], σ')
    | _, _ => none
  | .call { callee := .value f, args, .. } =>
    match ρ f with
    | .func (.func f) first cap => call f (first ++ args.map ρ ++ cap) σ
    | _ => none
  | _ => none

/-! ### Kinds of operations -/

inductive Cls where
  | pure | read | make | eff
  deriving DecidableEq

def cls (P : Program) (op : Op) : Cls :=
  match op with
  | .load _ _ | .lookup _ _ _ _ => .read
  | .convert s d _ =>
    match P.underlying s, P.underlying d with
    | some (.slice _), some .string => .read
    | some .string, some (.slice _) => .make
    | _, _ => .pure
  | .alloc _ | .box _ _ | .buildSlice _ _ _ | .makeSlice _ _ _ | .makeMap _ _ => .make
  | .call { callee := .builtin .len, argTypes, .. } =>
    match argTypes.toList with
    | t :: _ => match P.underlying t with | some (.map _ _) => .read | _ => .pure
    | _ => .pure
  | .call { callee := .builtin .min, .. } | .call { callee := .builtin .max, .. } | .call { callee := .builtin .complex, .. }
  | .call { callee := .builtin .real, .. } | .call { callee := .builtin .imag, .. } => .pure
  | .call _ | .store _ _ _ | .mapUpdate _ _ _ _ => .eff
  | .move _ | .assign _ | .pick _ _ _ | .nilCheck _ | .binOp _ _ _ _ _ | .unOp _ _ _ | .makeInterface _ _ | .makeFunc _ _ _
  | .slice _ _ _ _ _ | .fieldAddr _ _ _ | .field _ _ _ | .indexAddr _ _ _ | .index _ _ _ | .extract _ _ | .build _ _ => .pure
  | _ => .eff

/-- a value that stands for itself -/
def plainV : Value → Bool
  | .bool _ | .int _ _ | .string _ | .float _ _ | .complex _ _ _ | .nilFunc | .nilIface | .pointer none | .slice none 0 0 | .map none => true
  | _ => false

def ev (T : Array Value) : Operand → Value
  | .tmp t => T.getD t undef
  | .const v => bif plainV v then v else unk
  | .global _ => unk
  | .func f => .func (.func f) #[] #[]

def putT (T : Array Value) (d : Option Tmp) (v : Value) : Array Value :=
  match d with
  | some d => T.setIfInBounds d v
  | none => T

def aWanted (ops : Array Oper) (T : Array Value) (o : Oper) : Option Bool :=
  match o.guard with
  | none => some true
  | some (j, want) =>
    match (ops[j]?).bind (·.dst) with
    | none => none
    | some d =>
      match T[d]? with
      | some (.bool b) => some (b == want)
      | some (.tuple vs) => if vs.size = 0 then some false else none
      | _ => none

/-- one operation, in the order of the text -/
def aOp (P : Program) (call : CallFn) (o : Oper) (T : Array Value) (σ : Heap) : Option (Value × Heap) :=
  match cls P o.op with
  | .pure => (aPureOp P o.op (ev T)).map fun v => (v, σ)
  | .read => (aRead P o.op (o.op.operands.toList.map (ev T)) σ).map fun v => (v, σ)
  | .make => (aMake P o.op (ev T)).map fun m => (m.2 σ.size, σ.push (some m.1))
  | .eff => aEff P call o.op (ev T) σ

def aOps (P : Program) (call : CallFn) (ops : Array Oper) : List Oper → Array Value → Heap → Option (Array Value × Heap)
  | [], T, σ => some (T, σ)
  | o :: os, T, σ =>
    match aWanted ops T o with
    | some true =>
      match aOp P call o T σ with
      | some (v, σ') => aOps P call ops os (putT T o.dst v) σ'
      | none => none
    | some false => aOps P call ops os (putT T o.dst undef) σ
    | none => none
end Go.Abs
