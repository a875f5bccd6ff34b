/-
  The deterministic semantics of regions whose order is open, of code, and of functions.
-/
import Derived.Test.YthnkdbjeefemoaaGreatAbsSem
set_option linter.unusedVariables false
namespace Go.Abs
open Go

/-! ### Equality of values, as far as it is asked -/
def vcell : Value → Value → Bool
  | .bool a, .bool b => a == b
  | .int j a, .int k b => decide (j = k) && decide (a = b)
  | .string a, .string b => decide (a = b)
  | .pointer a, .pointer b => decide (a = b)
  | .slice a m c, .slice b n d => decide (a = b) && decide (m = n) && decide (c = d)
  | .map a, .map b => decide (a = b)
  | .nilFunc, .nilFunc => true
  | .nilIface, .nilIface => true
  | .float j a, .float k b => decide (j = k) && decide (a = b)
  | .complex j a c, .complex k b d => decide (j = k) && decide (a = b) && decide (c = d)
  | _, _ => false

def vcells : List Value → List Value → Bool
  | [], [] => true
  | a :: as, b :: bs => vcell a b && vcells as bs
  | _, _ => false

def veq : Value → Value → Bool
  | .agg a, .agg b => vcells a.toList b.toList
  | .tuple a, .tuple b => vcells a.toList b.toList
  | a, b => vcell a b

theorem vcell_eq {a b : Value} (h : vcell a b = true) : a = b := by
  cases a <;> cases b <;> simp_all [vcell]
theorem vcells_eq : ∀ {a b : List Value}, vcells a b = true → a = b
  | [], [], _ => rfl
  | a :: as, b :: bs, h => by
    simp only [vcells, Bool.and_eq_true] at h
    rw [vcell_eq h.1, vcells_eq h.2]
  | [], _ :: _, h => by simp [vcells] at h
  | _ :: _, [], h => by simp [vcells] at h
theorem veq_eq {a b : Value} (h : veq a b = true) : a = b := by
  unfold veq at h
  split at h
  · rename_i a b; have := vcells_eq h; cases a; cases b; simp_all
  · rename_i a b; have := vcells_eq h; cases a; cases b; simp_all
  · exact vcell_eq h

/-! ### A region whose order is open -/
structure DSt where
  T : Array Value
  σ : Heap
  log : Array (Option (List Value × Value))

def directs (o : Oper) : List Nat := (o.after.toList.filter (Region.binds .any)).map (·.on)

/-- what the order of a region is judged by: for each operation those that stand ahead of it whatever the order -/
def isBefore (pre : Array Nat) (i j : Nat) : Bool := (pre.getD j 0).testBit i

def opAt (ops : Array Oper) (i : Nat) : Oper := ops.getD i default
def clsAt (P : Program) (ops : Array Oper) (i : Nat) : Cls := cls P (opAt ops i).op

def slotOf (P : Program) (ops : Array Oper) (i : Nat) : Nat := ((List.range i).filter fun j => decide (clsAt P ops j = .make)).length
def nMake (P : Program) (ops : Array Oper) : Nat := slotOf P ops ops.size

def masks (P : Program) (ops : Array Oper) (pre : Array Nat) (base i : Nat) : List Nat :=
  ((List.range ops.size).filter fun j => decide (clsAt P ops j = .make) && !isBefore pre j i).map fun j => base + slotOf P ops j

def mask (σ : Heap) : List Nat → Heap
  | [] => σ
  | s :: ss => mask (σ.setIfInBounds s none) ss
def unmask (σ0 τ : Heap) : List Nat → Heap
  | [] => τ
  | s :: ss => unmask σ0 (τ.setIfInBounds s (σ0.getD s none)) ss

def chkRead (P : Program) (op : Op) (vs : List Value) (σ : Heap) (v : Value) : Bool :=
  match aRead P op vs σ with
  | some u => veq u v
  | none => false

/-- reads that may as well stand behind operation i: they'd read the same there -/
def chkReads (P : Program) (ops : Array Oper) (pre : Array Nat) (base i : Nat) (log : Array (Option (List Value × Value))) (τ : Heap) : List Nat → Bool
  | [] => true
  | j :: js =>
    (match log.getD j none with
     | some (vs, v) => isBefore pre j i || chkRead P (opAt ops j).op vs (mask τ (masks P ops pre base j)) v
     | none => true) && chkReads P ops pre base i log τ js

def dStep (P : Program) (call : CallFn) (ops : Array Oper) (pre : Array Nat) (base i : Nat) (s : DSt) : Option DSt :=
  match aWanted ops s.T (opAt ops i) with
  | none => none
  | some false => some { s with T := putT s.T (opAt ops i).dst undef }
  | some true =>
    match clsAt P ops i with
    | .pure => (aPureOp P (opAt ops i).op (ev s.T)).map fun v => { s with T := putT s.T (opAt ops i).dst v }
    | .read =>
      (aRead P (opAt ops i).op ((opAt ops i).op.operands.toList.map (ev s.T)) (mask s.σ (masks P ops pre base i))).map fun v =>
        { s with T := putT s.T (opAt ops i).dst v, log := s.log.setIfInBounds i (some ((opAt ops i).op.operands.toList.map (ev s.T), v)) }
    | .make =>
      match aMake P (opAt ops i).op (ev s.T), s.σ[base + slotOf P ops i]? with
      | some m, some none => some { s with T := putT s.T (opAt ops i).dst (m.2 (base + slotOf P ops i)), σ := s.σ.setIfInBounds (base + slotOf P ops i) (some m.1) }
      | _, _ => none
    | .eff =>
      match aEff P call (opAt ops i).op (ev s.T) (mask s.σ (masks P ops pre base i)) with
      | some (v, τ) =>
        if s.σ.size ≤ τ.size ∧ chkReads P ops pre base i s.log (unmask s.σ τ (masks P ops pre base i)) (List.range ops.size) = true then
          some { s with T := putT s.T (opAt ops i).dst v, σ := unmask s.σ τ (masks P ops pre base i) }
        else none
      | none => none

def dSteps (P : Program) (call : CallFn) (ops : Array Oper) (pre : Array Nat) (base : Nat) : List Nat → DSt → Option DSt
  | [], s => some s
  | i :: is, s =>
    match dStep P call ops pre base i s with
    | some s' => dSteps P call ops pre base is s'
    | none => none

def lev (P : Program) (ops : Array Oper) (pre : Array Nat) (i : Nat) : Nat :=
  ((List.range ops.size).filter fun j => decide (clsAt P ops j = .eff) && isBefore pre j i).length
def eager (P : Program) (ops : Array Oper) (pre : Array Nat) : List Nat :=
  (List.range (ops.size + 1)).flatMap fun k =>
    ((List.range ops.size).filter fun i => decide (clsAt P ops i ≠ .eff) && decide (lev P ops pre i = k)) ++
    ((List.range ops.size).filter fun i => decide (clsAt P ops i = .eff) && decide (lev P ops pre i = k))

def pairOk (P : Program) (ops : Array Oper) (pre : Array Nat) (x y : Nat) : Bool :=
  !isBefore pre y x && (isBefore pre x y || (Oper.apart ops (opAt ops x) (opAt ops y) && (decide (clsAt P ops x ≠ .eff) || decide (clsAt P ops y = .pure))))
def pairsOk (P : Program) (ops : Array Oper) (pre : Array Nat) : List Nat → Bool
  | [] => true
  | x :: ys => decide (x < ops.size) && ys.all (fun y => x != y && pairOk P ops pre x y) && pairsOk P ops pre ys
def preOk (ops : Array Oper) (pre : Array Nat) : Bool :=
  (List.range ops.size).all fun i =>
    (directs (opAt ops i)).all (fun d => decide (d < ops.size) && isBefore pre d i && d != i) &&
    (List.range ops.size).all fun x => !isBefore pre x i || (directs (opAt ops i)).any fun d => d == x || isBefore pre x d
def ordOk (P : Program) (ops : Array Oper) (pre : Array Nat) (ord : List Nat) : Bool :=
  decide (ord.length = ops.size) && pairsOk P ops pre ord && preOk ops pre && (List.range ops.size).all fun j => ord.contains j

def reserve (σ : Heap) : Nat → Heap
  | 0 => σ
  | k + 1 => reserve (σ.push none) k

def aDrawn (P : Program) (call : CallFn) (ops : Array Oper) (T : Array Value) (σ : Heap) : Option (Array Value × Heap) :=
  if ordOk P ops (Region.before ops) (eager P ops (Region.before ops)) then
    match dSteps P call ops (Region.before ops) σ.size (eager P ops (Region.before ops))
      ⟨T, reserve σ (nMake P ops), Array.replicate ops.size none⟩ with
    | some s => some (s.T, s.σ)
    | none => none
  else none

/-! ### Code -/
inductive AExit where
  | normal
  | exit (id : Nat)
  | goto (l : Nat)
  | ret
  deriving DecidableEq

def restrict (L : List Nat) (T : Array Value) : Array Value :=
  L.foldl (fun T' t => T'.setIfInBounds t (T.getD t undef)) (Array.replicate T.size unk)

abbrev Body := Array Value → Heap → Option (AExit × Array Value × Heap)

def aLoop (f : Body) (L : List Nat) : Nat → Body
  | 0, _, _ => none
  | n + 1, T, σ =>
    match f (restrict L T) σ with
    | some (.normal, T', σ') => aLoop f L n T' σ'
    | r => r

def hasLabel : Code → Nat → Bool
  | .seq a b, l => hasLabel a l || hasLabel b l
  | .label l', l => l' == l
  | _, _ => false

def aScope (f : Option Nat → Body) : Nat → Option Nat → Body
  | 0, _, _, _ => none
  | n + 1, s, T, σ =>
    match f s T σ with
    | some (.goto l, T', σ') => aScope f n (some l) T' σ'
    | r => r

def firstRegion : Code → Nat
  | .region id _ _ => id
  | .seq a _ => firstRegion a
  | .block _ a => firstRegion a
  | .loop a => firstRegion a
  | .scope a => firstRegion a
  | _ => 0

/-- Which variables of the machine live at a loop's head, and which behind it. -/
abbrev Keep := Nat → Option (List Nat × List Nat)

def aCode (P : Program) (call : CallFn) (keep : Keep) (n : Nat) : Code → Option Nat → Body
  | .region id ops draw, none, T, σ =>
    match (if draw then aDrawn P call ops T σ else aOps P call ops ops.toList T σ) with
    | some (T', σ') => some (.normal, T', σ')
    | none => none
  | .skip, none, T, σ => some (.normal, T, σ)
  | .label l, none, T, σ => some (.normal, T, σ)
  | .label l, some l', T, σ => if l = l' then some (.normal, T, σ) else none
  | .seq a b, none, T, σ =>
    match aCode P call keep n a none T σ with
    | some (.normal, T', σ') => aCode P call keep n b none T' σ'
    | r => r
  | .seq a b, some l, T, σ =>
    if hasLabel a l then
      match aCode P call keep n a (some l) T σ with
      | some (.normal, T', σ') => aCode P call keep n b none T' σ'
      | r => r
    else aCode P call keep n b (some l) T σ
  | .cond c x y, none, T, σ =>
    match ev T c with
    | .bool t => bif t then aCode P call keep n x none T σ else aCode P call keep n y none T σ
    | _ => none
  | .block id c, none, T, σ =>
    match aCode P call keep n c none T σ with
    | some (.exit i, T', σ') => if i = id then some (.normal, T', σ') else some (.exit i, T', σ')
    | r => r
  | .loop c, none, T, σ =>
    match keep (firstRegion c) with
    | some (L, L') =>
      match aLoop (fun T σ => aCode P call keep n c none T σ) L n T σ with
      | some (e, T', σ') => some (e, restrict L' T', σ')
      | none => none
    | none => none
  | .scope c, none, T, σ => aScope (fun s T σ => aCode P call keep n c s T σ) n none T σ
  | .exit id, none, T, σ => some (.exit id, T, σ)
  | .goto l, none, T, σ => some (.goto l, T, σ)
  | .ret, none, T, σ => some (.ret, T, σ)
  | _, _, _, _ => none

def aResult (P : Program) (T : Array Value) (σ : Heap) : ResultVar → Option Value
  | .tmp t => some (T.getD t undef)
  | .cell a t => aLoad P t (T.getD a undef) σ
def aResultL (P : Program) (T : Array Value) (σ : Heap) : List ResultVar → Option (List Value)
  | [] => some []
  | r :: rs =>
    match aResult P T σ r, aResultL P T σ rs with
    | some v, some vs => some (v :: vs)
    | _, _ => none
def aResults (P : Program) (fn : Func) (T : Array Value) (σ : Heap) : Option Value :=
  match aResultL P T σ fn.results.toList with
  | some [v] => some v
  | some vs => some (.tuple vs.toArray)
  | none => none

abbrev PrimFn := Array Value → Heap → Option (Value × Heap)

def aBody (P : Program) (call : CallFn) (keep : Keep) (n : Nat) (fn : Func) (args : Array Value) (σ : Heap) : Option (Value × Heap) :=
  match fn.body with
  | some c =>
    match aCode P call keep n c none (args ++ Array.replicate (fn.ntmps - args.size) undef) σ with
    | some (.normal, T, σ') => (aResults P fn T σ').map fun v => (v, σ')
    | some (.ret, T, σ') => (aResults P fn T σ').map fun v => (v, σ')
    | _ => none
  | none => none

def aFunc (P : Program) (prim : FuncId → Option PrimFn) (keep : FuncId → Keep) : Nat → CallFn
  | 0, _, _, _ => none
  | n + 1, f, args, σ =>
    match prim f with
    | some p => p args σ
    | none =>
      match P.funcs[f]? with
      | some fn => aBody P (aFunc P prim keep n) (keep f) n fn args σ
      | none => none
end Go.Abs
