/-
  The deterministic semantics once more, in a form that simp carries out: variables as a function, what follows as a continuation.
-/
import Derived.Test.YthnkdbjeefemoaaGreatAbsCode
set_option linter.unusedVariables false
set_option linter.unusedSimpArgs false
namespace Go.Abs
open Go Go.RowKit

abbrev Env := Nat → Value
/-- variable d is set, if there is one -/
def upd (m : Nat) (ρ : Env) (d : Nat) (v : Value) : Env := fun t => if t = d ∧ d < m then v else ρ t
def updO (m : Nat) (ρ : Env) (d : Option Nat) (v : Value) : Env :=
  match d with
  | some d => upd m ρ d v
  | none => ρ
def evE (ρ : Env) : Operand → Value
  | .tmp t => ρ t
  | .const v => bif plainV v then v else unk
  | .global _ => unk
  | .func f => .func (.func f) #[] #[]

/-- first x; what follows is looked at when x is known -/
def bindK {α β : Type} (x : Option α) (f : α → Option β) : Option β := x.bind f
theorem bindK_congr {α β : Type} {x y : Option α} {f : α → Option β} (h : x = y) : bindK x f = bindK y f := by rw [h]
theorem bindK_some {α β : Type} (x : α) (f : α → Option β) : bindK (some x) f = f x := rfl
theorem bindK_none {α β : Type} (f : α → Option β) : bindK (none : Option α) f = none := rfl
/-- a test; the ways are looked at when it is known -/
def ifK {β : Type} (b : Bool) (x y : Option β) : Option β := bif b then x else y
theorem ifK_congr {β : Type} {b c : Bool} {x y : Option β} (h : b = c) : ifK b x y = ifK c x y := by rw [h]
theorem ifK_true {β : Type} (x y : Option β) : ifK true x y = x := rfl
theorem ifK_false {β : Type} (x y : Option β) : ifK false x y = y := rfl

/-- whether an operation is wanted: (.inl: known from the text) -/
def guardK {β : Type} (m : Nat) (ops : Array Oper) (ρ : Env) (o : Oper) (x y : Option β) : Option β :=
  match o.guard with
  | none => x
  | some (j, want) =>
    match (ops[j]?).bind (·.dst) with
    | none => none
    | some d =>
      bif decide (d < m) then
        match ρ d with
        | .bool b => ifK (b == want) x y
        | .tuple vs => ifK (decide (vs.size = 0)) y none
        | _ => none
      else none

variable (P : Program) (call : CallFn)

def kOp {α : Type} (o : Oper) (ρ : Env) (σ : Heap) (K : Value → Heap → Option α) : Option α :=
  match cls P o.op with
  | .pure => bindK (aPureOp P o.op (evE ρ)) fun v => K v σ
  | .read => bindK (aRead P o.op (o.op.operands.toList.map (evE ρ)) σ) fun v => K v σ
  | .make => bindK (aMake P o.op (evE ρ)) fun m => K (m.2 σ.size) (σ.push (some m.1))
  | .eff => bindK (aEff P call o.op (evE ρ) σ) fun r => K r.1 r.2

def kOps {α : Type} (m : Nat) (ops : Array Oper) : List Oper → Env → Heap → (Env → Heap → Option α) → Option α
  | [], ρ, σ, K => K ρ σ
  | o :: os, ρ, σ, K => guardK m ops ρ o (kOp P call o ρ σ fun v σ' => kOps m ops os (updO m ρ o.dst v) σ' K) (kOps m ops os (updO m ρ o.dst undef) σ K)

def toT (m : Nat) (ρ : Env) : Array Value := (Array.range m).map ρ
def ofT (T : Array Value) : Env := fun t => T.getD t undef

def restrictE (m : Nat) (L : List Nat) (ρ : Env) : Env := L.foldl (fun ρ' t => upd m ρ' t (ρ t)) fun t => if t < m then unk else undef

abbrev BodyE := Env → Heap → Option (AExit × Env × Heap)
def loopE (m : Nat) (f : BodyE) (L : List Nat) : Nat → BodyE
  | 0, _, _ => none
  | n + 1, ρ, σ =>
    match f (restrictE m L ρ) σ with
    | some (.normal, ρ', σ') => loopE m f L n ρ' σ'
    | r => r
def scopeE (f : Option Nat → BodyE) : Nat → Option Nat → BodyE
  | 0, _, _, _ => none
  | n + 1, s, ρ, σ =>
    match f s ρ σ with
    | some (.goto l, ρ', σ') => scopeE f n (some l) ρ' σ'
    | r => r

def kCode (keep : Keep) (n m : Nat) : Code → Option Nat → {α : Type} → Env → Heap → (AExit → Env → Heap → Option α) → Option α
  | .region id ops draw, none, _, ρ, σ, K =>
    bif draw then bindK (aDrawn P call ops (toT m ρ) σ) fun r => K .normal (ofT r.1) r.2 else kOps P call m ops ops.toList ρ σ (K .normal)
  | .skip, none, _, ρ, σ, K => K .normal ρ σ
  | .label l, none, _, ρ, σ, K => K .normal ρ σ
  | .label l, some l', _, ρ, σ, K => if l = l' then K .normal ρ σ else none
  | .seq a b, none, _, ρ, σ, K =>
    kCode keep n m a none ρ σ fun e ρ' σ' =>
      match e with
      | .normal => kCode keep n m b none ρ' σ' K
      | e => K e ρ' σ'
  | .seq a b, some l, _, ρ, σ, K =>
    bif hasLabel a l then
      kCode keep n m a (some l) ρ σ fun e ρ' σ' =>
        match e with
        | .normal => kCode keep n m b none ρ' σ' K
        | e => K e ρ' σ'
    else kCode keep n m b (some l) ρ σ K
  | .cond c x y, none, _, ρ, σ, K =>
    match evE ρ c with
    | .bool t => ifK t (kCode keep n m x none ρ σ K) (kCode keep n m y none ρ σ K)
    | _ => none
  | .block id c, none, _, ρ, σ, K =>
    kCode keep n m c none ρ σ fun e ρ' σ' =>
      match e with
      | .exit i => bif decide (i = id) then K .normal ρ' σ' else K (.exit i) ρ' σ'
      | e => K e ρ' σ'
  | .loop c, none, _, ρ, σ, K =>
    match keep (firstRegion c) with
    | some (L, L') => bindK (loopE m (fun ρ σ => kCode keep n m c none ρ σ fun e ρ σ => some (e, ρ, σ)) L n ρ σ) fun r => K r.1 (restrictE m L' r.2.1) r.2.2
    | none => none
  | .scope c, none, _, ρ, σ, K => bindK (scopeE (fun s ρ σ => kCode keep n m c s ρ σ fun e ρ σ => some (e, ρ, σ)) n none ρ σ) fun r => K r.1 r.2.1 r.2.2
  | .exit id, none, _, ρ, σ, K => K (.exit id) ρ σ
  | .goto l, none, _, ρ, σ, K => K (.goto l) ρ σ
  | .ret, none, _, ρ, σ, K => K .ret ρ σ
  | _, _, _, _, _, _ => none

def kResults (fn : Func) (ρ : Env) (σ : Heap) : List ResultVar → List Value → Option (Value × Heap)
  | [], [v] => some (v, σ)
  | [], vs => some (.tuple vs.toArray, σ)
  | .tmp t :: rs, vs => kResults fn ρ σ rs (vs ++ [ρ t])
  | .cell a t :: rs, vs => bindK (aLoad P t (ρ a) σ) fun v => kResults fn ρ σ rs (vs ++ [v])

def argEnv (args : List Value) (m : Nat) : Env := fun t => (args[t]?).getD undef

def kBody (keep : Keep) (n : Nat) (fn : Func) (args : List Value) (σ : Heap) : Option (Value × Heap) :=
  match fn.body with
  | some c =>
    kCode P call keep n fn.ntmps c none (argEnv args fn.ntmps) σ fun e ρ σ' =>
      match e with
      | .normal => kResults P fn ρ σ' fn.results.toList []
      | .ret => kResults P fn ρ σ' fn.results.toList []
      | _ => none
  | none => none

/-! ### It is the same -/
variable {P call}

theorem upd_ofT (T : Array Value) (d : Nat) (v : Value) : upd T.size (ofT T) d v = ofT (T.setIfInBounds d v) := by
  funext t
  unfold upd ofT
  simp only [Array.getD_eq_getD_getElem?, Array.getElem?_setIfInBounds]
  by_cases h : t = d
  · subst h
    by_cases h2 : t < T.size
    · simp [h2]
    · simp [h2]
  · rw [if_neg (by simp [h]), if_neg (Ne.symm h)]
theorem updO_ofT (T : Array Value) (d : Option Nat) (v : Value) : updO T.size (ofT T) d v = ofT (putT T d v) := by
  cases d with
  | none => rfl
  | some d => exact upd_ofT T d v
theorem toT_ofT (T : Array Value) : toT T.size (ofT T) = T := by
  apply Array.ext
  · simp [toT]
  · intro i h1 h2
    simp [toT, ofT, h2]
theorem evE_ofT (T : Array Value) : evE (ofT T) = ev T := by
  funext x
  cases x <;> rfl
theorem guardK_eq {β : Type} (ops : Array Oper) (T : Array Value) (o : Oper) (x y : Option β) :
    guardK T.size ops (ofT T) o x y = match aWanted ops T o with | some true => x | some false => y | none => none := by
  unfold guardK aWanted
  cases o.guard with
  | none => rfl
  | some g =>
    obtain ⟨j, want⟩ := g
    simp only
    cases (ops[j]?).bind (·.dst) with
    | none => rfl
    | some d =>
      simp only
      rcases Nat.lt_or_ge d T.size with h | h
      · have : ofT T d = T[d] := by simp [ofT, h]
        rw [this, Array.getElem?_eq_getElem h]
        simp only [h, decide_true, cond_true]
        cases T[d] with
        | bool b => cases b <;> cases want <;> rfl
        | tuple vs =>
          simp only [ifK]
          by_cases hv : vs.size = 0
          · simp only [hv, decide_true, cond_true, if_true]
          · simp only [hv, decide_false, cond_false, if_false]
        | _ => rfl
      · rw [Array.getElem?_eq_none h]
        have : ¬ d < T.size := Nat.not_lt.2 h
        simp [this]

theorem kOp_eq {α : Type} (o : Oper) (T : Array Value) (σ : Heap) (K : Value → Heap → Option α) : kOp P call o (ofT T) σ K = (aOp P call o T σ).bind fun r => K r.1 r.2 := by
  unfold kOp aOp
  rw [evE_ofT]
  cases cls P o.op with
  | pure => cases aPureOp P o.op (ev T) <;> rfl
  | read => simp only; cases aRead P o.op (o.op.operands.toList.map (ev T)) σ <;> rfl
  | make => cases aMake P o.op (ev T) <;> rfl
  | eff => rfl

theorem kOps_eq {α : Type} (ops : Array Oper) (m : Nat) : ∀ (l : List Oper) (T : Array Value) (σ : Heap) (K : Env → Heap → Option α), T.size = m →
    kOps P call m ops l (ofT T) σ K = (aOps P call ops l T σ).bind fun r => K (ofT r.1) r.2
  | [], T, σ, K, _ => rfl
  | o :: os, T, σ, K, hm => by
    subst hm
    simp only [kOps, aOps]
    rw [guardK_eq, kOp_eq]
    cases aWanted ops T o with
    | none => rfl
    | some b =>
      cases b with
      | false =>
        simp only
        rw [updO_ofT]
        exact kOps_eq ops _ os _ σ K (putT_size _ _ _)
      | true =>
        simp only
        cases aOp P call o T σ with
        | none => rfl
        | some r =>
          obtain ⟨v, σ'⟩ := r
          simp only [Option.bind_some]
          rw [updO_ofT]
          exact kOps_eq ops _ os _ σ' K (putT_size _ _ _)
theorem aOps_size (ops : Array Oper) : ∀ (l : List Oper) (T T' : Array Value) (σ σ' : Heap), aOps P call ops l T σ = some (T', σ') → T'.size = T.size
  | [], T, T', σ, σ', h => by simp only [aOps, Option.some.injEq, Prod.mk.injEq] at h; rw [h.1]
  | o :: os, T, T', σ, σ', h => by
    simp only [aOps] at h
    split at h
    · split at h
      · rw [aOps_size ops os _ _ _ _ h, putT_size]
      · cases h
    · rw [aOps_size ops os _ _ _ _ h, putT_size]
    · cases h
theorem dSteps_size {ops : Array Oper} {pre : Array Nat} {base : Nat} : ∀ (l : List Nat) (s f : DSt), dSteps P call ops pre base l s = some f → f.T.size = s.T.size
  | [], s, f, h => by simp only [dSteps, Option.some.injEq] at h; rw [h]
  | i :: is, s, f, h => by
    simp only [dSteps] at h
    split at h
    · rename_i s1 h1
      rw [dSteps_size is s1 f h]
      rw [dStep_eq] at h1
      simp only [Option.map_eq_some_iff] at h1
      obtain ⟨x, _, rfl⟩ := h1
      exact putT_size _ _ _
    · cases h
theorem aDrawn_size {ops : Array Oper} {T T' : Array Value} {σ σ' : Heap} (h : aDrawn P call ops T σ = some (T', σ')) : T'.size = T.size := by
  unfold aDrawn at h
  split at h
  · split at h
    · rename_i s hs
      simp only [Option.some.injEq, Prod.mk.injEq] at h
      rw [← h.1, dSteps_size _ _ _ hs]
    · cases h
  · cases h

theorem restrict_size (L : List Nat) (T : Array Value) : (restrict L T).size = T.size := by
  unfold restrict
  have : ∀ (L : List Nat) (A : Array Value), (L.foldl (fun A t => A.setIfInBounds t (T.getD t undef)) A).size = A.size := by
    intro L
    induction L with
    | nil => intro A; rfl
    | cons t L ih => intro A; rw [List.foldl_cons, ih]; simp
  rw [this]; simp
theorem restrictE_eq (L : List Nat) (T : Array Value) : restrictE T.size L (ofT T) = ofT (restrict L T) := by
  unfold restrictE restrict
  have key : ∀ (L : List Nat) (A : Array Value), A.size = T.size → L.foldl (fun ρ' t => upd T.size ρ' t (ofT T t)) (ofT A) = ofT (L.foldl (fun A t => A.setIfInBounds t (T.getD t undef)) A) := by
    intro L
    induction L with
    | nil => intro A _; rfl
    | cons t L ih =>
      intro A hA
      simp only [List.foldl_cons]
      rw [← hA, upd_ofT, hA]
      exact ih _ (by simp [hA])
  have : (fun t => if t < T.size then unk else undef : Env) = ofT (Array.replicate T.size unk) := by
    funext t
    simp only [ofT, Array.getD_eq_getD_getElem?, Array.getElem?_replicate]
    split <;> rfl
  rw [this]
  exact key L _ (by simp)

/-- a continuation put behind -/
def after {β : Type} (r : Option (AExit × Array Value × Heap)) (K : AExit → Env → Heap → Option β) : Option β := r.bind fun x => K x.1 (ofT x.2.1) x.2.2

theorem loopE_eq {f : BodyE} {g : Body} {m : Nat} (hf : ∀ T σ, T.size = m → f (ofT T) σ = after (g T σ) fun e ρ σ => some (e, ρ, σ)) (hg : ∀ T σ e T' σ', g T σ = some (e, T', σ') → T'.size = T.size) {L : List Nat} :
    ∀ (n : Nat) (T : Array Value) (σ : Heap), T.size = m → loopE m f L n (ofT T) σ = after (aLoop g L n T σ) fun e ρ σ => some (e, ρ, σ)
  | 0, T, σ, _ => rfl
  | n + 1, T, σ, hm => by
    simp only [loopE, aLoop]
    subst hm
    rw [restrictE_eq, hf _ _ (restrict_size L T)]
    cases h : g (restrict L T) σ with
    | none => rfl
    | some r =>
      obtain ⟨e, T', σ'⟩ := r
      have hs := hg _ _ _ _ _ h
      rw [restrict_size] at hs
      cases e with
      | normal => exact loopE_eq hf hg n T' σ' hs
      | _ => rfl
theorem aLoop_size {g : Body} (hg : ∀ T σ e T' σ', g T σ = some (e, T', σ') → T'.size = T.size) {L : List Nat} : ∀ (n : Nat) (T : Array Value) (σ : Heap) (e : AExit) (T' : Array Value) (σ' : Heap),
    aLoop g L n T σ = some (e, T', σ') → T'.size = T.size
  | 0, T, σ, e, T', σ', h => by cases h
  | n + 1, T, σ, e, T', σ', h => by
    simp only [aLoop] at h
    split at h
    · rename_i T1 σ1 h1
      rw [aLoop_size hg n _ _ _ _ _ h, hg _ _ _ _ _ h1, restrict_size]
    · rw [hg _ _ _ _ _ h, restrict_size]
theorem scopeE_eq {f : Option Nat → BodyE} {g : Option Nat → Body} {m : Nat} (hf : ∀ s T σ, T.size = m → f s (ofT T) σ = after (g s T σ) fun e ρ σ => some (e, ρ, σ))
    (hg : ∀ s T σ e T' σ', g s T σ = some (e, T', σ') → T'.size = T.size) : ∀ (n : Nat) (s : Option Nat) (T : Array Value) (σ : Heap), T.size = m → scopeE f n s (ofT T) σ = after (aScope g n s T σ) fun e ρ σ => some (e, ρ, σ)
  | 0, _, T, σ, _ => rfl
  | n + 1, s, T, σ, hm => by
    simp only [scopeE, aScope]
    rw [hf s T σ hm]
    cases h : g s T σ with
    | none => rfl
    | some r =>
      obtain ⟨e, T', σ'⟩ := r
      have hs := hg _ _ _ _ _ _ h
      cases e with
      | goto l => exact scopeE_eq hf hg n (some l) T' σ' (by rw [hs, hm])
      | _ => rfl
theorem aScope_size {g : Option Nat → Body} (hg : ∀ s T σ e T' σ', g s T σ = some (e, T', σ') → T'.size = T.size) : ∀ (n : Nat) (s : Option Nat) (T : Array Value) (σ : Heap) (e : AExit) (T' : Array Value) (σ' : Heap),
    aScope g n s T σ = some (e, T', σ') → T'.size = T.size
  | 0, _, T, σ, e, T', σ', h => by cases h
  | n + 1, s, T, σ, e, T', σ', h => by
    simp only [aScope] at h
    split at h
    · rename_i l T1 σ1 h1
      rw [aScope_size hg n _ _ _ _ _ _ h, hg _ _ _ _ _ _ h1]
    · exact hg _ _ _ _ _ _ h

theorem aCode_size {keep : Keep} {n : Nat} : ∀ (c : Code) (s : Option Nat) (T : Array Value) (σ : Heap) (e : AExit) (T' : Array Value) (σ' : Heap), aCode P call keep n c s T σ = some (e, T', σ') → T'.size = T.size := by
  intro c
  induction c with
  | skip => intro s T σ e T' σ' h; cases s <;> simp only [aCode, Option.some.injEq, Prod.mk.injEq] at h <;> first | (rw [h.2.1]) | cases h
  | region id ops draw =>
    intro s T σ e T' σ' h
    cases s with
    | some _ => cases h
    | none =>
      simp only [aCode] at h
      split at h
      · rename_i T1 σ1 hb
        simp only [Option.some.injEq, Prod.mk.injEq] at h
        rw [← h.2.1]
        cases draw with
        | true => exact aDrawn_size hb
        | false => exact aOps_size _ _ _ _ _ _ hb
      · cases h
  | seq a b iha ihb =>
    intro s T σ e T' σ' h
    cases s with
    | none =>
      simp only [aCode] at h
      split at h
      · rename_i T1 σ1 hb; rw [ihb _ _ _ _ _ _ h, iha _ _ _ _ _ _ hb]
      · exact iha _ _ _ _ _ _ h
    | some l =>
      simp only [aCode] at h
      split at h
      · split at h
        · rename_i T1 σ1 hb; rw [ihb _ _ _ _ _ _ h, iha _ _ _ _ _ _ hb]
        · exact iha _ _ _ _ _ _ h
      · exact ihb _ _ _ _ _ _ h
  | cond c x y ihx ihy =>
    intro s T σ e T' σ' h
    cases s with
    | some _ => cases h
    | none =>
      simp only [aCode] at h
      split at h
      · rename_i t _
        cases t with
        | true => exact ihx _ _ _ _ _ _ h
        | false => exact ihy _ _ _ _ _ _ h
      · cases h
  | block id c ih =>
    intro s T σ e T' σ' h
    cases s with
    | some _ => cases h
    | none =>
      simp only [aCode] at h
      split at h
      · rename_i i T1 σ1 hb
        split at h <;> simp only [Option.some.injEq, Prod.mk.injEq] at h <;> rw [← h.2.1] <;> exact ih _ _ _ _ _ _ hb
      · exact ih _ _ _ _ _ _ h
  | loop c ih =>
    intro s T σ e T' σ' h
    cases s with
    | some _ => cases h
    | none =>
      simp only [aCode] at h
      split at h
      · split at h
        · rename_i e1 T1 σ1 hb
          simp only [Option.some.injEq, Prod.mk.injEq] at h
          rw [← h.2.1, restrict_size]
          exact aLoop_size (fun T σ e T' σ' h => ih none T σ e T' σ' h) _ _ _ _ _ _ hb
        · cases h
      · cases h
  | rangeFunc f ps a b iha ihb => intro s T σ e T' σ' h; cases s <;> cases h
  | exit id => intro s T σ e T' σ' h; cases s <;> simp only [aCode, Option.some.injEq, Prod.mk.injEq] at h <;> first | (rw [h.2.1]) | cases h
  | scope c ih =>
    intro s T σ e T' σ' h
    cases s with
    | some _ => cases h
    | none =>
      simp only [aCode] at h
      exact aScope_size (fun s T σ e T' σ' h => ih s T σ e T' σ' h) _ _ _ _ _ _ _ h
  | label l =>
    intro s T σ e T' σ' h
    cases s with
    | none => simp only [aCode, Option.some.injEq, Prod.mk.injEq] at h; rw [h.2.1]
    | some l' =>
      simp only [aCode] at h
      split at h
      · simp only [Option.some.injEq, Prod.mk.injEq] at h; rw [h.2.1]
      · cases h
  | goto l => intro s T σ e T' σ' h; cases s <;> simp only [aCode, Option.some.injEq, Prod.mk.injEq] at h <;> first | (rw [h.2.1]) | cases h
  | ret => intro s T σ e T' σ' h; cases s <;> simp only [aCode, Option.some.injEq, Prod.mk.injEq] at h <;> first | (rw [h.2.1]) | cases h
  | refuse why => intro s T σ e T' σ' h; cases s <;> cases h

theorem kCode_eq {keep : Keep} {n m : Nat} : ∀ {β : Type} (c : Code) (s : Option Nat) (T : Array Value) (σ : Heap) (K : AExit → Env → Heap → Option β), T.size = m →
    kCode P call keep n m c s (ofT T) σ K = after (aCode P call keep n c s T σ) K := by
  intro β c
  induction c generalizing β with
  | skip => intro s T σ K hm; cases s <;> rfl
  | region id ops draw =>
    intro s T σ K hm
    cases s with
    | some _ => rfl
    | none =>
      cases draw with
      | true =>
        simp only [kCode, aCode, cond_true, if_true]
        rw [← hm, toT_ofT]
        cases aDrawn P call ops T σ <;> rfl
      | false =>
        simp only [kCode, aCode, cond_false, Bool.false_eq_true, if_false]
        rw [kOps_eq ops m _ T σ _ hm]
        cases aOps P call ops ops.toList T σ <;> rfl
  | seq a b iha ihb =>
    intro s T σ K hm
    cases s with
    | none =>
      simp only [kCode, aCode]
      rw [iha none T σ _ hm]
      cases h : aCode P call keep n a none T σ with
      | none => rfl
      | some r =>
        obtain ⟨e, T', σ'⟩ := r
        have hs := aCode_size a none T σ e T' σ' h
        cases e with
        | normal => exact ihb none T' σ' K (by rw [hs, hm])
        | _ => rfl
    | some l =>
      simp only [kCode, aCode]
      cases hasLabel a l with
      | true =>
        simp only [cond_true, if_true]
        rw [iha (some l) T σ _ hm]
        cases h : aCode P call keep n a (some l) T σ with
        | none => rfl
        | some r =>
          obtain ⟨e, T', σ'⟩ := r
          have hs := aCode_size a (some l) T σ e T' σ' h
          cases e with
          | normal => exact ihb none T' σ' K (by rw [hs, hm])
          | _ => rfl
      | false => exact ihb (some l) T σ K hm
  | cond c x y ihx ihy =>
    intro s T σ K hm
    cases s with
    | some _ => rfl
    | none =>
      simp only [kCode, aCode]
      rw [evE_ofT]
      cases ev T c with
      | bool t =>
        cases t with
        | true => exact ihx none T σ K hm
        | false => exact ihy none T σ K hm
      | _ => rfl
  | block id c ih =>
    intro s T σ K hm
    cases s with
    | some _ => rfl
    | none =>
      simp only [kCode, aCode]
      rw [ih none T σ _ hm]
      cases aCode P call keep n c none T σ with
      | none => rfl
      | some r =>
        obtain ⟨e, T', σ'⟩ := r
        cases e with
        | exit i =>
          by_cases hi : i = id
          · simp [after, hi]
          · simp [after, hi]
        | _ => rfl
  | loop c ih =>
    intro s T σ K hm
    cases s with
    | some _ => rfl
    | none =>
      simp only [kCode, aCode]
      cases keep (firstRegion c) with
      | none => rfl
      | some LL =>
        obtain ⟨L, L'⟩ := LL
        simp only
        rw [loopE_eq (g := fun T σ => aCode P call keep n c none T σ) (fun T σ h => ih none T σ _ h) (fun T σ e T' σ' h => aCode_size c none T σ e T' σ' h) n T σ hm]
        cases h : aLoop (fun T σ => aCode P call keep n c none T σ) L n T σ with
        | none => rfl
        | some r =>
          obtain ⟨e, T', σ'⟩ := r
          have hs := aLoop_size (fun T σ e T' σ' h => aCode_size c none T σ e T' σ' h) n T σ e T' σ' h
          show K e (restrictE m L' (ofT T')) σ' = K e (ofT (restrict L' T')) σ'
          rw [← restrictE_eq, hs, hm]
  | rangeFunc f ps a b iha ihb => intro s T σ K hm; cases s <;> rfl
  | exit id => intro s T σ K hm; cases s <;> rfl
  | scope c ih =>
    intro s T σ K hm
    cases s with
    | some _ => rfl
    | none =>
      simp only [kCode, aCode]
      rw [scopeE_eq (g := fun s T σ => aCode P call keep n c s T σ) (fun s T σ h => ih s T σ _ h) (fun s T σ e T' σ' h => aCode_size c s T σ e T' σ' h) n none T σ hm]
      cases aScope (fun s T σ => aCode P call keep n c s T σ) n none T σ <;> rfl
  | label l =>
    intro s T σ K hm
    cases s with
    | none => rfl
    | some l' =>
      simp only [kCode, aCode]
      split <;> rfl
  | goto l => intro s T σ K hm; cases s <;> rfl
  | ret => intro s T σ K hm; cases s <;> rfl
  | refuse why => intro s T σ K hm; cases s <;> rfl

theorem kResults_eq (fn : Func) (T : Array Value) (σ : Heap) : ∀ (rs : List ResultVar) (vs : List Value), kResults P fn (ofT T) σ rs vs =
    (aResultL P T σ rs).bind fun us => match vs ++ us with | [v] => some (v, σ) | vs => some (.tuple vs.toArray, σ)
  | [], vs => by
    simp only [aResultL, Option.bind_some, List.append_nil]
    match vs with
    | [] => rfl
    | [v] => rfl
    | _ :: _ :: _ => rfl
  | .tmp t :: rs, vs => by
    simp only [kResults, kResults_eq fn T σ rs, aResultL, aResult, ofT]
    cases aResultL P T σ rs with
    | none => rfl
    | some us => simp
  | .cell a t :: rs, vs => by
    simp only [kResults, aResultL, aResult]
    show bindK (aLoad P t (T.getD a undef) σ) _ = _
    cases aLoad P t (T.getD a undef) σ with
    | none => rfl
    | some v =>
      rw [bindK_some, kResults_eq fn T σ rs]
      cases aResultL P T σ rs with
      | none => rfl
      | some us => simp

theorem kBody_eq {keep : Keep} {n : Nat} {fn : Func} {args : List Value} (hl : args.length ≤ fn.ntmps) (σ : Heap) : kBody P call keep n fn args σ = aBody P call keep n fn args.toArray σ := by
  unfold kBody aBody
  cases fn.body with
  | none => rfl
  | some c =>
    simp only
    have henv : argEnv args fn.ntmps = ofT (args.toArray ++ Array.replicate (fn.ntmps - args.toArray.size) undef) := by
      funext t
      simp only [argEnv, ofT, Array.getD_eq_getD_getElem?, Array.getElem?_append]
      split
      · simp
      · rename_i h
        simp at h
        rw [List.getElem?_eq_none h, Array.getElem?_replicate]
        split <;> rfl
    rw [henv, kCode_eq c none _ σ _ (by simp; omega)]
    cases aCode P call keep n c none (args.toArray ++ Array.replicate (fn.ntmps - args.toArray.size) undef) σ with
    | none => rfl
    | some r =>
      obtain ⟨e, T', σ'⟩ := r
      have hres : kResults P fn (ofT T') σ' fn.results.toList [] = (aResults P fn T' σ').map fun v => (v, σ') := by
        rw [kResults_eq]
        unfold aResults
        cases aResultL P T' σ' fn.results.toList with
        | none => rfl
        | some us =>
          match us with
          | [] => rfl
          | [v] => rfl
          | _ :: _ :: _ => rfl
      cases e with
      | normal => exact hres
      | ret => exact hres
      | _ => rfl
end Go.Abs
