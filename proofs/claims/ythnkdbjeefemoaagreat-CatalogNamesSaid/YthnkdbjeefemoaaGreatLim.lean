/-
  The semantics without fuel for calls: the limit, and that a body told over the limit is told.
-/
import Derived.Test.YthnkdbjeefemoaaGreatRun
set_option linter.unusedVariables false
set_option linter.unusedSimpArgs false
namespace Go.Abs
open Go Go.RowKit

def LeF (c c' : CallFn) : Prop := ∀ f a σ r, c f a σ = some r → c' f a σ = some r

/-- the more is called, the more is told; and what is told of the limit is told on the way -/
structure Cont {α : Type} (F : CallFn → Nat → Option α) : Prop where
  mono : ∀ c c' n n', LeF c c' → n ≤ n' → ∀ x, F c n = some x → F c' n' = some x
  cont : ∀ (φ : Nat → CallFn) (ψ : CallFn) (n : Nat), (∀ k, LeF (φ k) (φ (k + 1))) → (∀ f a σ r, ψ f a σ = some r → ∃ k, φ k f a σ = some r) → ∀ x, F ψ n = some x → ∃ k, F (φ k) n = some x

theorem chain_le {φ : Nat → CallFn} (h : ∀ k, LeF (φ k) (φ (k + 1))) : ∀ {i j : Nat}, i ≤ j → LeF (φ i) (φ j) := by
  intro i j hij
  induction hij with
  | refl => intro f a σ r h; exact h
  | step _ ih => intro f a σ r h1; exact h _ f a σ r (ih f a σ r h1)

theorem Cont.congr {α : Type} {F G : CallFn → Nat → Option α} (h : Cont F) (e : ∀ c n, F c n = G c n) : Cont G := by
  have : F = G := by funext c n; exact e c n
  rw [← this]; exact h
theorem Cont.const {α : Type} (x : Option α) : Cont fun _ _ => x :=
  ⟨fun _ _ _ _ _ _ _ h => h, fun _ _ _ _ _ _ h => ⟨0, h⟩⟩
theorem Cont.call (f : FuncId) (a : Array Value) (σ : Heap) : Cont fun c _ => c f a σ :=
  ⟨fun _ _ _ _ h _ r hx => h f a σ r hx, fun _ _ _ _ h r hx => h f a σ r hx⟩
theorem Cont.bind {α β : Type} {F : CallFn → Nat → Option α} {G : CallFn → Nat → α → Option β} (hF : Cont F) (hG : ∀ y, Cont fun c n => G c n y) : Cont fun c n => (F c n).bind (G c n) := by
  constructor
  · intro c c' n n' hc hn x hx
    rw [Option.bind_eq_some_iff] at hx ⊢
    obtain ⟨y, h1, h2⟩ := hx
    exact ⟨y, hF.mono c c' n n' hc hn y h1, (hG y).mono c c' n n' hc hn x h2⟩
  · intro φ ψ n hφ hψ x hx
    rw [Option.bind_eq_some_iff] at hx
    obtain ⟨y, h1, h2⟩ := hx
    obtain ⟨k1, h1⟩ := hF.cont φ ψ n hφ hψ y h1
    obtain ⟨k2, h2⟩ := (hG y).cont φ ψ n hφ hψ x h2
    refine ⟨max k1 k2, ?_⟩
    rw [Option.bind_eq_some_iff]
    exact ⟨y, hF.mono _ _ _ _ (chain_le hφ (Nat.le_max_left _ _)) (Nat.le_refl _) y h1, (hG y).mono _ _ _ _ (chain_le hφ (Nat.le_max_right _ _)) (Nat.le_refl _) x h2⟩
theorem Cont.bindK {α β : Type} {F : CallFn → Nat → Option α} {G : CallFn → Nat → α → Option β} (hF : Cont F) (hG : ∀ y, Cont fun c n => G c n y) : Cont fun c n => Go.Abs.bindK (F c n) (G c n) := Cont.bind hF hG
theorem Cont.map {α β : Type} {F : CallFn → Nat → Option α} (f : α → β) (hF : Cont F) : Cont fun c n => (F c n).map f := by
  have : (fun c n => (F c n).map f) = fun c n => (F c n).bind fun y => some (f y) := by
    funext c n; cases F c n <;> rfl
  rw [this]
  exact hF.bind fun y => Cont.const _

variable {P : Program}

theorem aEff_cont (op : Op) (ρ : Operand → Value) (σ : Heap) : Cont fun c _ => aEff P c op ρ σ := by
  cases op with
  | call k =>
    obtain ⟨callee, args, tys⟩ := k
    cases callee with
    | value f =>
      show Cont fun c _ => (match ρ f with | .func (.func f) first cap => c f (first ++ args.map ρ ++ cap) σ | _ => none)
      cases ρ f with
      | func fn first cap => cases fn <;> first | exact Cont.call _ _ _ | exact Cont.const _
      | _ => exact Cont.const _
    | builtin b => cases b <;> exact Cont.const _
    | _ => exact Cont.const _
  | _ => exact Cont.const _

theorem guardK_cont {β : Type} {m : Nat} {ops : Array Oper} {ρ : Env} {o : Oper} {x y : CallFn → Nat → Option β} (hx : Cont x) (hy : Cont y) : Cont fun c n => guardK m ops ρ o (x c n) (y c n) := by
  unfold guardK
  cases o.guard with
  | none => exact hx
  | some g =>
    obtain ⟨j, want⟩ := g
    simp only
    cases (ops[j]?).bind (·.dst) with
    | none => exact Cont.const _
    | some d =>
      simp only
      cases decide (d < m) with
      | false => exact Cont.const _
      | true =>
        simp only [cond_true]
        cases ρ d with
        | bool b =>
          simp only [ifK]
          cases (b == want) with
          | true => exact hx
          | false => exact hy
        | tuple vs =>
          simp only [ifK]
          cases decide (vs.size = 0) with
          | true => exact hy
          | false => exact Cont.const _
        | _ => exact Cont.const _

theorem kOp_cont {α : Type} (o : Oper) (ρ : Env) (σ : Heap) {K : CallFn → Nat → Value → Heap → Option α} (hK : ∀ v σ, Cont fun c n => K c n v σ) : Cont fun c n => kOp P c o ρ σ (K c n) := by
  unfold kOp
  cases cls P o.op with
  | pure => exact (Cont.const _).bindK fun v => hK _ _
  | read => exact (Cont.const _).bindK fun v => hK _ _
  | make => exact (Cont.const _).bindK fun v => hK _ _
  | eff => exact (aEff_cont o.op (evE ρ) σ).bindK fun v => hK _ _

theorem kOps_cont {α : Type} {m : Nat} {ops : Array Oper} {K : CallFn → Nat → Env → Heap → Option α} (hK : ∀ ρ σ, Cont fun c n => K c n ρ σ) : ∀ (l : List Oper) (ρ : Env) (σ : Heap), Cont fun c n => kOps P c m ops l ρ σ (K c n)
  | [], ρ, σ => hK ρ σ
  | o :: os, ρ, σ => guardK_cont (kOp_cont o ρ σ fun v σ' => kOps_cont hK os _ _) (kOps_cont hK os _ _)

theorem dStep_cont {ops : Array Oper} {pre : Array Nat} {base i : Nat} (s : DSt) : Cont fun c _ => dStep P c ops pre base i s := by
  unfold dStep
  cases aWanted ops s.T (opAt ops i) with
  | none => exact Cont.const _
  | some b =>
    cases b with
    | false => exact Cont.const _
    | true =>
      simp only
      cases clsAt P ops i with
      | eff =>
        simp only
        have h := (aEff_cont (P := P) (opAt ops i).op (ev s.T) (mask s.σ (masks P ops pre base i)))
        have h2 := h.bind (G := fun _ _ (r : Value × Heap) =>
          if s.σ.size ≤ r.2.size ∧ chkReads P ops pre base i s.log (unmask s.σ r.2 (masks P ops pre base i)) (List.range ops.size) = true then
          some { s with T := putT s.T (opAt ops i).dst r.1, σ := unmask s.σ r.2 (masks P ops pre base i) } else none) fun r => Cont.const _
        exact h2.congr fun c n => by cases aEff P c (opAt ops i).op (ev s.T) (mask s.σ (masks P ops pre base i)) <;> rfl
      | _ => exact Cont.const _

theorem dSteps_cont {ops : Array Oper} {pre : Array Nat} {base : Nat} : ∀ (l : List Nat) (s : DSt), Cont fun c _ => dSteps P c ops pre base l s
  | [], s => Cont.const _
  | i :: is, s => by
    have h := (dStep_cont (P := P) (ops := ops) (pre := pre) (base := base) (i := i) s).bind (G := fun c _ s' => dSteps P c ops pre base is s') fun s' => dSteps_cont is s'
    exact h.congr fun c n => by simp only [dSteps]; cases dStep P c ops pre base i s <;> rfl
theorem aDrawn_cont (ops : Array Oper) (T : Array Value) (σ : Heap) : Cont fun c _ => aDrawn P c ops T σ := by
  unfold aDrawn
  split
  · have h := (dSteps_cont (P := P) (ops := ops) (pre := Region.before ops) (base := σ.size) (eager P ops (Region.before ops)) ⟨T, reserve σ (nMake P ops), Array.replicate ops.size none⟩).map fun s => (s.T, s.σ)
    exact h.congr fun c n => by cases dSteps P c ops (Region.before ops) σ.size (eager P ops (Region.before ops)) ⟨T, reserve σ (nMake P ops), Array.replicate ops.size none⟩ <;> rfl
  · exact Cont.const _

theorem loopE_some {m : Nat} {L : List Nat} {g : BodyE} {n : Nat} {ρ : Env} {σ : Heap} {x : AExit × Env × Heap} :
    loopE m g L (n + 1) ρ σ = some x ↔ ∃ r, g (restrictE m L ρ) σ = some r ∧ (match r with | (.normal, ρ', σ') => loopE m g L n ρ' σ' = some x | r => r = x) := by
  simp only [loopE]
  cases g (restrictE m L ρ) σ with
  | none => simp
  | some r =>
    obtain ⟨e, ρ', σ'⟩ := r
    cases e <;> simp
theorem loopE_mono {m : Nat} {L : List Nat} {g g' : BodyE} (h : ∀ ρ σ x, g ρ σ = some x → g' ρ σ = some x) : ∀ (n n' : Nat), n ≤ n' → ∀ ρ σ x, loopE m g L n ρ σ = some x → loopE m g' L n' ρ σ = some x
  | 0, _, _, _, _, _, hx => by cases hx
  | n + 1, 0, hn, _, _, _, _ => by omega
  | n + 1, n' + 1, hn, ρ, σ, x, hx => by
    rw [loopE_some] at hx ⊢
    obtain ⟨r, h1, h2⟩ := hx
    refine ⟨r, h _ _ _ h1, ?_⟩
    obtain ⟨e, ρ', σ'⟩ := r
    cases e with
    | normal => exact loopE_mono h n n' (by omega) ρ' σ' x h2
    | _ => exact h2
theorem loopE_cont {m : Nat} {L : List Nat} {f : CallFn → Nat → BodyE} (hf : ∀ ρ σ, Cont fun c n => f c n ρ σ) (ρ : Env) (σ : Heap) : Cont fun c n => loopE m (f c n) L n ρ σ := by
  constructor
  · intro c c' n n' hc hn x h
    exact loopE_mono (fun ρ σ x hx => (hf ρ σ).mono c c' n n' hc hn x hx) n n' hn ρ σ x h
  · intro φ ψ n hφ hψ
    have key : ∀ (k : Nat) ρ σ x, loopE m (f ψ n) L k ρ σ = some x → ∃ j, loopE m (f (φ j) n) L k ρ σ = some x := by
      intro k
      induction k with
      | zero => intro ρ σ x h; cases h
      | succ k ih =>
        intro ρ σ x h
        rw [loopE_some] at h
        obtain ⟨r, h1, h2⟩ := h
        obtain ⟨j1, h1⟩ := (hf _ _).cont φ ψ n hφ hψ r h1
        obtain ⟨e, ρ', σ'⟩ := r
        cases e with
        | normal =>
          obtain ⟨j2, h2⟩ := ih ρ' σ' x h2
          refine ⟨max j1 j2, ?_⟩
          rw [loopE_some]
          exact ⟨_, (hf _ _).mono _ _ n n (chain_le hφ (Nat.le_max_left _ _)) (Nat.le_refl _) _ h1,
            loopE_mono (fun ρ σ x hx => (hf ρ σ).mono _ _ n n (chain_le hφ (Nat.le_max_right _ _)) (Nat.le_refl _) x hx) k k (Nat.le_refl _) _ _ _ h2⟩
        | _ => exact ⟨j1, by rw [loopE_some]; exact ⟨_, h1, h2⟩⟩
    exact key n ρ σ

theorem scopeE_some {g : Option Nat → BodyE} {n : Nat} {s : Option Nat} {ρ : Env} {σ : Heap} {x : AExit × Env × Heap} :
    scopeE g (n + 1) s ρ σ = some x ↔ ∃ r, g s ρ σ = some r ∧ (match r with | (.goto l, ρ', σ') => scopeE g n (some l) ρ' σ' = some x | r => r = x) := by
  simp only [scopeE]
  cases g s ρ σ with
  | none => simp
  | some r =>
    obtain ⟨e, ρ', σ'⟩ := r
    cases e <;> simp
theorem scopeE_mono {g g' : Option Nat → BodyE} (h : ∀ s ρ σ x, g s ρ σ = some x → g' s ρ σ = some x) : ∀ (n n' : Nat), n ≤ n' → ∀ s ρ σ x, scopeE g n s ρ σ = some x → scopeE g' n' s ρ σ = some x
  | 0, _, _, _, _, _, _, hx => by cases hx
  | n + 1, 0, hn, _, _, _, _, _ => by omega
  | n + 1, n' + 1, hn, s, ρ, σ, x, hx => by
    rw [scopeE_some] at hx ⊢
    obtain ⟨r, h1, h2⟩ := hx
    refine ⟨r, h _ _ _ _ h1, ?_⟩
    obtain ⟨e, ρ', σ'⟩ := r
    cases e with
    | goto l => exact scopeE_mono h n n' (by omega) _ ρ' σ' x h2
    | _ => exact h2
theorem scopeE_cont {f : CallFn → Nat → Option Nat → BodyE} (hf : ∀ s ρ σ, Cont fun c n => f c n s ρ σ) (s : Option Nat) (ρ : Env) (σ : Heap) : Cont fun c n => scopeE (f c n) n s ρ σ := by
  constructor
  · intro c c' n n' hc hn x h
    exact scopeE_mono (fun s ρ σ x hx => (hf s ρ σ).mono c c' n n' hc hn x hx) n n' hn s ρ σ x h
  · intro φ ψ n hφ hψ
    have key : ∀ (k : Nat) s ρ σ x, scopeE (f ψ n) k s ρ σ = some x → ∃ j, scopeE (f (φ j) n) k s ρ σ = some x := by
      intro k
      induction k with
      | zero => intro s ρ σ x h; cases h
      | succ k ih =>
        intro s ρ σ x h
        rw [scopeE_some] at h
        obtain ⟨r, h1, h2⟩ := h
        obtain ⟨j1, h1⟩ := (hf _ _ _).cont φ ψ n hφ hψ r h1
        obtain ⟨e, ρ', σ'⟩ := r
        cases e with
        | goto l =>
          obtain ⟨j2, h2⟩ := ih _ ρ' σ' x h2
          refine ⟨max j1 j2, ?_⟩
          rw [scopeE_some]
          exact ⟨_, (hf _ _ _).mono _ _ n n (chain_le hφ (Nat.le_max_left _ _)) (Nat.le_refl _) _ h1,
            scopeE_mono (fun s ρ σ x hx => (hf s ρ σ).mono _ _ n n (chain_le hφ (Nat.le_max_right _ _)) (Nat.le_refl _) x hx) k k (Nat.le_refl _) _ _ _ _ h2⟩
        | _ => exact ⟨j1, by rw [scopeE_some]; exact ⟨_, h1, h2⟩⟩
    exact key n s ρ σ

theorem kCode_cont {keep : Keep} {m : Nat} : ∀ (c : Code) (s : Option Nat) {α : Type} (ρ : Env) (σ : Heap) {K : CallFn → Nat → AExit → Env → Heap → Option α}, (∀ e ρ σ, Cont fun cl n => K cl n e ρ σ) →
    Cont fun cl n => kCode P cl keep n m c s ρ σ (K cl n) := by
  intro c
  induction c with
  | skip => intro s α ρ σ K hK; cases s; exact hK _ _ _; exact Cont.const _
  | region id ops draw =>
    intro s α ρ σ K hK
    cases s with
    | some _ => exact Cont.const _
    | none =>
      cases draw with
      | true => exact (aDrawn_cont ops _ _).bindK fun r => hK _ _ _
      | false => exact kOps_cont (fun ρ σ => hK _ _ _) _ _ _
  | seq a b iha ihb =>
    intro s α ρ σ K hK
    cases s with
    | none => exact iha none ρ σ (K := fun cl n e ρ' σ' => match e with
        | .normal => kCode P cl keep n m b none ρ' σ' (K cl n)
        | e => K cl n e ρ' σ') fun e ρ' σ' => by cases e <;> first | exact ihb none ρ' σ' hK | exact hK _ _ _
    | some l =>
      simp only [kCode]
      cases hasLabel a l with
      | true => exact iha (some l) ρ σ (K := fun cl n e ρ' σ' => match e with
        | .normal => kCode P cl keep n m b none ρ' σ' (K cl n)
        | e => K cl n e ρ' σ') fun e ρ' σ' => by cases e <;> first | exact ihb none ρ' σ' hK | exact hK _ _ _
      | false => exact ihb (some l) ρ σ hK
  | cond c x y ihx ihy =>
    intro s α ρ σ K hK
    cases s with
    | some _ => exact Cont.const _
    | none =>
      simp only [kCode]
      cases evE ρ c with
      | bool t =>
        cases t with
        | true => exact ihx none ρ σ hK
        | false => exact ihy none ρ σ hK
      | _ => exact Cont.const _
  | block id c ih =>
    intro s α ρ σ K hK
    cases s with
    | some _ => exact Cont.const _
    | none =>
      refine ih none ρ σ (K := fun cl n e ρ' σ' => match e with
        | .exit i => bif decide (i = id) then K cl n .normal ρ' σ' else K cl n (.exit i) ρ' σ'
        | e => K cl n e ρ' σ') ?_
      intro e ρ' σ'
      cases e with
      | exit i =>
        simp only
        cases decide (i = id) <;> exact hK _ _ _
      | _ => exact hK _ _ _
  | loop c ih =>
    intro s α ρ σ K hK
    cases s with
    | some _ => exact Cont.const _
    | none =>
      simp only [kCode]
      cases keep (firstRegion c) with
      | none => exact Cont.const _
      | some LL => exact (loopE_cont (f := fun cl n ρ σ => kCode P cl keep n m c none ρ σ fun e ρ σ => some (e, ρ, σ)) (fun ρ σ => ih none ρ σ fun e ρ σ => Cont.const _) ρ σ).bindK fun r => hK _ _ _
  | rangeFunc f ps a b iha ihb => intro s α ρ σ K hK; cases s <;> exact Cont.const _
  | exit id => intro s α ρ σ K hK; cases s; exact hK _ _ _; exact Cont.const _
  | scope c ih =>
    intro s α ρ σ K hK
    cases s with
    | some _ => exact Cont.const _
    | none => exact (scopeE_cont (f := fun cl n s ρ σ => kCode P cl keep n m c s ρ σ fun e ρ σ => some (e, ρ, σ)) (fun s ρ σ => ih s ρ σ fun e ρ σ => Cont.const _) none ρ σ).bindK fun r => hK _ _ _
  | label l =>
    intro s α ρ σ K hK
    cases s with
    | none => exact hK _ _ _
    | some l' =>
      simp only [kCode]
      split
      · exact hK _ _ _
      · exact Cont.const _
  | goto l => intro s α ρ σ K hK; cases s; exact hK _ _ _; exact Cont.const _
  | ret => intro s α ρ σ K hK; cases s; exact hK _ _ _; exact Cont.const _
  | refuse why => intro s α ρ σ K hK; cases s <;> exact Cont.const _

theorem kBody_cont {keep : Keep} (fn : Func) (args : List Value) (σ : Heap) : Cont fun cl n => kBody P cl keep n fn args σ := by
  unfold kBody
  cases fn.body with
  | none => exact Cont.const _
  | some c => exact kCode_cont c none _ _ fun e ρ σ => by cases e <;> exact Cont.const _

/-! ### The limit -/
variable {prim : FuncId → Option PrimFn} {keep : FuncId → Keep}

/-- arguments fit into the variables, of every function -/
def argsFit (P : Program) : Prop := ∀ (f : FuncId) (fn : Func), P.funcs[f]? = some fn → fn.params.size + fn.nfree ≤ fn.ntmps

/-- the function through bodies told with continuations -/
noncomputable def kFunc (P : Program) (prim : FuncId → Option PrimFn) (keep : FuncId → Keep) : Nat → CallFn
  | 0, _, _, _ => none
  | n + 1, f, args, σ =>
    match prim f with
    | some p => p args σ
    | none =>
      match P.funcs[f]? with
      | some fn => if args.size ≤ fn.ntmps then kBody P (kFunc P prim keep n) (keep f) n fn args.toList σ else none
      | none => none
theorem kFunc_mono1 : ∀ k, LeF (kFunc P prim keep k) (kFunc P prim keep (k + 1))
  | 0 => by intro f a σ r h; cases h
  | k + 1 => by
    intro f a σ r h
    rw [kFunc] at h ⊢
    cases hp : prim f with
    | some p => rw [hp] at h; exact h
    | none =>
      rw [hp] at h
      simp only at h ⊢
      cases hf : P.funcs[f]? with
      | none => rw [hf] at h; cases h
      | some fn =>
        rw [hf] at h
        simp only at h ⊢
        split at h
        · rename_i ha
          rw [if_pos ha]
          exact (kBody_cont fn a.toList σ).mono _ _ k (k + 1) (kFunc_mono1 k) (by omega) r h
        · cases h
theorem kFunc_aFunc : ∀ k, LeF (kFunc P prim keep k) (aFunc P prim keep k)
  | 0 => by intro f a σ r h; cases h
  | k + 1 => by
    intro f a σ r h
    rw [kFunc] at h
    rw [aFunc]
    cases hp : prim f with
    | some p => rw [hp] at h; exact h
    | none =>
      rw [hp] at h
      simp only at h ⊢
      cases hf : P.funcs[f]? with
      | none => rw [hf] at h; cases h
      | some fn =>
        rw [hf] at h
        simp only at h ⊢
        split at h
        · rename_i ha
          have h1 := (kBody_cont fn a.toList σ).mono _ _ k k (kFunc_aFunc k) (Nat.le_refl _) r h
          rw [kBody_eq (by simpa using ha)] at h1
          exact h1
        · cases h

open Classical in
noncomputable def lim (P : Program) (prim : FuncId → Option PrimFn) (keep : FuncId → Keep) : CallFn := fun f a σ =>
  if h : ∃ r, ∃ n, kFunc P prim keep n f a σ = some r then some h.choose else none
theorem lim_iff {f : FuncId} {a : Array Value} {σ : Heap} {r : Value × Heap} : lim P prim keep f a σ = some r ↔ ∃ n, kFunc P prim keep n f a σ = some r := by
  unfold lim
  split
  · rename_i h
    obtain ⟨n, hn⟩ := h.choose_spec
    constructor
    · intro e
      cases e
      exact ⟨n, hn⟩
    · rintro ⟨n', hn'⟩
      have h1 := chain_le (kFunc_mono1 (P := P) (prim := prim) (keep := keep)) (Nat.le_max_left n n') f a σ _ hn
      have h2 := chain_le (kFunc_mono1 (P := P) (prim := prim) (keep := keep)) (Nat.le_max_right n n') f a σ _ hn'
      rw [h1] at h2
      exact h2
  · rename_i h
    constructor
    · intro e; cases e
    · rintro ⟨n, hn⟩
      exact absurd ⟨r, n, hn⟩ h
theorem lim_aFunc {f : FuncId} {a : Array Value} {σ : Heap} {r : Value × Heap} (h : lim P prim keep f a σ = some r) : ∃ n, aFunc P prim keep n f a σ = some r := by
  obtain ⟨n, hn⟩ := lim_iff.1 h
  exact ⟨n, kFunc_aFunc n f a σ r hn⟩
theorem lim_prim {f : FuncId} {p : PrimFn} (hp : prim f = some p) {a : Array Value} {σ : Heap} {r : Value × Heap} (h : p a σ = some r) : lim P prim keep f a σ = some r := by
  rw [lim_iff]
  refine ⟨1, ?_⟩
  rw [kFunc, hp]
  exact h
/-- a body that is told over the limit -/
theorem lim_body {f : FuncId} (hp : prim f = none) {fn : Func} (hf : P.funcs[f]? = some fn) {args : List Value} (ha : args.length ≤ fn.ntmps) {σ : Heap} {r : Value × Heap} (n : Nat)
    (h : kBody P (lim P prim keep) (keep f) n fn args σ = some r) : lim P prim keep f args.toArray σ = some r := by
  obtain ⟨k, hk⟩ := (kBody_cont fn args σ).cont (kFunc P prim keep) (lim P prim keep) n kFunc_mono1 (fun f a σ r h => lim_iff.1 h) r h
  rw [lim_iff]
  refine ⟨max k n + 1, ?_⟩
  rw [kFunc, hp]
  simp only
  rw [hf]
  simp only
  rw [if_pos (by simpa using ha)]
  exact (kBody_cont fn args σ).mono _ _ n (max k n) (chain_le kFunc_mono1 (Nat.le_max_left _ _)) (Nat.le_max_right _ _) r hk
end Go.Abs
