/-
  One operation, a region in the order of the text, a region whose order is open.
-/
import Derived.Test.YthnkdbjeefemoaaGreatAbsSwap
set_option linter.unusedVariables false
set_option linter.unusedSimpArgs false
namespace Go.Abs
open Go Go.RowKit

variable {P : Program} {μ μ0 : Mu} {σ σ0 σ' : Heap} {w w0 : World}

/-- what holds behind a call -/
def Post (μ : Mu) (σ : Heap) (w : World) (r : Value) (σ' : Heap) : Ending → World → Prop :=
  fun e w' => ∃ v μ', e = .returned v ∧ V μ' r v ∧ Rel μ' σ' w' ∧ Ext μ σ w μ' σ' w'

structure CallOk (P : Program) (f : FuncId) (args : Array Value) (σ : Heap) (r : Value) (σ' : Heap) : Prop where
  body : ∃ fn, P.funcs[f]? = some fn ∧ fn.body.isSome = true
  calls : ∀ μ w args', Rel μ σ w → VA μ args args' → Calls P f args' w (Post μ σ w r σ')

def CallsOk (P : Program) (call : CallFn) : Prop := ∀ f args σ r σ', call f args σ = some (r, σ') → CallOk P f args σ r σ'

structure Good (P : Program) : Prop where
  zero : ZeroOk P
  names : ∀ (f : FuncId) (fn : Func), P.funcs[f]? = some fn → (fn.name == "runtime.NumGoroutine") = false
  mixed : P.follows .mixedOrders = true

theorem ev_sound {T : Array Value} {a : Act} (h : VA μ T a.tmps) (x : Operand) : V μ (ev T x) (a.eval x) := by
  cases x with
  | tmp t =>
    simp only [ev, Act.eval]
    rcases Nat.lt_or_ge t T.size with h1 | h1
    · have h2 : t < a.tmps.size := by rw [← h.1]; exact h1
      have := h.2 t _ _ (Array.getElem?_eq_getElem h1) (Array.getElem?_eq_getElem h2)
      simpa [h1, h2] using this
    · have h2 : a.tmps.size ≤ t := by rw [← h.1]; exact h1
      simp [h1, h2]
      exact V.undef μ
  | const v =>
    simp only [ev, Act.eval]
    cases hp : plainV v with
    | true => exact V.plain hp
    | false => exact .unk v
  | global g => exact .unk _
  | func f => exact .func _ _ _ _ _ rfl rfl (by simp) (by simp)

theorem put_sound {T : Array Value} {a : Act} (h : VA μ T a.tmps) (d : Option Tmp) {v v' : Value} (hv : V μ v v') : VA μ (putT T d v) (a.put d v').tmps := by
  cases d with
  | none => exact h
  | some d =>
    refine ⟨by simp [putT, Act.put, h.1], fun i x y hx hy => ?_⟩
    simp only [putT, Act.put, Array.getElem?_setIfInBounds] at hx hy
    split at hx
    · rename_i hd
      rw [if_pos hd] at hy
      split at hx
      · rw [if_pos (by rw [← h.1]; assumption)] at hy
        simp only [Option.some.injEq] at hx hy
        subst hx hy
        exact hv
      · cases hx
    · rename_i hd
      rw [if_neg hd] at hy
      exact h.2 i x y hx hy

theorem put_defers (a : Act) (d : Option Tmp) (v : Value) : (a.put d v).defers = a.defers := by cases d <;> rfl

theorem wanted_sound {ops : Array Oper} {T : Array Value} {a : Act} {o : Oper} {b : Bool} (h : VA μ T a.tmps) (hw : aWanted ops T o = some b) : Region.wanted o (yielded ops a.tmps) = b := by
  unfold aWanted at hw
  unfold Region.wanted
  split at hw
  · rename_i hg
    simp only [Option.some.injEq] at hw
    rw [hg]
    exact hw
  · rename_i j want hg
    rw [hg]
    simp only
    split at hw
    · cases hw
    · rename_i d hd
      have e2 : ∀ y, a.tmps[d]? = some y → yielded ops a.tmps j = match y with | .bool b => some b | _ => none := by
        intro y hy
        unfold yielded
        rw [hd]
        simp only [Option.bind_some, hy]
        cases y <;> rfl
      split at hw
      · rename_i b' hb'
        obtain ⟨y, hy, hV⟩ := h.at_ hb'
        obtain rfl := hV.of_flat rfl
        rw [e2 _ hy]
        simp only [Option.some.injEq] at hw
        subst hw
        rfl
      · rename_i vs hb'
        obtain ⟨y, hy, hV⟩ := h.at_ hb'
        rw [e2 _ hy]
        split at hw
        · simp only [Option.some.injEq] at hw
          subst hw
          cases hV
          rfl
        · cases hw
      · cases hw

theorem aEff_wp (hg : Good P) {call : CallFn} (hcall : CallsOk P call) {o : Oper} {T : Array Value} {a : Act} {v : Value} (hr : Rel μ σ w) (hT : VA μ T a.tmps) (h : aEff P call o.op (ev T) σ = some (v, σ'))
    {K : Act → World → Prop} {Q : Exit → Act → World → Prop} (hk : ∀ v' μ' w', V μ' v v' → Rel μ' σ' w' → Ext μ σ w μ' σ' w' → K (a.put o.dst v') w') : o.wp P a w K Q := by
  have hρ := fun x => ev_sound hT x
  obtain ⟨dst, op, type, pos, after, guard⟩ := o
  simp only at h hk
  unfold Oper.wp
  unfold aEff at h
  split at h
  · rename_i t p x
    simp only [Option.map_eq_some_iff, Prod.mk.injEq] at h
    obtain ⟨σ1, h, rfl, rfl⟩ := h
    obtain ⟨w', h1, h2, h3⟩ := aStore_sound hr h (hρ p) (hρ x)
    have : (execOp a.eval ⟨dst, .store t p x, type, pos, after, guard⟩).run P w = .ok .skip w' := by simp [execOp, h1]
    rw [this]
    exact hk _ _ _ (V.undef _) h2 h3
  · rename_i t m k x
    simp only [Option.map_eq_some_iff, Prod.mk.injEq] at h
    obtain ⟨σ1, h, rfl, rfl⟩ := h
    obtain ⟨w', h1, h2, h3⟩ := aMapUpdate_sound hr h (hρ m) (hρ k) (hρ x)
    have : (execOp a.eval ⟨dst, .mapUpdate t m k x, type, pos, after, guard⟩).run P w = .ok .skip w' := by simp [execOp, h1]
    rw [this]
    exact hk _ _ _ (V.undef _) h2 h3
  · rename_i args ts
    split at h
    · rename_i t t' s x hts hargs
      obtain ⟨args⟩ := args
      obtain ⟨ts⟩ := ts
      simp only at hts hargs
      subst hts hargs
      have main : ∀ d, P.underlying t' = some d → ((∃ e', d = .slice e') ∨ d = .string) → ((∃ s, ev T x = .string s) ↔ d = .string) → aAppend P t (ev T s) (ev T x) σ = some (v, σ') →
          (Oper.mk dst (.call { callee := .builtin .append, args := #[s, x], argTypes := #[t, t'] }) type pos after guard).upon P a K Q
            ((execOp a.eval ⟨dst, .call { callee := .builtin .append, args := #[s, x], argTypes := #[t, t'] }, type, pos, after, guard⟩).run P w) := by
        intro d hd hk1 hk2 h
        obtain ⟨v', w', μ', h1, h2, h3, h4⟩ := aAppend_sound (ty := type) hr hk1 hd hk2 h (hρ s) (hρ x)
        have : (execOp a.eval ⟨dst, .call { callee := .builtin .append, args := #[s, x], argTypes := #[t, t'] }, type, pos, after, guard⟩).run P w = .ok (.value v') w' := by
          simp [execOp, resolve, invoke, builtin, h1]
        rw [this]
        exact hk _ _ _ h2 h3 h4
      split at h
      · rename_i e a1 b1 c1 hd hx1
        rw [← hx1] at h
        refine main _ hd (.inl ⟨e, rfl⟩) ⟨fun ⟨s', hs'⟩ => ?_, fun h => by cases h⟩ h
        rw [hx1] at hs'
        cases hs'
      · rename_i b1 hd hx1
        rw [← hx1] at h
        exact main _ hd (.inr rfl) ⟨fun _ => rfl, fun _ => ⟨_, hx1⟩⟩ h
      · cases h
    · cases h
  · rename_i args ts
    split at h
    · rename_i t tl m k hts hargs
      obtain ⟨args⟩ := args
      simp only at hargs
      subst hargs
      simp only [Option.map_eq_some_iff, Prod.mk.injEq] at h
      obtain ⟨σ1, h, rfl, rfl⟩ := h
      have ht0 : ts[0]? = some t := by rw [← Array.getElem?_toList, hts]; rfl
      obtain ⟨w', h1, h2, h3⟩ := aDelete_sound (ty := type) (rest := []) hr ht0 h (hρ m) (hρ k)
      have : (execOp a.eval ⟨dst, .call { callee := .builtin .delete, args := #[m, k], argTypes := ts }, type, pos, after, guard⟩).run P w = .ok (.value (.tuple #[])) w' := by
        simp [execOp, resolve, invoke, builtin, h1]
      rw [this]
      exact hk _ _ _ (V.undef _) h2 h3
    · cases h
  · rename_i f args ts
    have hf := hρ f
    split at h
    · rename_i fid first cap hfv
      rw [hfv] at hf
      generalize hfe : a.eval f = fe at hf
      cases hf with
      | func _ _ _ p' q' hp hq h1 h2 =>
      obtain ⟨⟨fn, hfn, hbody⟩, hcalls⟩ := hcall _ _ _ _ _ h
      have hargs : VA μ (first ++ args.map (ev T) ++ cap) (p' ++ args.map a.eval ++ q') := ((show VA μ first p' from ⟨hp, h1⟩).append (VA.map hρ args)).append ⟨hq, h2⟩
      have : (execOp a.eval ⟨dst, .call { callee := .value f, args := args, argTypes := ts }, type, pos, after, guard⟩).run P w = .ok (.enter fid (p' ++ args.map a.eval ++ q')) w := by
        have hn := hg.names fid fn hfn
        have hn' : fn.name ≠ "runtime.NumGoroutine" := by simpa using hn
        have hb : fn.body ≠ none := by cases hfb : fn.body <;> simp_all
        simp [execOp, resolve, hfe, Deferred.ofValue, invoke, callFunc, hfn, hn', hb]
      rw [this]
      refine (hcalls μ w _ hr hargs).mono fun e w' hpost => ?_
      obtain ⟨v', μ', rfl, hV, hR, hE⟩ := hpost
      exact hk _ _ _ hV hR hE
    · cases h
  · cases h
end Go.Abs
