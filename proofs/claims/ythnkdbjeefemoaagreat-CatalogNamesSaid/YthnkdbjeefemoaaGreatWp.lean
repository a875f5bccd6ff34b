/-
  What a call comes to: total, with a postcondition; the rule for loops.
-/
import Derived.Test.YthnkdbjeefemoaaGreatKeep
import Derived.Test.YthnkdbjeefemoaaGreatPlan
import Derived.Test.YthnkdbjeefemoaaGreatPrim
set_option linter.unusedVariables false
set_option linter.unusedSimpArgs false
namespace Go.Abs
open Go Go.RowKit Go.Proofs

def wp {α : Type} (x : Option α) (Q : α → Prop) : Prop := ∃ a, x = some a ∧ Q a
@[congr] theorem kCode_congr {α : Type} {P : Program} {call : CallFn} {keep : Keep} {n m : Nat} {c : Code} {s : Option Nat} {ρ ρ' : Env} {σ σ' : Heap} {K : AExit → Env → Heap → Option α} (h : ρ = ρ') (h' : σ = σ') :
    kCode P call keep n m c s ρ σ K = kCode P call keep n m c s ρ' σ' K := by rw [h, h']
@[congr] theorem wp_congr {α : Type} {x y : Option α} {Q : α → Prop} (h : x = y) : wp x Q = wp y Q := by rw [h]
theorem wp_some {α : Type} {a : α} {Q : α → Prop} : wp (some a) Q = Q a := by
  apply propext
  constructor
  · rintro ⟨b, h, hq⟩; cases h; exact hq
  · intro h; exact ⟨a, rfl, h⟩
theorem wp_bindK {α β : Type} {x : Option α} {f : α → Option β} {R : α → Prop} {Q : β → Prop} (h : wp x R) (hf : ∀ a, R a → wp (f a) Q) : wp (bindK x f) Q := by
  obtain ⟨a, rfl, hr⟩ := h
  exact hf a hr
theorem wp_ifK {β : Type} {b : Bool} {x y : Option β} {Q : β → Prop} (h : b = true → wp x Q) (h' : b = false → wp y Q) : wp (ifK b x y) Q := by
  cases b
  · exact h' rfl
  · exact h rfl
theorem wp_ifK_dec {β : Type} {p : Prop} [Decidable p] {x y : Option β} {Q : β → Prop} (h : p → wp x Q) (h' : ¬ p → wp y Q) : wp (ifK (decide p) x y) Q :=
  wp_ifK (fun e => h (of_decide_eq_true e)) (fun e => h' (of_decide_eq_false e))
theorem wp_mono {α : Type} {x : Option α} {Q Q' : α → Prop} (h : wp x Q) (hq : ∀ a, Q a → Q' a) : wp x Q' := by
  obtain ⟨a, h1, h2⟩ := h; exact ⟨a, h1, hq a h2⟩

/-- a call of the given program -/
noncomputable def Call : CallFn := lim Tryz.prog primT keepT

theorem wp_call {f : FuncId} (hp : primT f = none) {fn : Func} (hf : Tryz.prog.funcs[f]? = some fn) {c : Code} (hc : fn.body = some c) {args : List Value} (ha : args.length ≤ fn.ntmps) {σ : Heap} (n : Nat) {Q : Value × Heap → Prop}
    (h : wp (kCode Tryz.prog Call (keepT f) n fn.ntmps c none (argEnv args fn.ntmps) σ (retK Tryz.prog fn)) Q) : wp (Call f args.toArray σ) Q := by
  obtain ⟨r, h1, h2⟩ := h
  rw [← E_body hc] at h1
  exact ⟨r, lim_body hp hf ha n h1, h2⟩

theorem wp_loop {P : Program} {call : CallFn} {keep : Keep} {n m : Nat} {c : Code} {L L' : List Nat} {ρ : Env} {σ : Heap} {β : Type} {K : AExit → Env → Heap → Option β} {Q : β → Prop}
    (hkeep : keep (firstRegion c) = some (L, L')) (I : Nat → Env → Heap → Prop) (R : AExit → Env → Heap → Prop) (k : Nat) (hk : k < n) (h0 : I k ρ σ)
    (hstep : ∀ k ρ σ, I k ρ σ → wp (kCode P call keep n m c none (restrictE m L ρ) σ endK) fun r => match r with | (.normal, ρ', σ') => ∃ k', k' < k ∧ I k' ρ' σ' | (e, ρ', σ') => R e ρ' σ')
    (hout : ∀ e ρ' σ', R e ρ' σ' → wp (K e (restrictE m L' ρ') σ') Q) : wp (kCode P call keep n m (.loop c) none ρ σ K) Q := by
  rw [E_loop hkeep]
  have key : ∀ (j : Nat) (k : Nat) ρ σ, k < j → I k ρ σ → wp (loopE m (fun ρ σ => kCode P call keep n m c none ρ σ endK) L j ρ σ) fun r => R r.1 r.2.1 r.2.2 := by
    intro j
    induction j with
    | zero => intro k ρ σ h; omega
    | succ j ih =>
      intro k ρ σ hkj hI
      obtain ⟨⟨e, ρ', σ'⟩, h1, h2⟩ := hstep k ρ σ hI
      cases e with
      | normal =>
        obtain ⟨k', hk', hI'⟩ := h2
        obtain ⟨r, h3, h4⟩ := ih k' ρ' σ' (by omega) hI'
        exact ⟨r, by rw [loopE_some]; exact ⟨_, h1, h3⟩, h4⟩
      | _ => exact ⟨_, by rw [loopE_some]; exact ⟨_, h1, rfl⟩, h2⟩
  obtain ⟨r, h1, h2⟩ := key n k ρ σ hk h0
  unfold loopK
  rw [h1]
  exact hout _ _ _ h2

theorem wp_drawn {P : Program} {call : CallFn} {keep : Keep} {n m k id : Nat} {ops : Array Oper} {l : List DS} {ρ : Env} {σ : Heap} {β : Type} {K : AExit → Env → Heap → Option β} {Q : β → Prop}
    (h : compile P ops = some (k, l)) (hk : wp (kDr P call m ops σ.size l (frz m ρ) (reserve σ k) (fun _ => none) (K .normal)) Q) : wp (kCode P call keep n m (.region id ops true) none ρ σ K) Q := by
  rw [E_drawn h]
  exact hk
theorem firstRegion_region {id : Nat} {ops : Array Oper} {d : Bool} : firstRegion (.region id ops d) = id := rfl
theorem firstRegion_seq {a b : Code} : firstRegion (.seq a b) = firstRegion a := rfl
theorem firstRegion_block {i : Nat} {a : Code} : firstRegion (.block i a) = firstRegion a := rfl
theorem firstRegion_loop {a : Code} : firstRegion (.loop a) = firstRegion a := rfl
theorem firstRegion_scope {a : Code} : firstRegion (.scope a) = firstRegion a := rfl
theorem restrictE_def {m : Nat} {L : List Nat} {ρ : Env} : restrictE m L ρ = L.foldl (fun ρ' t => upd m ρ' t (ρ t)) (fun t => if t < m then unk else undef) := rfl
end Go.Abs
