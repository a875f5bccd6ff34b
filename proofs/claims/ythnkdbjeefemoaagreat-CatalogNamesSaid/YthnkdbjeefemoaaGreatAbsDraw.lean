/-
  A region whose order is open: two operations of which neither stands ahead of the other may change places.
-/
import Derived.Test.YthnkdbjeefemoaaGreatAbsAppend
set_option linter.unusedVariables false
set_option linter.unusedSimpArgs false
namespace Go.Abs
open Go Go.RowKit

variable {P : Program} {call : CallFn} {ops : Array Oper} {pre : Array Nat} {base : Nat}

abbrev Log := Array (Option (List Value × Value))

/-- a step, but for the place where its value goes -/
def core (P : Program) (call : CallFn) (ops : Array Oper) (pre : Array Nat) (base i : Nat) (T : Array Value) (σ : Heap) (l : Log) : Option (Value × Heap × Log) :=
  match aWanted ops T (opAt ops i) with
  | none => none
  | some false => some (undef, σ, l)
  | some true =>
    match clsAt P ops i with
    | .pure => (aPureOp P (opAt ops i).op (ev T)).map fun v => (v, σ, l)
    | .read =>
      (aRead P (opAt ops i).op ((opAt ops i).op.operands.toList.map (ev T)) (mask σ (masks P ops pre base i))).map fun v =>
        (v, σ, l.setIfInBounds i (some ((opAt ops i).op.operands.toList.map (ev T), v)))
    | .make =>
      match aMake P (opAt ops i).op (ev T), σ[base + slotOf P ops i]? with
      | some m, some none => some (m.2 (base + slotOf P ops i), σ.setIfInBounds (base + slotOf P ops i) (some m.1), l)
      | _, _ => none
    | .eff =>
      match aEff P call (opAt ops i).op (ev T) (mask σ (masks P ops pre base i)) with
      | some (v, τ) =>
        if σ.size ≤ τ.size ∧ chkReads P ops pre base i l (unmask σ τ (masks P ops pre base i)) (List.range ops.size) = true then
          some (v, unmask σ τ (masks P ops pre base i), l)
        else none
      | none => none

theorem dStep_eq (i : Nat) (s : DSt) : dStep P call ops pre base i s = (core P call ops pre base i s.T s.σ s.log).map fun x => ⟨putT s.T (opAt ops i).dst x.1, x.2.1, x.2.2⟩ := by
  unfold dStep core
  cases aWanted ops s.T (opAt ops i) with
  | none => rfl
  | some b =>
    cases b with
    | false => rfl
    | true =>
      simp only
      cases clsAt P ops i with
      | pure => simp only [Option.map_map]; rfl
      | read => simp only [Option.map_map]; rfl
      | make =>
        simp only
        generalize aMake P (opAt ops i).op (ev s.T) = m
        generalize s.σ[base + slotOf P ops i]? = o
        cases m with
        | none => rfl
        | some m =>
          cases o with
          | none => rfl
          | some o => cases o <;> rfl
      | eff =>
        simp only
        generalize aEff P call (opAt ops i).op (ev s.T) (mask s.σ (masks P ops pre base i)) = r
        cases r with
        | none => rfl
        | some r =>
          obtain ⟨v, τ⟩ := r
          simp only
          split <;> rfl

theorem putT_size (T : Array Value) (d : Option Tmp) (v : Value) : (putT T d v).size = T.size := by
  cases d <;> simp [putT]

theorem ev_put {T : Array Value} {d : Option Tmp} {v : Value} {x : Operand} (h : ∀ t, d = some t → x ≠ .tmp t) : ev (putT T d v) x = ev T x := by
  cases d with
  | none => rfl
  | some d =>
    cases x with
    | tmp t =>
      have hne : d ≠ t := fun e => h d rfl (e ▸ rfl)
      simp [ev, putT, Array.getElem?_setIfInBounds_ne hne]
    | _ => rfl

theorem putT_comm (T : Array Value) {x y : Option Tmp} (v u : Value) (h : ∀ d, x = some d → y ≠ some d) : putT (putT T x v) y u = putT (putT T y u) x v := by
  cases x with
  | none => rfl
  | some d =>
    cases y with
    | none => rfl
    | some e =>
      have hne : d ≠ e := fun he => h d rfl (he ▸ rfl)
      simp [putT, Array.setIfInBounds_comm _ _ hne]

theorem aPureOp_congr {op : Op} {ρ ρ' : Operand → Value} (h : ∀ x ∈ op.operands, ρ x = ρ' x) : aPureOp P op ρ = aPureOp P op ρ' := by
  have hm : ∀ xs : Array Operand, (∀ x ∈ xs, ρ x = ρ' x) → xs.map ρ = xs.map ρ' := fun xs hx => Array.map_congr_left hx
  have ho : ∀ x : Option Operand, (∀ y ∈ x.toArray, ρ y = ρ' y) → x.map ρ = x.map ρ' := fun x hx => by cases x <;> simp_all
  cases op <;> simp only [Op.operands] at h <;> simp only [aPureOp]
  case move x => rw [h x (by simp)]
  case assign x => rw [h x (by simp)]
  case pick c a b => rw [h c (by simp), h a (by simp), h b (by simp)]
  case nilCheck x => rw [h x (by simp)]
  case binOp b t x y u => rw [h x (by simp), h y (by simp)]
  case unOp u t x => rw [h x (by simp)]
  case convert s d x => rw [h x (by simp)]
  case makeInterface t x => rw [h x (by simp)]
  case makeFunc fn a b => rw [hm a fun x hx => h x (by simp [hx]), hm b fun x hx => h x (by simp [hx])]
  case slice t x lo hi mx => rw [h x (by simp), ho lo fun y hy => h y (by simp [hy]), ho hi fun y hy => h y (by simp [hy]), ho mx fun y hy => h y (by simp [hy])]
  case fieldAddr t x f => rw [h x (by simp)]
  case field t x f => rw [h x (by simp)]
  case indexAddr t x i => rw [h x (by simp), h i (by simp)]
  case index t x i => rw [h x (by simp), h i (by simp)]
  case extract x i => rw [h x (by simp)]
  case build t ps =>
    have : (ps.toList.map fun p => (p.1, ρ p.2)) = ps.toList.map fun p => (p.1, ρ' p.2) := List.map_congr_left fun p hp => by rw [h p.2 (by simp; exact ⟨p.1, by simpa using hp⟩)]
    rw [this]
  case call c =>
    obtain ⟨callee, args, ts⟩ := c
    cases callee with
    | builtin b => dsimp only; rw [hm args fun x hx => h x (by simp [Call.operands, hx])]
    | value f => rfl
    | invoke r m => rfl

theorem aMake_congr {op : Op} {ρ ρ' : Operand → Value} (h : ∀ x ∈ op.operands, ρ x = ρ' x) : aMake P op ρ = aMake P op ρ' := by
  cases op <;> simp only [Op.operands] at h <;> simp only [aMake]
  case box t x => rw [h x (by simp)]
  case buildSlice t n ps =>
    have : (ps.toList.map fun p => (p.1, ρ p.2)) = ps.toList.map fun p => (p.1, ρ' p.2) := List.map_congr_left fun p hp => by rw [h p.2 (by simp; exact ⟨p.1, by simpa using hp⟩)]
    rw [this]
  case makeSlice t l c => rw [h l (by simp), h c (by simp)]
  case makeMap t r => cases r <;> rfl
  case convert s d x => rw [h x (by simp)]

theorem aEff_congr {op : Op} {ρ ρ' : Operand → Value} (h : ∀ x ∈ op.operands, ρ x = ρ' x) (σ : Heap) : aEff P call op ρ σ = aEff P call op ρ' σ := by
  have hm : ∀ xs : Array Operand, (∀ x ∈ xs, ρ x = ρ' x) → xs.map ρ = xs.map ρ' := fun xs hx => Array.map_congr_left hx
  cases op <;> simp only [Op.operands] at h <;> simp only [aEff]
  case store t a v => rw [h a (by simp), h v (by simp)]
  case mapUpdate t m k v => rw [h m (by simp), h k (by simp), h v (by simp)]
  case call c =>
    obtain ⟨callee, args, ts⟩ := c
    cases callee with
    | builtin b =>
      cases b <;> try rfl
      case append =>
        dsimp only
        split
        · rename_i t t' s x hts hargs
          have hs : s ∈ args := by rw [← Array.mem_toList_iff, hargs]; simp
          have hx : x ∈ args := by rw [← Array.mem_toList_iff, hargs]; simp
          rw [h s (by simp [Call.operands, hs]), h x (by simp [Call.operands, hx])]
        · rfl
      case delete =>
        dsimp only
        split
        · rename_i t tl m k hts hargs
          have hs : m ∈ args := by rw [← Array.mem_toList_iff, hargs]; simp
          have hx : k ∈ args := by rw [← Array.mem_toList_iff, hargs]; simp
          rw [h m (by simp [Call.operands, hs]), h k (by simp [Call.operands, hx])]
        · rfl
    | value f => dsimp only; rw [h f (by simp [Call.operands]), hm args fun x hx => h x (by simp [Call.operands, hx])]
    | invoke r m => rfl

theorem core_put {i : Nat} {d : Option Tmp} {v : Value} (h : ∀ t, d = some t → t ∉ (opAt ops i).looksAt ops) (T : Array Value) (σ : Heap) (l : Log) :
    core P call ops pre base i (putT T d v) σ l = core P call ops pre base i T σ l := by
  have hop : ∀ x ∈ (opAt ops i).op.operands, ev (putT T d v) x = ev T x := by
    intro x hx
    refine ev_put fun t ht e => h t ht ?_
    unfold Oper.looksAt
    refine List.mem_append.2 (.inl ?_)
    rw [List.mem_filterMap]
    exact ⟨x, by simpa using hx, by rw [e]⟩
  have hw : aWanted ops (putT T d v) (opAt ops i) = aWanted ops T (opAt ops i) := by
    unfold aWanted
    split
    · rfl
    · rename_i j want hg
      split
      · rfl
      · rename_i t ht
        have : (putT T d v)[t]? = T[t]? := by
          cases d with
          | none => rfl
          | some d =>
            have hne : d ≠ t := fun e => h d rfl (by
              unfold Oper.looksAt
              refine List.mem_append.2 (.inr ?_)
              rw [hg]
              simp only
              rw [ht, e]
              simp)
            simp [putT, Array.getElem?_setIfInBounds_ne hne]
        rw [this]
  have hl : (opAt ops i).op.operands.toList.map (ev (putT T d v)) = (opAt ops i).op.operands.toList.map (ev T) := List.map_congr_left fun x hx => hop x (by simpa using hx)
  unfold core
  rw [hw, hl, aPureOp_congr hop, aMake_congr hop, aEff_congr hop]

/-! ### Masks -/
theorem mask_size : ∀ (M : List Nat) (σ : Heap), (mask σ M).size = σ.size
  | [], _ => rfl
  | s :: ss, σ => by rw [mask, mask_size ss]; simp
theorem mask_get : ∀ (M : List Nat) (σ : Heap) (k : Nat), (mask σ M)[k]? = if k ∈ M ∧ k < σ.size then some none else σ[k]?
  | [], σ, k => by simp [mask]
  | s :: ss, σ, k => by
    rw [mask, mask_get ss, Array.getElem?_setIfInBounds]
    simp only [Array.size_setIfInBounds, List.mem_cons]
    by_cases h1 : k ∈ ss ∧ k < σ.size
    · rw [if_pos h1, if_pos ⟨.inr h1.1, h1.2⟩]
    · rw [if_neg h1]
      by_cases h2 : s = k
      · subst h2
        rw [if_pos rfl]
        by_cases h3 : s < σ.size
        · rw [if_pos h3, if_pos ⟨.inl rfl, h3⟩]
        · rw [if_neg h3, if_neg (by omega), Array.getElem?_eq_none (by omega)]
      · rw [if_neg h2, if_neg (by
          rintro ⟨h4 | h4, h5⟩
          · exact h2 h4.symm
          · exact h1 ⟨h4, h5⟩)]
theorem unmask_size : ∀ (M : List Nat) (σ τ : Heap), (unmask σ τ M).size = τ.size
  | [], _, _ => rfl
  | s :: ss, σ, τ => by rw [unmask, unmask_size ss]; simp
theorem unmask_get : ∀ (M : List Nat) (σ τ : Heap) (k : Nat), (unmask σ τ M)[k]? = if k ∈ M ∧ k < τ.size then some (σ.getD k none) else τ[k]?
  | [], σ, τ, k => by simp [unmask]
  | s :: ss, σ, τ, k => by
    rw [unmask, unmask_get ss, Array.getElem?_setIfInBounds]
    simp only [Array.size_setIfInBounds, List.mem_cons]
    by_cases h1 : k ∈ ss ∧ k < τ.size
    · rw [if_pos h1, if_pos ⟨.inr h1.1, h1.2⟩]
    · rw [if_neg h1]
      by_cases h2 : s = k
      · subst h2
        rw [if_pos rfl]
        by_cases h3 : s < τ.size
        · rw [if_pos h3, if_pos ⟨.inl rfl, h3⟩]
        · rw [if_neg h3, if_neg (by omega), Array.getElem?_eq_none (by omega)]
      · rw [if_neg h2, if_neg (by
          rintro ⟨h4 | h4, h5⟩
          · exact h2 h4.symm
          · exact h1 ⟨h4, h5⟩)]

theorem mask_set {σ : Heap} {s : Nat} {o : Option AObj} {M : List Nat} (h : s ∈ M) : mask (σ.setIfInBounds s o) M = mask σ M := by
  apply Array.ext_getElem?
  intro k
  rw [mask_get, mask_get, Array.getElem?_setIfInBounds]
  simp only [Array.size_setIfInBounds]
  by_cases h1 : k ∈ M ∧ k < σ.size
  · rw [if_pos h1, if_pos h1]
  · rw [if_neg h1, if_neg h1]
    split
    · rename_i h2
      subst h2
      have : ¬ s < σ.size := fun h3 => h1 ⟨h, h3⟩
      rw [if_neg this, Array.getElem?_eq_none (by omega)]
    · rfl

theorem mem_masks {i x : Nat} (hx : x < ops.size) (hm : clsAt P ops x = .make) (hb : isBefore pre x i = false) : base + slotOf P ops x ∈ masks P ops pre base i := by
  unfold masks
  rw [List.mem_map]
  exact ⟨x, by simp [List.mem_filter, hx, hm, hb], rfl⟩

theorem slot_lt {x y : Nat} (hxy : x < y) (hm : clsAt P ops x = .make) : slotOf P ops x < slotOf P ops y := by
  unfold slotOf
  have key : ∀ n, x + 1 + n = y → ((List.range x).filter fun j => decide (clsAt P ops j = .make)).length < ((List.range y).filter fun j => decide (clsAt P ops j = .make)).length := by
    intro n
    induction n generalizing y with
    | zero =>
      intro h
      subst h
      rw [List.range_succ, List.filter_append]
      simp [hm]
    | succ n ih =>
      intro h
      subst h
      rw [show x + 1 + (n + 1) = (x + 1 + n) + 1 by omega, List.range_succ, List.filter_append, List.length_append]
      have := ih (y := x + 1 + n) (by omega) rfl
      omega
  exact key (y - (x + 1)) (by omega)

theorem slot_inj {x y : Nat} (hxy : x ≠ y) (hx : clsAt P ops x = .make) (hy : clsAt P ops y = .make) : slotOf P ops x ≠ slotOf P ops y := by
  rcases Nat.lt_or_gt_of_ne hxy with h | h
  · have := slot_lt (P := P) (ops := ops) h hx; omega
  · have := slot_lt (P := P) (ops := ops) h hy; omega
end Go.Abs
