/-
  Code and functions: what the deterministic semantics says of a call holds of the model's.
-/
import Derived.Test.YthnkdbjeefemoaaGreatAbsRegion
set_option linter.unusedVariables false
set_option linter.unusedSimpArgs false
namespace Go.Abs
open Go Go.RowKit

variable {P : Program} {call : CallFn}

def AExit.to : AExit → Exit
  | .normal => .normal
  | .exit i => .exit i
  | .goto l => .goto l
  | .ret => .ret

/-- the code goes where the deterministic semantics says -/
def Goes (P : Program) (c : Code) (T : Array Value) (σ : Heap) (e : AExit) (T' : Array Value) (σ' : Heap) : Prop :=
  ∀ (μ : Mu) (w : World) (a : Act), Rel μ σ w → VA μ T a.tmps → a.defers = [] → ∀ Q : Exit → Act → World → Prop,
    (∀ μ' a' w', Rel μ' σ' w' → VA μ' T' a'.tmps → a'.defers = [] → Ext μ σ w μ' σ' w' → Q e.to a' w') → c.wp P Q a w

theorem restrict_sound {μ : Mu} {T T' : Array Value} (h : VA μ T T') (L : List Nat) : VA μ (restrict L T) T' := by
  unfold restrict
  have key : ∀ (L : List Nat) (A : Array Value), VA μ A T' → VA μ (L.foldl (fun A t => A.setIfInBounds t (T.getD t undef)) A) T' := by
    intro L
    induction L with
    | nil => intro A hA; exact hA
    | cons t L ih =>
      intro A hA
      refine ih _ ⟨by simp [hA.1], fun i x y hx hy => ?_⟩
      rw [Array.getElem?_setIfInBounds] at hx
      split at hx
      · rename_i hti
        subst hti
        split at hx
        · rename_i hlt
          simp only [Option.some.injEq] at hx
          subst hx
          have hlt' : t < T.size := by rw [h.1, ← hA.1]; exact hlt
          have : T.getD t undef = T[t] := by simp [hlt']
          rw [this]
          exact h.2 t _ y (Array.getElem?_eq_getElem hlt') hy
        · cases hx
      · exact hA.2 i x y hx hy
  refine key L _ ⟨by simp [h.1], fun i x y hx hy => ?_⟩
  rw [Array.getElem?_replicate] at hx
  split at hx
  · simp only [Option.some.injEq] at hx
    subst hx
    exact .unk y
  · cases hx

theorem Goes.seq {c d : Code} {T T1 T2 : Array Value} {σ σ1 σ2 : Heap} {e : AExit} (h1 : Goes P c T σ .normal T1 σ1) (h2 : Goes P d T1 σ1 e T2 σ2) : Goes P (.seq c d) T σ e T2 σ2 := by
  intro μ w a hr hT hd Q hQ
  refine wp_seq (h1 μ w a hr hT hd _ fun μ1 a1 w1 hr1 hT1 hd1 hE1 => ?_)
  exact h2 μ1 w1 a1 hr1 hT1 hd1 Q fun μ2 a2 w2 hr2 hT2 hd2 hE2 => hQ μ2 a2 w2 hr2 hT2 hd2 (hE1.trans hE2)

theorem Goes.seq_out {c d : Code} {T T1 : Array Value} {σ σ1 : Heap} {e : AExit} (he : e ≠ .normal) (h1 : Goes P c T σ e T1 σ1) : Goes P (.seq c d) T σ e T1 σ1 := by
  intro μ w a hr hT hd Q hQ
  refine wp_seq (h1 μ w a hr hT hd _ fun μ1 a1 w1 hr1 hT1 hd1 hE1 => ?_)
  have := hQ μ1 a1 w1 hr1 hT1 hd1 hE1
  cases e with
  | normal => exact absurd rfl he
  | _ => exact this

theorem loop_sound {c : Code} {f : Body} (hf : ∀ T σ e T' σ', f T σ = some (e, T', σ') → Goes P c T σ e T' σ') {L : List Nat} :
    ∀ (n : Nat) (T : Array Value) (σ : Heap) (e : AExit) (T' : Array Value) (σ' : Heap), aLoop f L n T σ = some (e, T', σ') → Goes P (.loop c) T σ e T' σ' := by
  have key : ∀ (n : Nat) (T : Array Value) (σ : Heap) (e : AExit) (T' : Array Value) (σ' : Heap), aLoop f L n T σ = some (e, T', σ') → ∀ (μ : Mu) (w : World) (a : Act), Rel μ σ w → VA μ T a.tmps → a.defers = [] →
      ∀ Q : Exit → Act → World → Prop, (∀ μ' a' w', Rel μ' σ' w' → VA μ' T' a'.tmps → a'.defers = [] → Ext μ σ w μ' σ' w' → Q e.to a' w') → ∀ (b : Frame) (k : List Item) (cs : List Frame),
      ∃ e a' w', Q e a' w' ∧ Arrives P (lone (b.at a (.code c :: .inLoop c :: k)) cs w) b k cs e a' w' := by
    intro n
    induction n with
    | zero => intro T σ e T' σ' h; cases h
    | succ n ih =>
      intro T σ e T' σ' h μ w a hr hT hd Q hQ b k cs
      simp only [aLoop] at h
      split at h
      · rename_i T1 σ1 hb
        obtain ⟨e1, a1, w1, hq, harr⟩ := hf _ _ _ _ _ hb μ w a hr (restrict_sound hT L) hd
          (fun e a' w' => e = .normal ∧ ∃ μ', Rel μ' σ1 w' ∧ VA μ' T1 a'.tmps ∧ a'.defers = [] ∧ Ext μ σ w μ' σ1 w')
          (fun μ' a' w' h1 h2 h3 h4 => ⟨rfl, μ', h1, h2, h3, h4⟩) b (.inLoop c :: k) cs
        obtain ⟨rfl, μ1, hr1, hT1, hd1, hE1⟩ := hq
        obtain ⟨e2, a2, w2, hq2, harr2⟩ := ih T1 σ1 e T' σ' h μ1 w1 a1 hr1 hT1 hd1 Q (fun μ' a' w' h1 h2 h3 h4 => hQ μ' a' w' h1 h2 h3 (hE1.trans h4)) b k cs
        exact ⟨e2, a2, w2, hq2, .of_steps (Steps.trans harr (.one step_inLoop)) harr2⟩
      · rename_i hne
        obtain ⟨e1, a1, w1, hq, harr⟩ := hf _ _ _ _ _ h μ w a hr (restrict_sound hT L) hd (fun e' a' w' => e' = e.to ∧ Q e' a' w') (fun μ' a' w' h1 h2 h3 h4 => ⟨rfl, hQ μ' a' w' h1 h2 h3 h4⟩) b (.inLoop c :: k) cs
        obtain ⟨rfl, hq⟩ := hq
        cases e with
        | normal => exact absurd h (hne _ _)
        | exit id => exact ⟨_, a1, w1, hq, .pass (x := .inLoop c) rfl (fun _ _ => .inl (by simp [AExit.to])) harr⟩
        | goto l => exact ⟨_, a1, w1, hq, .pass (x := .inLoop c) rfl (fun _ _ => .inl (by simp [AExit.to])) harr⟩
        | ret => exact ⟨_, a1, w1, hq, .pass (x := .inLoop c) rfl (fun _ _ => .inl (by simp [AExit.to])) harr⟩
  intro n T σ e T' σ' h μ w a hr hT hd Q hQ b k cs
  obtain ⟨e, a', w', hq, harr⟩ := key n T σ e T' σ' h μ w a hr hT hd Q hQ b k cs
  exact ⟨e, a', w', hq, .of_steps (.one step_loop) harr⟩

theorem scope_sound {c : Code} {f : Option Nat → Body} (hf : ∀ T σ e T' σ', f none T σ = some (e, T', σ') → Goes P c T σ e T' σ')
    (hl : ∀ l T σ e T' σ', f (some l) T σ = some (e, T', σ') → ∃ rest, findLabel c l = some rest ∧ Goes P rest T σ e T' σ') :
    ∀ (n : Nat) (T : Array Value) (σ : Heap) (e : AExit) (T' : Array Value) (σ' : Heap), aScope f n none T σ = some (e, T', σ') → Goes P (.scope c) T σ e T' σ' := by
  -- from wherever in the scope
  have key : ∀ (n : Nat) (s : Option Nat) (d : Code) (T : Array Value) (σ : Heap) (e : AExit) (T' : Array Value) (σ' : Heap), aScope f n s T σ = some (e, T', σ') →
      (∀ T σ e T' σ', f s T σ = some (e, T', σ') → Goes P d T σ e T' σ') → ∀ (μ : Mu) (w : World) (a : Act), Rel μ σ w → VA μ T a.tmps → a.defers = [] →
      ∀ Q : Exit → Act → World → Prop, (∀ μ' a' w', Rel μ' σ' w' → VA μ' T' a'.tmps → a'.defers = [] → Ext μ σ w μ' σ' w' → Q e.to a' w') → ∀ (b : Frame) (k : List Item) (cs : List Frame),
      ∃ e a' w', Q e a' w' ∧ Arrives P (lone (b.at a (.code d :: .inScope c :: k)) cs w) b k cs e a' w' := by
    intro n
    induction n with
    | zero => intro s d T σ e T' σ' h; cases h
    | succ n ih =>
      intro s d T σ e T' σ' h hs μ w a hr hT hd Q hQ b k cs
      simp only [aScope] at h
      split at h
      · rename_i l T1 σ1 hb
        obtain ⟨e1, a1, w1, hq, harr⟩ := hs _ _ _ _ _ hb μ w a hr hT hd
          (fun e a' w' => e = .goto l ∧ ∃ μ', Rel μ' σ1 w' ∧ VA μ' T1 a'.tmps ∧ a'.defers = [] ∧ Ext μ σ w μ' σ1 w')
          (fun μ' a' w' h1 h2 h3 h4 => ⟨rfl, μ', h1, h2, h3, h4⟩) b (.inScope c :: k) cs
        obtain ⟨rfl, μ1, hr1, hT1, hd1, hE1⟩ := hq
        obtain ⟨rest, hfl⟩ : ∃ rest, findLabel c l = some rest := by
          cases n with
          | zero => cases h
          | succ n =>
            simp only [aScope] at h
            split at h
            · rename_i hb2; obtain ⟨rest, h1, _⟩ := hl _ _ _ _ _ _ hb2; exact ⟨rest, h1⟩
            · obtain ⟨rest, h1, _⟩ := hl _ _ _ _ _ _ h; exact ⟨rest, h1⟩
        have hrest : ∀ T σ e T' σ', f (some l) T σ = some (e, T', σ') → Goes P rest T σ e T' σ' := by
          intro T σ e T' σ' h
          obtain ⟨r2, h1, h2⟩ := hl l T σ e T' σ' h
          rw [hfl] at h1
          cases h1
          exact h2
        obtain ⟨e2, a2, w2, hq2, harr2⟩ := ih (some l) rest T1 σ1 e T' σ' h hrest μ1 w1 a1 hr1 hT1 hd1 Q (fun μ' a' w' h1 h2 h3 h4 => hQ μ' a' w' h1 h2 h3 (hE1.trans h4)) b k cs
        exact ⟨e2, a2, w2, hq2, .of_steps (harr _ (by simp [gotoIn, hfl])) harr2⟩
      · rename_i hne
        obtain ⟨e1, a1, w1, hq, harr⟩ := hs _ _ _ _ _ h μ w a hr hT hd (fun e' a' w' => e' = e.to ∧ Q e' a' w') (fun μ' a' w' h1 h2 h3 h4 => ⟨rfl, hQ μ' a' w' h1 h2 h3 h4⟩) b (.inScope c :: k) cs
        obtain ⟨rfl, hq⟩ := hq
        cases e with
        | normal => exact ⟨.normal, a1, w1, hq, Steps.trans harr (.one step_inScope)⟩
        | exit id => exact ⟨.exit id, a1, w1, hq, fun k' hk => harr k' (by simp [exitTo, hk])⟩
        | goto l => exact absurd h (hne l _ _)
        | ret => exact ⟨.ret, a1, w1, hq, harr⟩
  intro n T σ e T' σ' h μ w a hr hT hd Q hQ b k cs
  obtain ⟨e, a', w', hq, harr⟩ := key n none c T σ e T' σ' h hf μ w a hr hT hd Q hQ b k cs
  exact ⟨e, a', w', hq, .of_steps (.one step_scope) harr⟩

theorem hasLabel_iff : ∀ (c : Code) (l : Nat), hasLabel c l = true ↔ ∃ r, findLabel c l = some r
  | .seq a b, l => by
    simp only [hasLabel, Bool.or_eq_true, hasLabel_iff a l, hasLabel_iff b l, findLabel]
    cases findLabel a l <;> simp
  | .label l', l => by
    simp only [hasLabel, findLabel]
    split <;> simp_all
  | .skip, _ | .region .., _ | .cond .., _ | .block .., _ | .loop _, _ | .rangeFunc .., _ | .exit _, _ | .scope _, _ | .goto _, _ | .ret, _ | .refuse _, _ => by simp [hasLabel, findLabel]

theorem aCode_sound (hg : Good P) (hcall : CallsOk P call) {keep : Keep} {n : Nat} : ∀ (c : Code),
    (∀ T σ e T' σ', aCode P call keep n c none T σ = some (e, T', σ') → Goes P c T σ e T' σ') ∧
    (∀ l T σ e T' σ', aCode P call keep n c (some l) T σ = some (e, T', σ') → ∃ rest, findLabel c l = some rest ∧ Goes P rest T σ e T' σ') := by
  intro c
  induction c with
  | skip =>
    refine ⟨fun T σ e T' σ' h => ?_, fun l T σ e T' σ' h => by cases h⟩
    simp only [aCode, Option.some.injEq, Prod.mk.injEq] at h
    obtain ⟨rfl, rfl, rfl⟩ := h
    exact fun μ w a hr hT hd Q hQ => wp_skip (hQ μ a w hr hT hd (Ext.refl _ _ _))
  | region id ops draw =>
    refine ⟨fun T σ e T' σ' h => ?_, fun l T σ e T' σ' h => by cases h⟩
    simp only [aCode] at h
    split at h
    · rename_i T1 σ1 hb
      simp only [Option.some.injEq, Prod.mk.injEq] at h
      obtain ⟨rfl, rfl, rfl⟩ := h
      intro μ w a hr hT hd Q hQ
      cases draw with
      | true => exact aDrawn_wp hg hcall hb hr hT hd hQ
      | false =>
        refine wp_region ?_
        have := aOps_wp (ops := ops) hg hcall (Q := Q) ops.toList 0 T T1 σ σ1 μ a w (fun j => by simp) hb hr hT hd hQ
        rw [List.range_eq_range', ← Array.length_toList]
        exact this
    · cases h
  | seq a b iha ihb =>
    constructor
    · intro T σ e T' σ' h
      simp only [aCode] at h
      split at h
      · rename_i T1 σ1 hb
        exact (iha.1 _ _ _ _ _ hb).seq (ihb.1 _ _ _ _ _ h)
      · rename_i hne
        exact (iha.1 _ _ _ _ _ h).seq_out (fun he => by subst he; exact hne _ _ h)
    · intro l T σ e T' σ' h
      simp only [aCode] at h
      split at h
      · rename_i hl
        obtain ⟨ra, hra⟩ := (hasLabel_iff a l).1 hl
        have hfl : findLabel (.seq a b) l = some (.seq ra b) := by simp [findLabel, hra]
        split at h
        · rename_i T1 σ1 hb
          obtain ⟨r, h1, h2⟩ := iha.2 _ _ _ _ _ _ hb
          rw [hra] at h1
          cases h1
          exact ⟨_, hfl, h2.seq (ihb.1 _ _ _ _ _ h)⟩
        · rename_i hne
          obtain ⟨r, h1, h2⟩ := iha.2 _ _ _ _ _ _ h
          rw [hra] at h1
          cases h1
          exact ⟨_, hfl, h2.seq_out (fun he => by subst he; exact hne _ _ h)⟩
      · rename_i hl
        obtain ⟨r, h1, h2⟩ := ihb.2 _ _ _ _ _ _ h
        have : findLabel a l = none := by
          cases hfa : findLabel a l with
          | none => rfl
          | some r => exact absurd ((hasLabel_iff a l).2 ⟨r, hfa⟩) hl
        exact ⟨r, by simp [findLabel, this, h1], h2⟩
  | cond c x y ihx ihy =>
    refine ⟨fun T σ e T' σ' h => ?_, fun l T σ e T' σ' h => by cases h⟩
    simp only [aCode] at h
    split at h
    · rename_i t hc
      intro μ w a hr hT hd Q hQ
      have hV := ev_sound hT c
      rw [hc] at hV
      have hce := hV.of_flat rfl
      cases t with
      | true => exact wp_cond_true hce (ihx.1 _ _ _ _ _ h μ w a hr hT hd Q hQ)
      | false => exact wp_cond_false hce (ihy.1 _ _ _ _ _ h μ w a hr hT hd Q hQ)
    · cases h
  | block id c ih =>
    refine ⟨fun T σ e T' σ' h => ?_, fun l T σ e T' σ' h => by cases h⟩
    simp only [aCode] at h
    intro μ w a hr hT hd Q hQ
    split at h
    · rename_i i T1 σ1 hb
      refine wp_block (ih.1 _ _ _ _ _ hb μ w a hr hT hd _ fun μ' a' w' h1 h2 h3 h4 => ?_)
      split at h
      · rename_i hi
        simp only [Option.some.injEq, Prod.mk.injEq] at h
        obtain ⟨rfl, rfl, rfl⟩ := h
        simp only [AExit.to, Exit.inBlock]
        rw [if_pos hi]
        exact hQ μ' a' w' h1 h2 h3 h4
      · rename_i hi
        simp only [Option.some.injEq, Prod.mk.injEq] at h
        obtain ⟨rfl, rfl, rfl⟩ := h
        simp only [AExit.to, Exit.inBlock]
        rw [if_neg hi]
        exact hQ μ' a' w' h1 h2 h3 h4
    · rename_i hne
      refine wp_block (ih.1 _ _ _ _ _ h μ w a hr hT hd _ fun μ' a' w' h1 h2 h3 h4 => ?_)
      have := hQ μ' a' w' h1 h2 h3 h4
      cases e with
      | exit i => exact absurd h (hne i _ _)
      | _ => exact this
  | loop c ih =>
    refine ⟨fun T σ e T' σ' h => ?_, fun l T σ e T' σ' h => by cases h⟩
    simp only [aCode] at h
    split at h
    · rename_i L L' hk
      split at h
      · rename_i e1 T1 σ1 hb
        simp only [Option.some.injEq, Prod.mk.injEq] at h
        obtain ⟨rfl, rfl, rfl⟩ := h
        intro μ w a hr hT hd Q hQ
        exact loop_sound (fun T σ e T' σ' h => ih.1 T σ e T' σ' h) n T σ e1 T1 σ1 hb μ w a hr hT hd Q fun μ' a' w' h1 h2 h3 h4 => hQ μ' a' w' h1 (restrict_sound h2 L') h3 h4
      · cases h
    · cases h
  | rangeFunc f ps a b iha ihb => exact ⟨fun T σ e T' σ' h => (by cases h), fun l T σ e T' σ' h => (by cases h)⟩
  | exit id =>
    refine ⟨fun T σ e T' σ' h => ?_, fun l T σ e T' σ' h => by cases h⟩
    simp only [aCode, Option.some.injEq, Prod.mk.injEq] at h
    obtain ⟨rfl, rfl, rfl⟩ := h
    exact fun μ w a hr hT hd Q hQ => wp_exit (hQ μ a w hr hT hd (Ext.refl _ _ _))
  | scope c ih =>
    refine ⟨fun T σ e T' σ' h => ?_, fun l T σ e T' σ' h => by cases h⟩
    simp only [aCode] at h
    exact scope_sound (fun T σ e T' σ' h => ih.1 T σ e T' σ' h) (fun l T σ e T' σ' h => ih.2 l T σ e T' σ' h) n T σ e T' σ' h
  | label l =>
    refine ⟨fun T σ e T' σ' h => ?_, fun l' T σ e T' σ' h => ?_⟩
    · simp only [aCode, Option.some.injEq, Prod.mk.injEq] at h
      obtain ⟨rfl, rfl, rfl⟩ := h
      exact fun μ w a hr hT hd Q hQ => wp_label (hQ μ a w hr hT hd (Ext.refl _ _ _))
    · simp only [aCode] at h
      split at h
      · rename_i hl
        simp only [Option.some.injEq, Prod.mk.injEq] at h
        obtain ⟨rfl, rfl, rfl⟩ := h
        exact ⟨.skip, by simp [findLabel, hl], fun μ w a hr hT hd Q hQ => wp_skip (hQ μ a w hr hT hd (Ext.refl _ _ _))⟩
      · cases h
  | goto l =>
    refine ⟨fun T σ e T' σ' h => ?_, fun l T σ e T' σ' h => by cases h⟩
    simp only [aCode, Option.some.injEq, Prod.mk.injEq] at h
    obtain ⟨rfl, rfl, rfl⟩ := h
    exact fun μ w a hr hT hd Q hQ => wp_goto (hQ μ a w hr hT hd (Ext.refl _ _ _))
  | ret =>
    refine ⟨fun T σ e T' σ' h => ?_, fun l T σ e T' σ' h => by cases h⟩
    simp only [aCode, Option.some.injEq, Prod.mk.injEq] at h
    obtain ⟨rfl, rfl, rfl⟩ := h
    exact fun μ w a hr hT hd Q hQ => wp_ret (hQ μ a w hr hT hd (Ext.refl _ _ _))
  | refuse why => exact ⟨fun T σ e T' σ' h => (by cases h), fun l T σ e T' σ' h => (by cases h)⟩

/-! ### Functions -/
def resOne (tmps : Array Value) (r : ResultVar) : Sem Value :=
  match r with
  | .tmp t => pure (tmps.getD t undef)
  | .cell a t => do loadVar t (← asAddr (tmps.getD a undef))

theorem results_eq (fn : Func) (tmps : Array Value) : results fn tmps = (do let vs ← fn.results.mapM (resOne tmps); pure (if h : vs.size = 1 then vs[0] else .tuple vs)) := by
  unfold results
  congr 1

theorem aResultL_sound {μ : Mu} {σ : Heap} {w : World} (hr : Rel μ σ w) {T : Array Value} {tmps : Array Value} (hT : VA μ T tmps) : ∀ (rs : List ResultVar) (vs : List Value), aResultL P T σ rs = some vs →
    ∃ vs' : List Value, (rs.mapM (resOne tmps)).run P w = .ok vs' w ∧ vs.length = vs'.length ∧
      ∀ (i : Nat) (x y : Value), vs[i]? = some x → vs'[i]? = some y → V μ x y
  | [], vs, h => by
    simp only [aResultL, Option.some.injEq] at h
    subst h
    exact ⟨[], by simp, rfl, by simp⟩
  | r :: rs, vs, h => by
    simp only [aResultL] at h
    split at h
    · rename_i v vs1 hv hvs
      simp only [Option.some.injEq] at h
      subst h
      obtain ⟨vs', h1, h2, h3⟩ := aResultL_sound hr hT rs vs1 hvs
      have hget : ∀ t, V μ (T.getD t undef) (tmps.getD t undef) := fun t => ev_sound (a := ⟨tmps, []⟩) hT (.tmp t)
      have : ∃ v', (resOne tmps r).run P w = .ok v' w ∧ V μ v v' := by
        cases r with
        | tmp t =>
          simp only [aResult, Option.some.injEq] at hv
          subst hv
          exact ⟨_, rfl, hget t⟩
        | cell a t =>
          simp only [aResult] at hv
          obtain ⟨v', hl, hV⟩ := aLoad_sound hr hv (hget a)
          refine ⟨v', ?_, hV⟩
          have hp := hget a
          unfold resOne
          dsimp only
          generalize tmps.getD a undef = y at hl hp ⊢
          generalize T.getD a undef = x at hv hp
          unfold aLoad at hv
          split at hv
          · cases hp
            simp only [Instr.loadAt, Instr.sureAddr, Sem.run_bind, Sem.run_pure, Result.andThen_ok] at hl
            simp only [asAddr, Sem.run_bind, Sem.run_pure, Result.andThen_ok, hl]
          · cases hv
      obtain ⟨v', hrun, hV⟩ := this
      refine ⟨v' :: vs', ?_, by simp [h2], fun i x y hx hy => ?_⟩
      · simp only [List.mapM_cons, Sem.run_bind, hrun, Result.andThen_ok, h1, Sem.run_pure]
      · cases i with
        | zero => simp at hx hy; subst hx hy; exact hV
        | succ i => exact h3 i x y (by simpa using hx) (by simpa using hy)
    · cases h

theorem aResults_sound {μ : Mu} {σ : Heap} {w : World} (hr : Rel μ σ w) {fn : Func} {T : Array Value} {tmps : Array Value} (hT : VA μ T tmps) {v : Value} (h : aResults P fn T σ = some v) :
    ∃ v', (results fn tmps).run P w = .ok v' w ∧ V μ v v' := by
  unfold aResults at h
  have main : ∀ vs, aResultL P T σ fn.results.toList = some vs → ∃ vs' : List Value, (fn.results.mapM (resOne tmps)).run P w = .ok vs'.toArray w ∧
      vs.length = vs'.length ∧ ∀ (i : Nat) (x y : Value), vs[i]? = some x → vs'[i]? = some y → V μ x y := by
    intro vs hvs
    obtain ⟨vs', h1, h2, h3⟩ := aResultL_sound hr hT _ _ hvs
    exact ⟨vs', by rw [Array.mapM_eq_mapM_toList]; simp only [Sem.run_map, h1, Result.andThen_ok], h2, h3⟩
  split at h
  · rename_i v1 hvs
    simp only [Option.some.injEq] at h
    subst h
    obtain ⟨vs', h1, h2, h3⟩ := main _ hvs
    match vs', h2 with
    | [y], _ =>
      refine ⟨y, ?_, h3 0 v1 y rfl rfl⟩
      rw [results_eq, Sem.run_bind, h1]
      rfl
  · rename_i vs hne hvs
    simp only [Option.some.injEq] at h
    subst h
    obtain ⟨vs', h1, h2, h3⟩ := main _ hvs
    refine ⟨.tuple vs'.toArray, ?_, .tuple _ _ (by simp [h2]) fun i x y hx hy => h3 i x y (by simpa using hx) (by simpa using hy)⟩
    rw [results_eq, Sem.run_bind, h1]
    have : vs'.toArray.size ≠ 1 := by
      intro he
      have h4 : vs.length = 1 := by rw [h2]; simpa using he
      obtain ⟨v, rfl⟩ := List.length_eq_one_iff.1 h4
      exact hne v rfl
    simp only [Result.andThen_ok, Sem.run_pure]
    rw [dif_neg this]
  · cases h

theorem aBody_sound (hg : Good P) (hcall : CallsOk P call) {keep : Keep} {n : Nat} {f : FuncId} {fn : Func} (hf : P.funcs[f]? = some fn) {args : Array Value} {σ σ' : Heap} {r : Value} (h : aBody P call keep n fn args σ = some (r, σ')) :
    CallOk P f args σ r σ' := by
  unfold aBody at h
  split at h
  · rename_i c hc
    refine ⟨⟨fn, hf, by simp [hc]⟩, fun μ w args' hr hargs => ?_⟩
    have hT : VA μ (args ++ Array.replicate (fn.ntmps - args.size) undef) (args' ++ Array.replicate (fn.ntmps - args'.size) undef) := by
      rw [← hargs.1]
      refine hargs.append ⟨rfl, fun i x y hx hy => ?_⟩
      rw [hx] at hy
      cases hy
      rw [Array.getElem?_replicate] at hx
      split at hx
      · cases hx; exact V.undef μ
      · cases hx
    refine calls_of_wp hf hc ?_
    have main : ∀ e T σ1, aCode P call keep n c none (args ++ Array.replicate (fn.ntmps - args.size) undef) σ = some (e, T, σ1) → (e = .normal ∨ e = .ret) → aResults P fn T σ1 = some r → σ' = σ1 →
        c.wp P (bodyPost P fn (Post μ σ w r σ')) { tmps := args' ++ Array.replicate (fn.ntmps - args'.size) undef, defers := [] } w := by
      intro e T σ1 hcode he hres hs
      subst hs
      refine (aCode_sound hg hcall c).1 _ _ _ _ _ hcode μ w _ hr hT rfl _ fun μ' a' w' h1 h2 h3 h4 => ?_
      obtain ⟨v', hrun, hV⟩ := aResults_sound h1 h2 hres
      rcases he with rfl | rfl
      · exact ⟨h3, v', hrun, v', μ', rfl, hV, h1, h4⟩
      · exact ⟨h3, v', hrun, v', μ', rfl, hV, h1, h4⟩
    split at h
    · rename_i T σ1 hcode
      simp only [Option.map_eq_some_iff, Prod.mk.injEq] at h
      obtain ⟨v, hv, rfl, rfl⟩ := h
      exact main _ _ _ hcode (.inl rfl) hv rfl
    · rename_i T σ1 hcode
      simp only [Option.map_eq_some_iff, Prod.mk.injEq] at h
      obtain ⟨v, hv, rfl, rfl⟩ := h
      exact main _ _ _ hcode (.inr rfl) hv rfl
    · cases h
  · cases h

/-- the given contracts hold -/
def PrimsOk (P : Program) (prim : FuncId → Option PrimFn) : Prop := ∀ f p, prim f = some p → ∀ args σ r σ', p args σ = some (r, σ') → CallOk P f args σ r σ'

theorem aFunc_sound (hg : Good P) {prim : FuncId → Option PrimFn} (hp : PrimsOk P prim) {keep : FuncId → Keep} : ∀ n, CallsOk P (aFunc P prim keep n)
  | 0 => fun f args σ r σ' h => by cases h
  | n + 1 => fun f args σ r σ' h => by
    unfold aFunc at h
    split at h
    · rename_i p hpf
      exact hp f p hpf args σ r σ' h
    · split at h
      · rename_i fn hf
        exact aBody_sound hg (aFunc_sound hg hp n) hf h
      · cases h
end Go.Abs
