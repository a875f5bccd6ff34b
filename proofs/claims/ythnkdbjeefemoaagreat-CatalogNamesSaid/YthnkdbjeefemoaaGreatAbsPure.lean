/-
  Operations that look at their operands alone: what the deterministic semantics says of them holds of the model's.
-/
import Derived.Test.YthnkdbjeefemoaaGreatAbsRel
import Derived.Laws.StructEq
set_option linter.unusedVariables false
set_option linter.unusedSimpArgs false
namespace Go.Abs
open Go Go.RowKit

variable {P : Program} {μ : Mu}

/-- numbers, bools, strings -/
def flat : Value → Bool
  | .bool _ | .int _ _ | .string _ | .float _ _ | .complex _ _ _ => true
  | _ => false
theorem V.flat {x : Value} (h : flat x = true) : V μ x x := by
  cases x <;> simp [Abs.flat] at h
  · exact .bool _
  · exact .int _ _
  · exact .float _ _
  · exact .complex _ _ _
  · exact .string _
theorem V.of_flat {x y : Value} (h : V μ x y) (hf : Abs.flat x = true) : y = x := by
  cases h <;> simp_all [Abs.flat]

theorem aPure_eq {s : Sem Value} {v : Value} (h : aPure s = some v) : s = .pure v := by
  unfold aPure at h
  split at h
  · simp at h; rw [h]
  · cases h

theorem run_eqGuard_other (op : BinOp) (t : TypeId) (x y : Operand) (a b : Value) (w : World) (h1 : ∀ c d, a = .agg c → b = .agg d → False) (h2 : a ≠ .nilIface) :
    (eqGuard op t x y a b).run P w = .ok () w := by
  have e : eqGuard op t x y a b = if !(op matches .eql | .neq) then pure () else pure () := by
    unfold eqGuard
    cases a <;> cases b <;> first | exact absurd rfl h2 | exact (h1 _ _ rfl rfl).elim | rfl
  rw [e]
  split <;> rfl

theorem binOp_int_flat {op : BinOp} {t : TypeId} {k k' : IntKind} {a b : Int} {v : Value} (h : binOp op t (.int k a) (.int k' b) = .pure v) : flat v = true := by
  have hp : ∀ (x : Value), (Pure.pure x : Sem Value) = Sem.pure x := fun _ => rfl
  have hs : ∀ why, (stuck why : Sem Value) = Sem.halt (.stuck why) := fun _ => rfl
  cases op <;> simp only [binOp, Op.shift, Op.intArith, Op.intDiv, Op.intBits, Op.intCmp] at h <;> (repeat' split at h) <;>
    first
      | (simp only [hp, Sem.pure.injEq] at h; subst h; rfl)
      | (simp only [hs] at h; cases h)
      | (simp [runtimePanic, program, goPanic, Bind.bind, Sem.bind] at h)

theorem binOp_string_flat {op : BinOp} {t : TypeId} {a b : ByteArray} {v : Value} (h : binOp op t (.string a) (.string b) = .pure v) : flat v = true := by
  have hp : ∀ (x : Value), (Pure.pure x : Sem Value) = Sem.pure x := fun _ => rfl
  have hs : ∀ why, (stuck why : Sem Value) = Sem.halt (.stuck why) := fun _ => rfl
  have hu : ∀ u, (unsupported u : Sem Value) = Sem.halt (.unsupported u) := fun _ => rfl
  cases op <;> simp only [binOp, Op.stringOp] at h <;> (repeat' split at h) <;>
    first
      | (simp only [hp, Sem.pure.injEq] at h; subst h; rfl)
      | (simp only [hs] at h; cases h)
      | (simp only [hu] at h; cases h)

theorem binOp_float_flat {op : BinOp} {t : TypeId} {k k' : FloatKind} {a b : Nat} {v : Value} (hc : isCmp op = true) (h : binOp op t (.float k a) (.float k' b) = .pure v) : flat v = true := by
  have hp : ∀ (x : Value), (Pure.pure x : Sem Value) = Sem.pure x := fun _ => rfl
  have hs : ∀ why, (stuck why : Sem Value) = Sem.halt (.stuck why) := fun _ => rfl
  cases op <;> simp only [isCmp, Bool.false_eq_true] at hc <;> simp only [binOp, Op.floatCmp] at h <;> (repeat' split at h) <;>
    first
      | (simp only [hp, Sem.pure.injEq] at h; subst h; rfl)
      | (simp only [hs] at h; cases h)

/-- '==' with nil, in the model -/
theorem nilEq_sound0 (d : Nat) {t : TypeId} {x y x' y' : Value} {b : Bool} (h : nilEq P t x y = some b) (hx : V μ x x') (hy : V μ y y') (w : World) : (Op.equalIn (d + 1) t x' y').run P w = .ok b w := by
  unfold nilEq at h
  split at h
  all_goals first | (cases h; done) | skip
  all_goals (simp only [Option.some.injEq] at h; rename_i hu; subst h)
  all_goals (cases hx <;> cases hy <;> simp [Op.equalIn, run_underlying hu])

theorem nilEq_sound {t : TypeId} {x y x' y' : Value} {b : Bool} (h : nilEq P t x y = some b) (hx : V μ x x') (hy : V μ y y') (w : World) : (Op.equal t x' y').run P w = .ok b w :=
  nilEq_sound0 9999 h hx hy w

theorem structEqF_sound {xs ys xs' ys' : Array Value} (hx : VA μ xs xs') (hy : VA μ ys ys') (d : Nat) (w : World) :
    ∀ (fs : List Field) (b : Bool), structEqF P xs ys fs = some b → (Op.eqFields (d + 1) xs' ys' fs).run P w = .ok b w
  | [], b, h => by simp only [structEqF, Option.some.injEq] at h; subst h; simp [Op.eqFields]
  | f :: fs, b, h => by
    have ih := structEqF_sound hx hy d w fs
    unfold structEqF at h
    split at h
    · cases h
    · rename_i hn
      have part : ∀ (zs zs' : Array Value) (v : Value), VA μ zs zs' → zs[f.offset]? = some v → Abs.flat v = true → (∃ t', P.underlying f.type = some t' ∧ (t' = .bool ∨ t' = .string ∨ ∃ k, t' = .int k)) →
          (Go.part f.type zs' f.offset).run P w = .ok v w := by
        intro zs zs' v hz hv hfl ⟨t', ht, hk⟩
        obtain ⟨u, hu⟩ : ∃ u, zs'[f.offset]? = some u := by
          have hlt : f.offset < zs.size := by
            rcases Nat.lt_or_ge f.offset zs.size with h1 | h1
            · exact h1
            · rw [Array.getElem?_eq_none h1] at hv; cases hv
          exact ⟨_, Array.getElem?_eq_getElem (by rw [← hz.1]; exact hlt)⟩
        have := (hz.2 _ _ _ hv hu).of_flat hfl
        subst this
        rcases hk with rfl | rfl | ⟨k, rfl⟩ <;> simp [Go.part, isAgg, run_underlying ht, hu]
      split at h
      · rename_i a c ht ha hc
        simp only [Op.eqFields, ne_eq, hn, not_false_eq_true, if_true, Sem.run_bind, part xs xs' _ hx ha rfl ⟨_, ht, .inl rfl⟩, part ys ys' _ hy hc rfl ⟨_, ht, .inl rfl⟩, Result.andThen_ok, run_equalIn_bool' w d _ _ _ ht]
        split at h
        · rename_i e; simp only [e, Bool.not_true, Bool.false_eq_true, if_false]; exact ih b h
        · rename_i e; simp only [Option.some.injEq] at h; subst h; simp [e]
      · rename_i k' k a k2 c ht ha hc
        split at h
        · rename_i hk
          subst hk
          simp only [Op.eqFields, ne_eq, hn, not_false_eq_true, if_true, Sem.run_bind, part xs xs' _ hx ha rfl ⟨_, ht, .inr (.inr ⟨_, rfl⟩)⟩, part ys ys' _ hy hc rfl ⟨_, ht, .inr (.inr ⟨_, rfl⟩)⟩, Result.andThen_ok, run_equalIn_int w d _ _ _ _ _ ht]
          split at h
          · rename_i e; simp only [e, Bool.not_true, Bool.false_eq_true, if_false]; exact ih b h
          · rename_i e; simp only [Option.some.injEq] at h; subst h; simp [e]
        · cases h
      · rename_i a c ht ha hc
        simp only [Op.eqFields, ne_eq, hn, not_false_eq_true, if_true, Sem.run_bind, part xs xs' _ hx ha rfl ⟨_, ht, .inr (.inl rfl)⟩, part ys ys' _ hy hc rfl ⟨_, ht, .inr (.inl rfl)⟩, Result.andThen_ok, run_equalIn_string w d _ _ _ ht]
        have hb : (a.toList == c.toList) = (a == c) := (beq_toListBytes a c).symm
        split at h
        · rename_i e; simp only [hb, e, Bool.not_true, Bool.false_eq_true, if_false]; exact ih b h
        · rename_i e; simp only [Option.some.injEq] at h; subst h; simp [hb, e]
      · cases h

theorem structEq_sound {t : TypeId} {xs ys xs' ys' : Array Value} {b : Bool} (h : structEq P t xs ys = some b) (hx : VA μ xs xs') (hy : VA μ ys ys') (w : World) :
    P.eqGuardType P.depth t = false ∧ (Op.equalIn 10000 t (.agg xs') (.agg ys')).run P w = .ok b w := by
  unfold structEq at h
  split at h
  · rename_i fields ht
    split at h
    · cases h
    · rename_i hg
      simp only [Bool.or_eq_true, not_or, Bool.not_eq_true] at hg
      have hf : P.fieldsOf t = fields := by simp [Program.fieldsOf, ht]
      refine ⟨hg.1, ?_⟩
      rw [run_equalIn_agg w 9999 t xs' ys' (by rw [hf]; exact ht) hg.2, hf]
      exact structEqF_sound hx hy 9998 w _ _ h
  · cases h

theorem aBin_sound {op : BinOp} {t : TypeId} {x y x' y' v : Value} (xo yo : Operand) (h : aBin P op t x y = some v) (hx : V μ x x') (hy : V μ y y') (w : World) :
    ∃ v', (do eqGuard op t xo yo x' y'; binOp op t x' y' : Sem Value).run P w = .ok v' w ∧ V μ v v' := by
  unfold aBin at h
  split at h
  · rename_i k a k' b
    obtain rfl := hx.of_flat rfl
    obtain rfl := hy.of_flat rfl
    have h1 := aPure_eq h
    exact ⟨v, by rw [Sem.run_bind, run_eqGuard_other op t xo yo _ _ w (by simp) (by simp), Result.andThen_ok, h1]; rfl, .flat (binOp_int_flat h1)⟩
  · rename_i a b
    obtain rfl := hx.of_flat rfl
    obtain rfl := hy.of_flat rfl
    have h1 := aPure_eq h
    exact ⟨v, by rw [Sem.run_bind, run_eqGuard_other op t xo yo _ _ w (by simp) (by simp), Result.andThen_ok, h1]; rfl, .flat (binOp_string_flat h1)⟩
  · split at h
    · rename_i hc
      obtain rfl := hx.of_flat rfl
      obtain rfl := hy.of_flat rfl
      have h1 := aPure_eq h
      exact ⟨v, by rw [Sem.run_bind, run_eqGuard_other op t xo yo _ _ w (by simp) (by simp), Result.andThen_ok, h1]; rfl, .flat (binOp_float_flat hc h1)⟩
    · cases h
  · split at h
    · rename_i hk
      subst hk
      obtain rfl := hx.of_flat rfl
      obtain rfl := hy.of_flat rfl
      split at h
      · simp only [Option.some.injEq] at h
        subst h
        exact ⟨_, by rw [Sem.run_bind, run_eqGuard_other _ t xo yo _ _ w (by simp) (by simp), Result.andThen_ok]; simp [binOp, Op.complexOp, Op.Complex.cmp, Op.floatCmp, asBool, Op.floatEq], .bool _⟩
      · simp only [Option.some.injEq] at h
        subst h
        exact ⟨_, by rw [Sem.run_bind, run_eqGuard_other _ t xo yo _ _ w (by simp) (by simp), Result.andThen_ok]; simp [binOp, Op.complexOp, Op.Complex.cmp, Op.floatCmp, asBool, Op.floatEq], .bool _⟩
      · cases h
    · cases h
  · rename_i xs ys
    cases hx with
    | agg _ xs' hp h1 =>
    cases hy with
    | agg _ ys' hq h2 =>
    split at h
    · simp only [Option.map_eq_some_iff] at h
      obtain ⟨b, hb, rfl⟩ := h
      obtain ⟨hg, hr⟩ := structEq_sound hb ⟨hp, h1⟩ ⟨hq, h2⟩ w
      exact ⟨.bool b, by rw [Sem.run_bind, run_eqGuard_agg w _ t xo yo xs' ys' hg, Result.andThen_ok, run_eql_struct, hr]; rfl, .bool _⟩
    · simp only [Option.map_eq_some_iff] at h
      obtain ⟨b, hb, rfl⟩ := h
      obtain ⟨hg, hr⟩ := structEq_sound hb ⟨hp, h1⟩ ⟨hq, h2⟩ w
      exact ⟨.bool (!b), by rw [Sem.run_bind, run_eqGuard_agg w _ t xo yo xs' ys' hg, Result.andThen_ok, run_neq_struct, hr]; rfl, .bool _⟩
    · cases h
  · have key : ∀ b, nilEq P t x y = some b → (eqGuard op t xo yo x' y').run P w = .ok () w ∧ (binOp .eql t x' y').run P w = .ok (.bool b) w ∧ (binOp .neq t x' y').run P w = .ok (.bool (!b)) w := by
      intro b hb
      have hr := nilEq_sound hb hx hy w
      have hsh : (∀ c d, x' = .agg c → y' = .agg d → False) ∧ x' ≠ .nilIface := by
        unfold nilEq at hb
        split at hb <;> first | (cases hb; done) | (cases hx <;> exact ⟨by intros; simp_all, by simp⟩)
      have hb2 : (∀ k a k' b, x' = .int k a → y' = .int k' b → False) ∧ True := ⟨by
        unfold nilEq at hb
        split at hb <;> first | (cases hb; done) | (cases hx <;> simp), trivial⟩
      refine ⟨run_eqGuard_other op t xo yo x' y' w hsh.1 hsh.2, ?_, ?_⟩
      · unfold nilEq at hb
        split at hb <;> first | (cases hb; done) | (cases hx <;> cases hy <;> simp_all [binOp])
      · unfold nilEq at hb
        split at hb <;> first | (cases hb; done) | (cases hx <;> cases hy <;> simp_all [binOp])
    split at h
    · simp only [Option.map_eq_some_iff] at h
      obtain ⟨b, hb, rfl⟩ := h
      obtain ⟨h1, h2, _⟩ := key b hb
      exact ⟨.bool b, by rw [Sem.run_bind, h1, Result.andThen_ok, h2], .bool _⟩
    · simp only [Option.map_eq_some_iff] at h
      obtain ⟨b, hb, rfl⟩ := h
      obtain ⟨h1, _, h2⟩ := key b hb
      exact ⟨.bool (!b), by rw [Sem.run_bind, h1, Result.andThen_ok, h2], .bool _⟩
    · cases h
end Go.Abs
