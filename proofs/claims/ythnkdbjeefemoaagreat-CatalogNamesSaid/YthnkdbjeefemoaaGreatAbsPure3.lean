/-
  Operations that look at their operands alone, third part: all of them; then those that read.
-/
import Derived.Test.YthnkdbjeefemoaaGreatAbsPure2
set_option linter.unusedVariables false
set_option linter.unusedSimpArgs false
namespace Go.Abs
open Go Go.RowKit

variable {P : Program} {μ : Mu}

theorem unary_flat {op : UnOp} {x v : Value} (hx : (∃ k n, x = .int k n) ∨ ∃ b, x = .bool b) (h : Op.unary op x = .pure v) : flat v = true := by
  have hp : ∀ (x : Value), (Pure.pure x : Sem Value) = Sem.pure x := fun _ => rfl
  have hs : ∀ why, (stuck why : Sem Value) = Sem.halt (.stuck why) := fun _ => rfl
  rcases hx with ⟨k, n, rfl⟩ | ⟨b, rfl⟩ <;> cases op <;> simp only [Op.unary, Op.intArith, Op.intBits, hp, hs] at h <;> first
    | (simp only [Sem.pure.injEq] at h; subst h; rfl)
    | (cases h; done)

theorem aUn_sound {u : UnOp} {x x' v : Value} (h : aUn u x = some v) (hx : V μ x x') (w : World) : (Op.unary u x').run P w = .ok v w ∧ V μ v v := by
  unfold aUn at h
  split at h
  · obtain rfl := hx.of_flat rfl
    have h1 := aPure_eq h
    exact ⟨by rw [h1]; rfl, .flat (unary_flat (.inl ⟨_, _, rfl⟩) h1)⟩
  · obtain rfl := hx.of_flat rfl
    have h1 := aPure_eq h
    exact ⟨by rw [h1]; rfl, .flat (unary_flat (.inr ⟨_, rfl⟩) h1)⟩
  · cases h

theorem aConv_sound {s d : TypeId} {x x' v : Value} (h : aConv P s d x = some v) (hx : V μ x x') (w : World) : (convert s d x').run P w = .ok v w ∧ V μ v v := by
  unfold aConv at h
  split at h
  · rename_i sd k k' n hs hd
    obtain rfl := hx.of_flat rfl
    simp only [Option.some.injEq] at h
    subst h
    refine ⟨?_, .int _ _⟩
    unfold convert
    simp only [Sem.run_bind, run_underlying hs, run_underlying hd, Result.andThen_ok]
    cases sd <;> rfl
  · rename_i sd k k' n hs hd
    obtain rfl := hx.of_flat rfl
    have h1 := aPure_eq h
    simp only [Conv.intToFloat] at h1
    have h2 : v = .float k (k.nearest n) := by
      have : (Sem.pure (.float k (k.nearest n)) : Sem Value) = .pure v := h1
      injection this with this
      exact this.symm
    subst h2
    refine ⟨?_, .float _ _⟩
    unfold convert
    simp only [Sem.run_bind, run_underlying hs, run_underlying hd, Result.andThen_ok]
    cases sd <;> rfl
  · rename_i sd b hs hd
    obtain rfl := hx.of_flat rfl
    simp only [Option.some.injEq] at h
    subst h
    refine ⟨?_, .string _⟩
    unfold convert
    simp only [Sem.run_bind, run_underlying hs, run_underlying hd, Result.andThen_ok]
    cases sd <;> rfl
  · cases h

theorem aSlice_sound {t : TypeId} {x x' v : Value} {lo hi mx : Option Operand} {ρ ρ' : Operand → Value} (hρ : ∀ x, V μ (ρ x) (ρ' x))
    (h : aSlice P t x (lo.map ρ) (hi.map ρ) (mx.map ρ) = some v) (hx : V μ x x') (w : World) :
    ∃ v', (Instr.sliceAt t x' (lo.map ρ') (hi.map ρ') (mx.map ρ')).run P w = .ok v' w ∧ V μ v v' := by
  unfold aSlice at h
  split at h
  · rename_i s hu
    obtain rfl := hx.of_flat rfl
    split at h
    · rename_i l hh hm hl hhi
      split at h
      · rename_i hle
        simp only [Option.some.injEq] at h
        subst h
        have hm0 : mx = none := by cases mx <;> simp_all
        subst hm0
        refine ⟨.string (s.extract l hh), ?_, .string _⟩
        unfold Instr.sliceAt
        simp only [Sem.run_bind, run_underlying hu, Result.andThen_ok, Instr.slice, Option.map_none, Option.isSome_none, Bool.false_eq_true, if_false, Instr.sliceBounds, Sem.run_pure]
        rcases optNat_spec hρ hl with ⟨rfl, rfl⟩ | ⟨xl, kl, il, rfl, e1, h1, rfl⟩ <;> rcases optNat_spec hρ hhi with ⟨rfl, rfl⟩ | ⟨xh, kh, ih, rfl, e2, h2, rfl⟩
        · simp
        · simp [e2, run_sliceBound kh ih _ _ h2 hle.2]
        · simp [e1, run_sliceBound kl il _ _ h1 hle.1]
        · simp [e1, e2, run_sliceBound kh ih _ _ h2 hle.2, run_sliceBound kl il _ _ h1 hle.1]
      · cases h
    · cases h
  · rename_i e c hu
    cases hx with
    | sliceNil =>
    split at h
    · rename_i ei hm hl hhi hei
      simp only [Option.some.injEq] at h
      subst h
      have hm0 : mx = none := by cases mx <;> simp_all
      subst hm0
      refine ⟨.slice none 0 0, ?_, .sliceNil _⟩
      unfold Instr.sliceAt
      simp only [Sem.run_bind, run_underlying hu, Result.andThen_ok, Instr.slice, Instr.sliceBounds, Sem.run_pure, Option.map_none]
      have hn := run_info hei w
      rcases optNat_spec hρ hl with ⟨rfl, _⟩ | ⟨xl, kl, il, rfl, e1, h1, e1'⟩ <;> rcases optNat_spec hρ hhi with ⟨rfl, _⟩ | ⟨xh, kh, ih, rfl, e2, h2, e2'⟩
      · simp [hn]
      · simp [hn, e2, run_sliceBound kh ih 0 _ h2 (by omega), ← e2']
      · simp [hn, e1, run_sliceBound kl il 0 _ h1 (by omega), ← e1']
      · simp [hn, e1, e2, run_sliceBound kh ih 0 _ h2 (by omega), ← e2', run_sliceBound kl il 0 _ h1 (by omega), ← e1']
    · cases h
  · rename_i e b o z len c hu
    split at h
    · rename_i ei l hh hei hl hhi
      split at h
      · rename_i hz
        have hsz := run_info hei w
        rw [hz] at hsz
        -- the concrete slice
        obtain ⟨a, cap, rfl, hlc⟩ : ∃ a cap, x' = .slice (some a) len cap ∧ len ≤ cap := by
          cases hx with
          | slice _ _ _ _ e cap h hn hr hc => exact ⟨_, _, rfl, hn⟩
          | sliceEmpty _ _ _ _ a hc => exact ⟨_, _, rfl, Nat.le_refl _⟩
        -- what comes out
        have res : ∀ m c', l ≤ hh → hh ≤ m → m ≤ cap → (c' = 0 ∨ c' = m - l + 1) → hh ≤ len →
            V μ (.slice (some ⟨b, o + l * z, some z⟩) (hh - l) c') (.slice (if m = l then some a else (some a).map (·.add (l * z))) (hh - l) (m - l)) := by
          intro m c' h1 h2 h3 h4 h5
          by_cases hml : m = l
          · have : hh - l = 0 := by omega
            rw [if_pos hml, this, show m - l = 0 by omega]
            exact .sliceEmpty _ _ _ _ _ (by omega)
          · rw [if_neg hml]
            cases hx with
            | slice _ _ _ _ e _ hμ hn hr hc =>
              have : (⟨e.blk, e.off + o, none⟩ : Addr).add (l * e.esz) = ⟨e.blk, e.off + (o + l * e.esz), none⟩ := by
                rw [Addr.add_mid, Nat.add_assoc]
              simp only [Option.map_some, this]
              refine .slice _ _ _ _ e _ hμ (by omega) ?_ h4
              have : (m - l) * e.esz + l * e.esz ≤ cap * e.esz := by rw [← Nat.add_mul]; exact Nat.mul_le_mul_right _ (by omega)
              omega
            | sliceEmpty _ _ _ _ a hc => omega
        split at h
        · rename_i hm
          have hm0 : mx = none := by cases mx <;> simp_all
          subst hm0
          split at h
          · rename_i hle
            simp only [Option.some.injEq] at h
            subst h
            refine ⟨_, ?_, res cap (c - l) hle.1 (by omega) (Nat.le_refl _) ?_ hle.2⟩
            · unfold Instr.sliceAt
              simp only [Sem.run_bind, run_underlying hu, Result.andThen_ok, Instr.slice, Instr.sliceBounds, Sem.run_pure, Option.map_none]
              rcases optNat_spec hρ hl with ⟨rfl, rfl⟩ | ⟨xl, kl, il, rfl, e1, h1, rfl⟩ <;> rcases optNat_spec hρ hhi with ⟨rfl, rfl⟩ | ⟨xh, kh, ih, rfl, e2, h2, rfl⟩
              · simp [hsz]
              · simp [hsz, e2, run_sliceBound kh ih cap _ h2 (by omega)]
              · simp [hsz, e1, run_sliceBound kl il _ _ h1 hle.1]
              · simp [hsz, e1, e2, run_sliceBound kh ih cap _ h2 (by omega), run_sliceBound kl il _ _ h1 hle.1]
            · cases hx with
              | slice _ _ _ _ e cap' h hn hr hc => omega
              | sliceEmpty _ _ _ _ a hc => omega
          · cases h
        · rename_i mv hm
          split at h
          · rename_i hiv m hhi' hmm
            split at h
            · rename_i hle
              simp only [Option.some.injEq] at h
              subst h
              refine ⟨_, ?_, res m (m - l + 1) hle.1 hle.2.1 (by omega) (.inr rfl) (by omega)⟩
              rw [← hm] at hmm
              unfold Instr.sliceAt
              simp only [Sem.run_bind, run_underlying hu, Result.andThen_ok, Instr.slice, Instr.sliceBounds, Sem.run_pure]
              rcases optNat_spec hρ hmm with ⟨rfl, _⟩ | ⟨xm, km, im, rfl, e3, h3, rfl⟩
              · cases hm
              rcases optNat_spec hρ hhi with ⟨rfl, _⟩ | ⟨xh, kh, ih, rfl, e2, h2, rfl⟩
              · cases hhi'
              rcases optNat_spec hρ hl with ⟨rfl, rfl⟩ | ⟨xl, kl, il, rfl, e1, h1, rfl⟩
              · simp [hsz, e2, e3, run_sliceBound km im cap _ h3 (by omega), run_sliceBound kh ih im.toNat _ h2 (by omega)]
              · simp [hsz, e1, e2, e3, run_sliceBound km im cap _ h3 (by omega), run_sliceBound kh ih im.toNat _ h2 (by omega), run_sliceBound kl il _ _ h1 hle.1]
            · cases h
          · cases h
      · cases h
    · cases h
  · cases h
end Go.Abs
