/-
  Operations that look at their operands alone: all of them. Those that read.
-/
import Derived.Test.YthnkdbjeefemoaaGreatAbsPure3
set_option linter.unusedVariables false
set_option linter.unusedSimpArgs false
namespace Go.Abs
open Go Go.RowKit

variable {P : Program} {μ : Mu}

theorem aFieldAddr_sound {t : TypeId} {x x' v : Value} {f : Nat} (h : aFieldAddr P t x f = some v) (hx : V μ x x') (w : World) :
    ∃ v', (Instr.fieldAt t x' f).run P w = .ok v' w ∧ V μ v v' := by
  unfold aFieldAddr at h
  split at h
  · rename_i fields hu
    split at h
    · rename_i f' b o hf
      split at h
      · rename_i i hi
        split at h
        · cases h
        · rename_i hs
          simp only [Option.some.injEq] at h
          subst h
          cases hx with
          | ptr _ _ e hμ =>
          refine ⟨.pointer (some ⟨e.blk, e.off + (o + f'.offset), none⟩), ?_, .ptr _ _ _ hμ⟩
          simp only [Instr.fieldAt, Sem.run_bind, run_underlying hu, Result.andThen_ok, hf, Instr.sureAddr, Sem.run_pure, fieldPlace, run_info hi]
          rw [if_neg hs]
          simp [Addr.add_mid, Nat.add_assoc]
      · cases h
    · cases h
  · cases h

theorem aField_sound {t : TypeId} {x x' v : Value} {f : Nat} (h : aField P t x f = some v) (hx : V μ x x') (w : World) :
    ∃ v', (Instr.field t x' f).run P w = .ok v' w ∧ V μ v v' := by
  unfold aField at h
  split at h
  · rename_i fields cs hu
    split at h
    · rename_i f' hf
      cases hx with
      | agg _ cs' hp h1 =>
      obtain ⟨v', hr, hV⟩ := aPart_sound h ⟨hp, h1⟩ w
      exact ⟨v', by simp [Instr.field, run_underlying hu, hf, asAgg, hr], hV⟩
    · cases h
  · cases h

theorem aIndexAddr_sound {t : TypeId} {x x' i i' v : Value} (h : aIndexAddr P t x i = some v) (hx : V μ x x') (hi : V μ i i') (w : World) :
    ∃ v', (Instr.indexAt t x' i').run P w = .ok v' w ∧ V μ v v' := by
  unfold aIndexAddr at h
  split at h
  · rename_i k n
    obtain rfl := hi.of_flat rfl
    split at h
    · rename_i e b o z len c hu
      split at h
      · rename_i ei hei
        split at h
        · rename_i hle
          simp only [Option.some.injEq] at h
          subst h
          cases hx with
          | slice _ _ _ _ e' cap hμ hn hr hc =>
            refine ⟨.pointer (some ⟨e'.blk, e'.off + (o + n.toNat * ei.size), none⟩), ?_, .ptr _ _ _ hμ⟩
            simp [Instr.indexAt, asIntOf, run_underlying hu, hle, run_info hei, Addr.add_mid, Nat.add_assoc]
          | sliceEmpty _ _ _ _ a hc => omega
        · cases h
      · cases h
    · rename_i len e b o hu
      split at h
      · rename_i ei hei
        split at h
        · rename_i hle
          simp only [Option.some.injEq] at h
          subst h
          cases hx with
          | ptr _ _ e' hμ =>
            refine ⟨.pointer (some ⟨e'.blk, e'.off + (o + n.toNat * ei.size), none⟩), ?_, .ptr _ _ _ hμ⟩
            simp [Instr.indexAt, asIntOf, run_underlying hu, hle, run_info hei, Addr.add_mid, Nat.add_assoc, Instr.sureAddr]
        · cases h
      · cases h
    · cases h
  · cases h

theorem aIndex_sound {t : TypeId} {x x' i i' v : Value} (h : aIndex P t x i = some v) (hx : V μ x x') (hi : V μ i i') (w : World) :
    ∃ v', (Instr.index t x' i').run P w = .ok v' w ∧ V μ v v' := by
  unfold aIndex at h
  split at h
  · rename_i k n
    obtain rfl := hi.of_flat rfl
    split at h
    · rename_i s hu
      obtain rfl := hx.of_flat rfl
      split at h
      · rename_i hle
        simp only [Option.some.injEq] at h
        subst h
        refine ⟨_, ?_, .int _ _⟩
        have : s[n.toNat]? = some (s[n.toNat]'hle.2) := getElem?_pos s n.toNat hle.2
        simp [Instr.index, asIntOf, run_underlying hu, hle.1, this]
      · cases h
    · rename_i len e cs hu
      split at h
      · rename_i j hj
        split at h
        · rename_i hle
          cases hx with
          | agg _ cs' hp h1 =>
          obtain ⟨v', hr, hV⟩ := aPart_sound h ⟨hp, h1⟩ w
          exact ⟨v', by simp [Instr.index, asIntOf, run_underlying hu, hle, run_info hj, hr], hV⟩
        · cases h
      · cases h
    · cases h
  · cases h

theorem VA.map {ρ ρ' : Operand → Value} (hρ : ∀ x, V μ (ρ x) (ρ' x)) (xs : Array Operand) : VA μ (xs.map ρ) (xs.map ρ') := by
  refine ⟨by simp, fun i x y hx hy => ?_⟩
  simp only [Array.getElem?_map, Option.map_eq_some_iff] at hx hy
  obtain ⟨a, ha, rfl⟩ := hx
  obtain ⟨b, hb, rfl⟩ := hy
  rw [ha] at hb
  cases hb
  exact hρ a

theorem VA.append {p q p' q' : Array Value} (h : VA μ p p') (k : VA μ q q') : VA μ (p ++ q) (p' ++ q') := by
  refine ⟨by simp [h.1, k.1], fun i x y hx hy => ?_⟩
  rw [Array.getElem?_append] at hx hy
  split at hx
  · rename_i hi
    rw [if_pos (by rw [← h.1]; exact hi)] at hy
    exact h.2 i x y hx hy
  · rename_i hi
    rw [if_neg (by rw [← h.1]; exact hi)] at hy
    rw [← h.1] at hy
    exact k.2 _ x y hx hy

theorem VA.at_ {p p' : Array Value} (h : VA μ p p') {i : Nat} {x : Value} (hx : p[i]? = some x) : ∃ y, p'[i]? = some y ∧ V μ x y := by
  have hlt : i < p.size := by
    rcases Nat.lt_or_ge i p.size with h1 | h1
    · exact h1
    · rw [Array.getElem?_eq_none h1] at hx; cases hx
  have := Array.getElem?_eq_getElem (xs := p') (i := i) (by rw [← h.1]; exact hlt)
  exact ⟨_, this, h.2 i x _ hx this⟩

theorem aBuiltin_sound {b : Builtin} {ts : Array TypeId} {ty : TypeId} {cs : Array Bool} {xs xs' : Array Value} {v : Value} (h : aBuiltin P b ts xs = some v) (hx : VA μ xs xs') (w : World) :
    (builtin b ts ty cs xs').run P w = .ok (.value v) w ∧ V μ v v := by
  obtain ⟨l⟩ := xs
  obtain ⟨l'⟩ := xs'
  have hlen : l.length = l'.length := by simpa using hx.1
  have hV : ∀ (i : Nat) (x y : Value), l[i]? = some x → l'[i]? = some y → V μ x y := fun i x y h1 h2 => hx.2 i x y (by simpa using h1) (by simpa using h2)
  unfold aBuiltin at h
  split at h
  · rename_i t tl x xl ht hxl
    simp only at hxl
    subst hxl
    cases l' with
    | nil => simp at hlen
    | cons x' xl' =>
    have h0 := hV 0 x x' rfl rfl
    have ht0 : ts[0]? = some t := by rw [← Array.getElem?_toList, ht]; rfl
    split at h
    · rename_i s hu
      obtain rfl := h0.of_flat rfl
      simp only [Option.some.injEq] at h
      subst h
      exact ⟨by simp [builtin, Builtin.len_, ht0, run_underlying hu, goInt], .int _ _⟩
    · rename_i e a n c hu
      simp only [Option.some.injEq] at h
      subst h
      refine ⟨?_, .int _ _⟩
      cases h0 <;> simp [builtin, Builtin.len_, ht0, run_underlying hu, goInt]
    · cases h
  · rename_i k x k' y hxl
    simp only at hxl
    subst hxl
    match l', hlen, hV with
    | [x', y'], _, hV =>
      obtain rfl := (hV 0 _ x' rfl rfl).of_flat rfl
      obtain rfl := (hV 1 _ y' rfl rfl).of_flat rfl
      simp only [Option.some.injEq] at h
      subst h
      exact ⟨by simp [builtin, Builtin.min_, Builtin.min2], .int _ _⟩
  · rename_i k x k' y hxl
    simp only at hxl
    subst hxl
    match l', hlen, hV with
    | [x', y'], _, hV =>
      obtain rfl := (hV 0 _ x' rfl rfl).of_flat rfl
      obtain rfl := (hV 1 _ y' rfl rfl).of_flat rfl
      simp only [Option.some.injEq] at h
      subst h
      exact ⟨by simp [builtin, Builtin.max_, Builtin.max2], .int _ _⟩
  · rename_i k x k' y hxl
    simp only at hxl
    subst hxl
    match l', hlen, hV with
    | [x', y'], _, hV =>
      obtain rfl := (hV 0 _ x' rfl rfl).of_flat rfl
      obtain rfl := (hV 1 _ y' rfl rfl).of_flat rfl
      split at h
      · rename_i hk
        subst hk
        simp only [Option.some.injEq] at h
        subst h
        exact ⟨by cases k <;> rfl, .complex _ _ _⟩
      · cases h
  · rename_i k x y hxl
    simp only at hxl
    subst hxl
    match l', hlen, hV with
    | [x'], _, hV =>
      obtain rfl := (hV 0 _ x' rfl rfl).of_flat rfl
      simp only [Option.some.injEq] at h
      subst h
      exact ⟨rfl, .float _ _⟩
  · rename_i k x y hxl
    simp only at hxl
    subst hxl
    match l', hlen, hV with
    | [x'], _, hV =>
      obtain rfl := (hV 0 _ x' rfl rfl).of_flat rfl
      simp only [Option.some.injEq] at h
      subst h
      exact ⟨rfl, .float _ _⟩
  · cases h

theorem aPureOp_sound (hz : ZeroOk P) {o : Oper} {ρ ρ' : Operand → Value} {v : Value} (hρ : ∀ x, V μ (ρ x) (ρ' x)) (h : aPureOp P o.op ρ = some v) (w : World) :
    ∃ v', (execOp ρ' o).run P w = .ok (.value v') w ∧ V μ v v' := by
  obtain ⟨dst, op, type, pos, after, guard⟩ := o
  simp only at h
  unfold aPureOp at h
  split at h
  · simp only [Option.some.injEq] at h; subst h; exact ⟨_, rfl, hρ _⟩
  · simp only [Option.some.injEq] at h; subst h; exact ⟨_, rfl, hρ _⟩
  · rename_i c a b
    split at h
    · rename_i t hc
      simp only [Option.some.injEq] at h
      subst h
      have hb : ρ' c = .bool t := by
        have := hρ c
        rw [hc] at this
        exact this.of_flat rfl
      refine ⟨_, by simp [execOp, hb, asBool]; rfl, ?_⟩
      split <;> exact hρ _
    · cases h
  · rename_i x
    have hx := hρ x
    simp only [execOp]
    generalize ρ' x = y at hx ⊢
    split at h
    · rename_i a hc
      simp only [Option.some.injEq] at h
      subst h
      rw [hc] at hx
      cases hx with
      | ptr b o e hμ => exact ⟨.pointer (some ⟨e.blk, e.off + o, none⟩), rfl, .ptr _ _ _ hμ⟩
    · rename_i f p q hc
      simp only [Option.some.injEq] at h
      subst h
      rw [hc] at hx
      cases hx with
      | func _ _ _ p' q' h1 h2 h3 h4 => exact ⟨.func (.func f) p' q', rfl, .func _ _ _ _ _ h1 h2 h3 h4⟩
    · cases h
  · rename_i b t x y yt
    obtain ⟨v', hr, hV⟩ := aBin_sound x y h (hρ x) (hρ y) w
    exact ⟨v', by simp only [execOp]; rw [Sem.run_bind, hr]; rfl, hV⟩
  · rename_i u xt x
    obtain ⟨hr, hV⟩ := aUn_sound (P := P) h (hρ x) w
    exact ⟨v, by simp [execOp, hr], hV⟩
  · rename_i s d x
    obtain ⟨hr, hV⟩ := aConv_sound h (hρ x) w
    exact ⟨v, by simp [execOp, hr], hV⟩
  · rename_i t x
    split at h
    · cases h
    · rename_i d hd hu
      simp only [Option.some.injEq] at h
      subst h
      refine ⟨.iface t (ρ' x), ?_, .iface _ _ _ (hρ x)⟩
      simp only [execOp, Instr.makeInterface, Sem.run_bind, run_underlying hu, Result.andThen_ok]
      cases d <;> first | rfl | exact (hd _ rfl).elim
    · cases h
  · rename_i fn first cap
    simp only [Option.some.injEq] at h
    subst h
    refine ⟨.func fn (first.map ρ') (cap.map ρ'), by simp [execOp, Instr.makeFunc], .func _ _ _ _ _ ?_ ?_ ?_ ?_⟩
    · exact (VA.map hρ first).1
    · exact (VA.map hρ cap).1
    · exact (VA.map hρ first).2
    · exact (VA.map hρ cap).2
  · rename_i t x lo hi mx
    obtain ⟨v', hr, hV⟩ := aSlice_sound hρ h (hρ x) w
    exact ⟨v', by simp [execOp, hr], hV⟩
  · rename_i t x f
    obtain ⟨v', hr, hV⟩ := aFieldAddr_sound h (hρ x) w
    exact ⟨v', by simp [execOp, hr], hV⟩
  · rename_i t x f
    obtain ⟨v', hr, hV⟩ := aField_sound h (hρ x) w
    exact ⟨v', by simp [execOp, hr], hV⟩
  · rename_i t x i
    obtain ⟨v', hr, hV⟩ := aIndexAddr_sound h (hρ x) (hρ i) w
    exact ⟨v', by simp [execOp, hr], hV⟩
  · rename_i t x i
    obtain ⟨v', hr, hV⟩ := aIndex_sound h (hρ x) (hρ i) w
    exact ⟨v', by simp [execOp, hr], hV⟩
  · rename_i x i
    have hx := hρ x
    simp only [execOp]
    generalize ρ' x = y at hx ⊢
    split at h
    · rename_i vs hc
      rw [hc] at hx
      cases hx with
      | tuple _ p' hp h1 =>
      obtain ⟨y, hy, hV⟩ := VA.at_ (μ := μ) ⟨hp, h1⟩ h
      exact ⟨y, by simp [Instr.extract, hy], hV⟩
    · cases h
  · rename_i t parts
    obtain ⟨v', hr, hV⟩ := aBuild_sound hz hρ h w
    exact ⟨v', by simp [execOp, hr], hV⟩
  · rename_i b args ts
    obtain ⟨hr, hV⟩ := aBuiltin_sound (ty := type) (cs := args.map fun | .const _ => true | _ => false) h (VA.map hρ args) w
    exact ⟨v, by simp only [execOp, resolve, Sem.run_bind, Sem.run_pure, Result.andThen_ok, invoke]; exact hr, hV⟩
  · cases h
end Go.Abs
