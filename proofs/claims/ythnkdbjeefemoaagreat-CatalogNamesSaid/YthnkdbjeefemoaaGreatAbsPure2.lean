/-
  Operations that look at their operands alone, second part.
-/
import Derived.Test.YthnkdbjeefemoaaGreatAbsPure
set_option linter.unusedVariables false
set_option linter.unusedSimpArgs false
namespace Go.Abs
open Go Go.RowKit

variable {P : Program} {μ : Mu}

theorem optNat_spec {ρ ρ' : Operand → Value} (hρ : ∀ x, V μ (ρ x) (ρ' x)) {d n : Nat} {lo : Option Operand} (h : optNat d (lo.map ρ) = some n) :
    (lo = none ∧ n = d) ∨ ∃ x k i, lo = some x ∧ ρ' x = .int k i ∧ 0 ≤ i ∧ n = i.toNat := by
  cases lo with
  | none => simp only [Option.map_none, optNat, Option.some.injEq] at h; exact .inl ⟨rfl, h.symm⟩
  | some x =>
    right
    simp only [Option.map_some] at h
    have hx := hρ x
    generalize ρ x = a at h hx
    unfold optNat at h
    split at h
    · cases ‹_ = (none : Option Value)›
    · rename_i k i he
      simp only [Option.some.injEq] at he
      subst he
      split at h
      · simp only [Option.some.injEq] at h
        exact ⟨x, k, i, rfl, hx.of_flat rfl, by assumption, h.symm⟩
      · cases h
    · cases h

theorem run_sliceBound (k : IntKind) (i : Int) (y : Nat) (code : BoundsCode) (h0 : 0 ≤ i) (h1 : i.toNat ≤ y) (w : World) : (Instr.sliceBound (.int k i) y code).run P w = .ok i.toNat w := by
  have : 0 ≤ i ∧ i ≤ (y : Int) := ⟨h0, by omega⟩
  simp [Instr.sliceBound, asIntOf, this]

theorem run_info {t : TypeId} {i : TypeInfo} (h : P.info? t = some i) (w : World) : (sizeOf t).run P w = .ok i.size w := by
  simp [sizeOf, typeInfo, h]

theorem run_isAgg {t : TypeId} {b : Bool} (h : isAggT P t = some b) (w : World) : (isAgg t).run P w = .ok b w := by
  unfold isAggT at h
  unfold isAgg
  split at h
  · rename_i hu
    simp only [Option.some.injEq] at h
    subst h
    rw [Sem.run_bind, run_underlying hu]; rfl
  · rename_i hu
    simp only [Option.some.injEq] at h
    subst h
    rw [Sem.run_bind, run_underlying hu]; rfl
  · rename_i d hn1 hn2 hu
    simp only [Option.some.injEq] at h
    subst h
    rw [Sem.run_bind, run_underlying hu, Result.andThen_ok]
    cases d <;> first | rfl | (exact (hn1 _ rfl).elim) | (exact (hn2 _ _ rfl).elim)
  · cases h

theorem aPart_sound {t : TypeId} {cs cs' : Array Value} {off : Nat} {v : Value} (h : aPart P t cs off = some v) (hc : VA μ cs cs') (w : World) :
    ∃ v', (part t cs' off).run P w = .ok v' w ∧ V μ v v' := by
  unfold aPart at h
  split at h
  · rename_i ha
    split at h
    · rename_i i hi
      split at h
      · rename_i hle
        simp only [Option.some.injEq] at h
        subst h
        refine ⟨_, by simp [part, run_isAgg ha, run_info hi]; rfl, .agg _ _ ?_ ?_⟩
        · simp [hc.1]
        · intro j x y hx hy
          simp only [Array.getElem?_extract] at hx hy
          split at hx
          · rename_i hj
            rw [if_pos (by rw [← hc.1]; exact hj)] at hy
            exact hc.2 _ _ _ hx hy
          · cases hx
      · cases h
    · cases h
  · rename_i ha
    obtain ⟨u, hu⟩ : ∃ u, cs'[off]? = some u := by
      have hlt : off < cs.size := by
        rcases Nat.lt_or_ge off cs.size with h1 | h1
        · exact h1
        · rw [Array.getElem?_eq_none h1] at h; cases h
      exact ⟨_, Array.getElem?_eq_getElem (by rw [← hc.1]; exact hlt)⟩
    exact ⟨u, by simp [part, run_isAgg ha, hu], hc.2 _ _ _ h hu⟩
  · cases h

theorem fill_sound {place : Nat → Option (Nat × Nat)} : ∀ (parts parts' : List (Nat × Value)) (cs cs' res : Array Value), parts.length = parts'.length →
    (∀ (i : Nat) (x y : Nat × Value), parts[i]? = some x → parts'[i]? = some y → x.1 = y.1 ∧ V μ x.2 y.2) → VA μ cs cs' → Instr.fill place cs parts = some res →
    (∀ (i : Nat) (x : Nat × Value), parts[i]? = some x → x.2 ≠ .chan none) → ∃ res', Instr.fill place cs' parts' = some res' ∧ VA μ res res'
  | [], [], cs, cs', res, _, _, hc, h, _ => by simp only [Instr.fill, Option.some.injEq] at h ⊢; subst h; exact ⟨cs', rfl, hc⟩
  | [], _ :: _, _, _, _, hl, _, _, _, _ => by simp at hl
  | _ :: _, [], _, _, _, hl, _, _, _, _ => by simp at hl
  | (i, v) :: ps, (i', v') :: ps', cs, cs', res, hl, hp, hc, h, hu => by
    obtain ⟨rfl, hV⟩ := hp 0 _ _ rfl rfl
    simp only at hV
    have hcells := hV.cells (hu 0 _ rfl)
    simp only [Instr.fill] at h ⊢
    split at h
    · cases h
    · rename_i off size hpl
      split at h
      · cases h
      · rename_i hsz
        rw [if_neg (by rw [← hcells.1, ← hc.1]; exact hsz)]
        refine fill_sound ps ps' _ _ res (by simpa using hl) (fun j x y hx hy => hp (j + 1) x y (by simpa using hx) (by simpa using hy)) ?_ h (fun j x hx => hu (j + 1) x (by simpa using hx))
        have key : ∀ (l l' : List (Value × Nat)) (a a' : Array Value), l.length = l'.length → (∀ (j : Nat) (x y : Value × Nat), l[j]? = some x → l'[j]? = some y → x.2 = y.2 ∧ V μ x.1 y.1) → VA μ a a' →
            VA μ (l.foldl (fun cs (x : Value × Nat) => cs.setIfInBounds (off + x.2) x.1) a) (l'.foldl (fun cs (x : Value × Nat) => cs.setIfInBounds (off + x.2) x.1) a') := by
          intro l
          induction l with
          | nil =>
            intro l' a a' hl _ ha
            cases l' with
            | nil => exact ha
            | cons _ _ => simp at hl
          | cons x l ih =>
            intro l' a a' hl hh ha
            cases l' with
            | nil => simp at hl
            | cons y l' =>
              obtain ⟨hxy, hxV⟩ := hh 0 x y rfl rfl
              simp only [List.foldl_cons]
              refine ih l' _ _ (by simpa using hl) (fun j p q hp hq => hh (j + 1) p q (by simpa using hp) (by simpa using hq)) ⟨by simp [ha.1], ?_⟩
              intro j p q hp hq
              rw [← hxy] at hq
              rw [Array.getElem?_setIfInBounds] at hp hq
              split at hp
              · rename_i hj
                rw [if_pos hj] at hq
                split at hp
                · rename_i hb
                  rw [if_pos (by rw [← ha.1]; exact hb)] at hq
                  simp only [Option.some.injEq] at hp hq
                  subst hp hq
                  exact hxV
                · cases hp
              · rename_i hj
                rw [if_neg hj] at hq
                exact ha.2 j p q hp hq
        have e1 : ∀ (z a : Array Value), (z.zipIdx.foldl (fun cs (c, j) => cs.setIfInBounds (off + j) c) a) = (z.toList.zipIdx.foldl (fun cs (x : Value × Nat) => cs.setIfInBounds (off + x.2) x.1) a) := by
          intro z a
          rw [← Array.foldl_toList, Array.toList_zipIdx]
        rw [e1, e1]
        refine key _ _ _ _ (by simp [hcells.1]) ?_ hc
        intro j x y hx hy
        simp only [List.getElem?_zipIdx, Option.map_eq_some_iff, Array.getElem?_toList, Nat.zero_add] at hx hy
        obtain ⟨a, ha, rfl⟩ := hx
        obtain ⟨b, hb, rfl⟩ := hy
        exact ⟨rfl, hcells.2 j a b ha hb⟩

theorem fillAll_sound {place : Nat → Option (Nat × Nat)} {parts parts' : List (Nat × Value)} {cs cs' res : Array Value} (hl : parts.length = parts'.length)
    (hp : ∀ (i : Nat) (x y : Nat × Value), parts[i]? = some x → parts'[i]? = some y → x.1 = y.1 ∧ V μ x.2 y.2) (hc : VA μ cs cs') (h : fillAll place cs parts = some res) :
    ∃ res', Instr.fill place cs' parts' = some res' ∧ VA μ res res' := by
  unfold fillAll at h
  split at h
  · rename_i hk
    refine fill_sound parts parts' cs cs' res hl hp hc h fun i x hx he => ?_
    have := (List.all_eq_true.1 hk) x (List.mem_of_getElem? hx)
    rw [he] at this
    cases this
  · cases h

/-- an array of values that are known through and through stands for itself -/
theorem VA.refl_of {cs : Array Value} (h : ∀ (i : Nat) (x : Value), cs[i]? = some x → V μ x x) : VA μ cs cs :=
  ⟨rfl, fun i x y hx hy => by rw [hx] at hy; cases hy; exact h i x hx⟩

theorem V.plain {x : Value} (h : plainV x = true) : V μ x x := by
  unfold plainV at h
  split at h
  · exact .bool _
  · exact .int _ _
  · exact .string _
  · exact .float _ _
  · exact .complex _ _ _
  · exact .nilFunc
  · exact .nilIface
  · exact .ptrNil
  · exact .sliceNil _
  · exact .mapNil
  · cases h
def plainY (v : Value) : Bool :=
  plainV v || match v with
    | .agg vs => vs.all plainV
    | .chan none => true
    | _ => false
theorem V.plainY {v : Value} (h : Abs.plainY v = true) : V μ v v := by
  unfold Abs.plainY at h
  rw [Bool.or_eq_true] at h
  rcases h with h | h
  · exact .plain h
  · split at h
    · rename_i vs
      exact .agg vs vs rfl fun i x y hx hy => by
        rw [hx] at hy; cases hy
        exact .plain (Array.all_eq_true_iff_forall_mem.1 h x (Array.mem_of_getElem? hx))
    · exact .unk _
    · cases h
def plainZ (v : Value) : Bool :=
  plainY v || match v with
    | .tuple vs => vs.all plainY
    | _ => false
theorem V.plainZ {v : Value} (h : Abs.plainZ v = true) : V μ v v := by
  unfold Abs.plainZ at h
  rw [Bool.or_eq_true] at h
  rcases h with h | h
  · exact .plainY h
  · split at h
    · rename_i vs
      exact .tuple vs vs rfl fun i x y hx hy => by
        rw [hx] at hy; cases hy
        exact .plainY (Array.all_eq_true_iff_forall_mem.1 h x (Array.mem_of_getElem? hx))
    · cases h
/-- all zero values of a program's types are plain -/
def ZeroOk (P : Program) : Prop := ∀ (t : TypeId) (i : TypeInfo) (z : Value), tinfo P t = some i → i.zero = some z → z.cells.all plainZ = true
theorem ZeroOk.va (hz : ZeroOk P) {t : TypeId} {i : TypeInfo} {z : Value} (hi : tinfo P t = some i) (h : i.zero = some z) : VA μ z.cells z.cells :=
  VA.refl_of fun j x hx => .plainZ (Array.all_eq_true_iff_forall_mem.1 (hz t i z hi h) x (Array.mem_of_getElem? hx))

theorem partsV {ρ ρ' : Operand → Value} (hρ : ∀ x, V μ (ρ x) (ρ' x)) (parts : Array (Nat × Operand)) :
    ((parts.toList.map fun p => (p.1, ρ p.2)).length = (parts.map fun (i, x) => (i, ρ' x)).toList.length) ∧
    ∀ (i : Nat) (x y : Nat × Value), (parts.toList.map fun p => (p.1, ρ p.2))[i]? = some x → (parts.map fun (i, x) => (i, ρ' x)).toList[i]? = some y → x.1 = y.1 ∧ V μ x.2 y.2 := by
  refine ⟨by simp, fun i x y hx hy => ?_⟩
  simp only [List.getElem?_map, Option.map_eq_some_iff, Array.getElem?_toList, Array.getElem?_map] at hx hy
  obtain ⟨p, hp, rfl⟩ := hx
  obtain ⟨q, hq, rfl⟩ := hy
  rw [hp] at hq
  cases hq
  exact ⟨rfl, hρ _⟩

theorem run_zero {t : TypeId} {i : TypeInfo} {z : Value} (h : P.info? t = some i) (hz : i.zero = some z) (w : World) : (zeroValue t).run P w = .ok z w := by
  simp [zeroValue, typeInfo, h, hz]

theorem aBuild_sound (hz : ZeroOk P) {t : TypeId} {parts : Array (Nat × Operand)} {ρ ρ' : Operand → Value} {v : Value} (hρ : ∀ x, V μ (ρ x) (ρ' x))
    (h : aBuild P t (parts.toList.map fun p => (p.1, ρ p.2)) = some v) (w : World) : ∃ v', (Instr.build t (parts.map fun (i, x) => (i, ρ' x))).run P w = .ok v' w ∧ V μ v v' := by
  obtain ⟨hl, hp⟩ := partsV hρ parts
  unfold aBuild at h
  split at h
  · rename_i hk
    obtain ⟨htl, hk⟩ := hk
    simp only [Option.map_eq_some_iff] at h
    obtain ⟨cs, hcs, rfl⟩ := h
    suffices ∃ cs', P.built t (parts.map fun (i, x) => (i, ρ' x)).toList = some cs' ∧ VA μ cs cs' by
      obtain ⟨cs', h1, h2⟩ := this
      exact ⟨.agg cs', run_build w t _ cs' h1, .agg _ _ h2.1 h2.2⟩
    have hfill : ∀ {place : Nat → Option (Nat × Nat)} {z res : Array Value}, VA μ z z → Instr.fill place z (parts.toList.map fun p => (p.1, ρ p.2)) = some res →
        ∃ res', Instr.fill place z (parts.map fun (i, x) => (i, ρ' x)).toList = some res' ∧ VA μ res res' := by
      intro place z res hz hf
      refine fillAll_sound hl hp hz ?_
      unfold fillAll
      rw [if_pos hk]
      exact hf
    unfold Program.built at hcs ⊢
    split at hcs
    · rename_i it n e hi hu
      split at hcs
      · rename_i z ie hzz he
        simp only [hi, hu, hzz, he]
        exact hfill (hz.va (by unfold tinfo; rw [if_pos htl]; exact hi) hzz) hcs
      · cases hcs
    · rename_i it fields hi hu
      split at hcs
      · rename_i z places hzz hpl
        simp only [hi, hu, hzz, hpl]
        exact hfill (hz.va (by unfold tinfo; rw [if_pos htl]; exact hi) hzz) hcs
      · cases hcs
    · cases hcs
  · cases h
end Go.Abs
