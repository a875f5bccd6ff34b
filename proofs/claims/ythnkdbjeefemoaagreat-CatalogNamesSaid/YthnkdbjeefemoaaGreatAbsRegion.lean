/-
  Regions.
-/
import Derived.Test.YthnkdbjeefemoaaGreatAbsOper
set_option linter.unusedVariables false
set_option linter.unusedSimpArgs false
namespace Go.Abs
open Go Go.RowKit

variable {P : Program} {μ μ0 : Mu} {σ σ0 σ' : Heap} {w w0 : World} {call : CallFn} {ops : Array Oper} {pre : Array Nat} {base : Nat}

theorem wp_of_run {o : Oper} {a : Act} {v' : Value} {w' : World} {K : Act → World → Prop} {Q : Exit → Act → World → Prop} (h : (execOp a.eval o).run P w = .ok (.value v') w') (hk : K (a.put o.dst v') w') : o.wp P a w K Q := by
  unfold Oper.wp
  rw [h]
  exact hk

theorem aOp_wp (hg : Good P) (hcall : CallsOk P call) {o : Oper} {T : Array Value} {a : Act} {v : Value} (hr : Rel μ σ w) (hT : VA μ T a.tmps) (h : aOp P call o T σ = some (v, σ'))
    {K : Act → World → Prop} {Q : Exit → Act → World → Prop} (hk : ∀ v' μ' w', V μ' v v' → Rel μ' σ' w' → Ext μ σ w μ' σ' w' → K (a.put o.dst v') w') : o.wp P a w K Q := by
  have hρ := fun x => ev_sound hT x
  unfold aOp at h
  split at h
  · simp only [Option.map_eq_some_iff, Prod.mk.injEq] at h
    obtain ⟨u, h, rfl, rfl⟩ := h
    obtain ⟨v', h1, h2⟩ := aPureOp_sound hg.zero hρ h w
    exact wp_of_run h1 (hk _ _ _ h2 hr (Ext.refl _ _ _))
  · simp only [Option.map_eq_some_iff, Prod.mk.injEq] at h
    obtain ⟨u, h, rfl, rfl⟩ := h
    obtain ⟨v', h1, h2⟩ := aRead_sound hg.zero hr hρ h
    exact wp_of_run h1 (hk _ _ _ h2 hr (Ext.refl _ _ _))
  · simp only [Option.map_eq_some_iff, Prod.mk.injEq] at h
    obtain ⟨⟨obj, f⟩, h, rfl, rfl⟩ := h
    obtain ⟨v', w', e, h1, h2, h3, h4⟩ := aMake_sound hg.zero hρ w h
    have hμn : μ σ.size = none := by
      cases hm : μ σ.size with
      | none => rfl
      | some e => have := hr.dom _ _ hm; omega
    obtain ⟨h5, h6⟩ := h4 σ.size hμn
    obtain ⟨h7, h8⟩ := fill_new hr (Ext.refl μ σ w) h2 (σ' := σ.push (some obj)) σ.size obj e h3 hμn (Nat.le_refl _) (by simp) (by simp) (by simp) (fun b o hb hgt => by
      rw [Array.getElem?_push, if_neg hb] at hgt; exact hgt) h5
    exact wp_of_run h1 (hk _ _ _ h6 h7 h8)
  · exact aEff_wp hg hcall hr hT h hk

theorem aOps_wp (hg : Good P) (hcall : CallsOk P call) {Q : Exit → Act → World → Prop} : ∀ (l : List Oper) (k : Nat) (T T' : Array Value) (σ σ' : Heap) (μ : Mu) (a : Act) (w : World), (∀ j, l[j]? = ops[k + j]?) →
    aOps P call ops l T σ = some (T', σ') → Rel μ σ w → VA μ T a.tmps → a.defers = [] →
    (∀ μ' a' w', Rel μ' σ' w' → VA μ' T' a'.tmps → a'.defers = [] → Ext μ σ w μ' σ' w' → Q .normal a' w') → wpOps P ops Q (List.range' k l.length) a w
  | [], k, T, T', σ, σ', μ, a, w, _, h, hr, hT, hd, hQ => by
    simp only [aOps, Option.some.injEq, Prod.mk.injEq] at h
    obtain ⟨rfl, rfl⟩ := h
    exact hQ μ a w hr hT hd (Ext.refl _ _ _)
  | o :: l, k, T, T', σ, σ', μ, a, w, hl, h, hr, hT, hd, hQ => by
    have ho : ops[k]? = some o := by have := hl 0; simpa using this.symm
    have hl' : ∀ j, l[j]? = ops[k + 1 + j]? := fun j => by have := hl (j + 1); simpa [Nat.add_assoc, Nat.add_comm 1 j] using this
    simp only [aOps] at h
    simp only [List.length_cons, List.range'_succ, wpOps, ho]
    split at h
    · rename_i hw
      rw [wanted_sound hT hw]
      split at h
      · rename_i v σ1 hop
        rw [if_pos rfl]
        refine .inl (aOp_wp hg hcall hr hT hop fun v' μ' w' hV hR hE => ?_)
        exact aOps_wp hg hcall l (k + 1) _ T' σ1 σ' μ' _ w' hl' h hR (put_sound (hT.mono (hE.le hr)) _ hV) (by rw [put_defers]; exact hd) fun μ'' a' w'' h1 h2 h3 h4 => hQ μ'' a' w'' h1 h2 h3 (hE.trans h4)
      · cases h
    · rename_i hw
      rw [wanted_sound hT hw, if_neg (by simp)]
      exact aOps_wp hg hcall l (k + 1) _ T' σ σ' μ _ w hl' h hr (put_sound hT _ (V.undef μ)) (by rw [put_defers]; exact hd) hQ
    · cases h

/-! ### A region whose order is open -/
structure DRel (P : Program) (ops : Array Oper) (base : Nat) (μ0 : Mu) (σ0 : Heap) (w0 : World) (s : DSt) (todo : Nat → Prop) (μ : Mu) (a : Act) (w : World) : Prop where
  rel : Rel μ s.σ w
  tmps : VA μ s.T a.tmps
  defers : a.defers = []
  ext : Ext μ0 σ0 w0 μ s.σ w
  free : ∀ i, i < ops.size → todo i → clsAt P ops i = .make → μ (base + slotOf P ops i) = none
  room : base + nMake P ops ≤ s.σ.size

theorem mask_sub (σ : Heap) (M : List Nat) : ∀ (b : Nat) (o : AObj), (mask σ M)[b]? = some (some o) → b ∉ M ∧ σ[b]? = some (some o) := by
  intro b o h
  rw [mask_get] at h
  split at h
  · cases h
  · rename_i hn
    have hb : b < σ.size := alive.lt ⟨o, h⟩
    exact ⟨fun hm => hn ⟨hm, hb⟩, h⟩

/-- what was hidden from an operation is as it was behind it -/
theorem Rel.unmask (hr : Rel μ σ w) {M : List Nat} {τ : Heap} {μ' : Mu} {w' : World} (hτ : Rel μ' τ w') (hE : Ext μ (mask σ M) w μ' τ w') :
    Rel μ' (unmask σ τ M) w' := by
  have hsub : ∀ (b : Nat) (o : AObj), (Abs.unmask σ τ M)[b]? = some (some o) → (b ∈ M ∧ σ[b]? = some (some o)) ∨ (b ∉ M ∧ τ[b]? = some (some o)) := by
    intro b o h
    rw [unmask_get] at h
    split at h
    · rename_i hm
      refine .inl ⟨hm.1, ?_⟩
      simp only [Option.some.injEq] at h
      rcases Nat.lt_or_ge b σ.size with h1 | h1
      · rw [Array.getElem?_eq_getElem h1]
        simpa [h1] using h
      · simp [h1] at h
    · rename_i hm
      have hb : b < τ.size := alive.lt ⟨o, h⟩
      exact .inr ⟨fun hmm => hm ⟨hmm, hb⟩, h⟩
  have hmsz : (mask σ M).size = σ.size := mask_size M σ
  have hle : ∀ b e, μ b = some e → μ' b = some e := fun b e hb => (hE.same b (by rw [hmsz]; exact hr.dom b e hb)).trans hb
  -- a hidden object's block has not been touched
  have hid : ∀ b o, b ∈ M → σ[b]? = some (some o) → ∃ e, μ b = some e ∧ μ' b = some e ∧ e.blk < w.heap.size ∧ w'.heap[e.blk]? = w.heap[e.blk]? := by
    intro b o hm hb
    have hal : alive σ b := ⟨o, hb⟩
    obtain ⟨e, he⟩ : ∃ e, μ b = some e := by
      cases o with
      | row r => obtain ⟨e, he, _⟩ := hr.row b r (row?_eq.2 hb); exact ⟨e, he⟩
      | map es c => obtain ⟨e, he, _⟩ := hr.map b es c (map?_eq.2 hb); exact ⟨e, he⟩
    have hlt := hr.blk_lt hal he
    refine ⟨e, he, hle b e he, hlt, hE.frame _ hlt fun b1 e1 hw1 he1 heq => ?_⟩
    have hb1 : b1 ∉ M ∧ wr σ b1 := by
      rcases hw1 with ⟨r, hr1, hro⟩ | ⟨m, hm1⟩
      · have := mask_sub σ M b1 _ (row?_eq.1 hr1); exact ⟨this.1, .inl ⟨r, row?_eq.2 this.2, hro⟩⟩
      · have := mask_sub σ M b1 _ (map?_eq.1 hm1); exact ⟨this.1, .inr ⟨m, map?_eq.2 this.2⟩⟩
    exact hr.sep b1 b e1 e hb1.2 hal (fun e2 => hb1.1 (e2 ▸ hm)) he1 he heq
  have halτ : ∀ b, b ∉ M → alive (Abs.unmask σ τ M) b → alive τ b := by
    intro b hb ⟨o, ho⟩
    rcases hsub b o ho with ⟨h, _⟩ | ⟨_, h⟩
    · exact absurd h hb
    · exact ⟨o, h⟩
  have hwτ : ∀ b, b ∉ M → wr (Abs.unmask σ τ M) b → wr τ b := by
    intro b hb hw
    rcases hw with ⟨r, hr1, hro⟩ | ⟨m, hm1⟩
    · rcases hsub b _ (row?_eq.1 hr1) with ⟨h, _⟩ | ⟨_, h⟩
      · exact absurd h hb
      · exact .inl ⟨r, row?_eq.2 h, hro⟩
    · rcases hsub b _ (map?_eq.1 hm1) with ⟨h, _⟩ | ⟨_, h⟩
      · exact absurd h hb
      · exact .inr ⟨m, map?_eq.2 h⟩
  have hwσ : ∀ b, b ∈ M → wr (Abs.unmask σ τ M) b → wr σ b := by
    intro b hb hw
    rcases hw with ⟨r, hr1, hro⟩ | ⟨m, hm1⟩
    · rcases hsub b _ (row?_eq.1 hr1) with ⟨_, h⟩ | ⟨h, _⟩
      · exact .inl ⟨r, row?_eq.2 h, hro⟩
      · exact absurd hb h
    · rcases hsub b _ (map?_eq.1 hm1) with ⟨_, h⟩ | ⟨h, _⟩
      · exact .inr ⟨m, map?_eq.2 h⟩
      · exact absurd hb h
  have halσ : ∀ b, b ∈ M → alive (Abs.unmask σ τ M) b → alive σ b := by
    intro b hb ⟨o, ho⟩
    rcases hsub b o ho with ⟨_, h⟩ | ⟨h, _⟩
    · exact ⟨o, h⟩
    · exact absurd hb h
  refine ⟨fun b e he => by rw [unmask_size]; exact hτ.dom b e he, ?_, ?_, ?_⟩
  · intro b r hb
    rcases hsub b _ (row?_eq.1 hb) with ⟨hm, h⟩ | ⟨_, h⟩
    · obtain ⟨e, he, he', _, hk⟩ := hid b _ hm h
      obtain ⟨e2, he2, hR⟩ := hr.row b r (row?_eq.2 h)
      obtain rfl : e2 = e := by rw [he] at he2; exact (Option.some.inj he2).symm
      exact ⟨e2, he', hR.keep hle hk⟩
    · exact hτ.row b r (row?_eq.2 h)
  · intro b es c hb
    rcases hsub b _ (map?_eq.1 hb) with ⟨hm, h⟩ | ⟨_, h⟩
    · obtain ⟨e, he, he', _, hk⟩ := hid b _ hm h
      obtain ⟨e2, he2, hR⟩ := hr.map b es c (map?_eq.2 h)
      obtain rfl : e2 = e := by rw [he] at he2; exact (Option.some.inj he2).symm
      exact ⟨e2, he', hR.keep hle hk⟩
    · exact hτ.map b es c (map?_eq.2 h)
  · intro b b' e e' hw ha hne he he'
    -- an object of τ and a hidden one
    have mixed : ∀ (b b' : Nat) (e e' : Place), b ∉ M → b' ∈ M → alive τ b → alive σ b' → (wr τ b ∨ wr σ b') → μ' b = some e → μ' b' = some e' → e.blk ≠ e'.blk := by
      intro b b' e e' hb hb' hal hal' hor he he' heq
      obtain ⟨o', ho'⟩ := hal'
      obtain ⟨e2, he2, he2', hlt, _⟩ := hid b' o' hb' ho'
      obtain rfl : e2 = e' := by rw [he2'] at he'; exact Option.some.inj he'
      have hlt2 : e.blk < w.heap.size := by omega
      rcases hor with hor | hor
      · obtain ⟨b0, e0, hw0, he0, hk0⟩ := hE.own b e hor he hlt2
        have hb0 : b0 ∉ M ∧ wr σ b0 := by
          rcases hw0 with ⟨r, hr1, hro⟩ | ⟨m, hm1⟩
          · have := mask_sub σ M b0 _ (row?_eq.1 hr1); exact ⟨this.1, .inl ⟨r, row?_eq.2 this.2, hro⟩⟩
          · have := mask_sub σ M b0 _ (map?_eq.1 hm1); exact ⟨this.1, .inr ⟨m, map?_eq.2 this.2⟩⟩
        exact hr.sep b0 b' e0 e2 hb0.2 ⟨o', ho'⟩ (fun h => hb0.1 (h ▸ hb')) he0 he2 (by omega)
      · obtain ⟨b0, e0, ⟨o0, ho0⟩, he0, hk0⟩ := hE.old b e hal he hlt2
        have hb0 := mask_sub σ M b0 _ ho0
        exact hr.sep b' b0 e2 e0 hor ⟨o0, hb0.2⟩ (fun h => hb0.1 (h ▸ hb')) he2 he0 (by omega)
    by_cases hb : b ∈ M
    · obtain ⟨o, ho⟩ := (hwσ b hb hw).alive
      obtain ⟨e1, he1, he1', _, _⟩ := hid b o hb ho
      obtain rfl : e1 = e := by rw [he1'] at he; exact Option.some.inj he
      by_cases hb' : b' ∈ M
      · obtain ⟨o', ho'⟩ := halσ b' hb' ha
        obtain ⟨e2, he2, he2', _, _⟩ := hid b' o' hb' ho'
        obtain rfl : e2 = e' := by rw [he2'] at he'; exact Option.some.inj he'
        exact hr.sep b b' e1 e2 (hwσ b hb hw) ⟨o', ho'⟩ hne he1 he2
      · exact Ne.symm (mixed b' b e' e1 hb' hb (halτ b' hb' ha) ⟨o, ho⟩ (.inr (hwσ b hb hw)) he' he)
    · by_cases hb' : b' ∈ M
      · exact mixed b b' e e' hb hb' (hwτ b hb hw).alive (halσ b' hb' ha) (.inl (hwτ b hb hw)) he he'
      · exact hτ.sep b b' e e' (hwτ b hb hw) (halτ b' hb' ha) hne he he'

theorem Ext.mask (h : Ext μ0 σ0 w0 μ σ w) (M : List Nat) : Ext μ0 σ0 w0 μ (mask σ M) w := by
  have hw : ∀ b, wr (Abs.mask σ M) b → wr σ b := fun b hw => hw.sub fun b o ho => (mask_sub σ M b o ho).2
  refine ⟨h.same, by rw [mask_size]; exact h.size, h.hs, h.os, h.tape, h.output, h.frame, fun b e hb he hk => h.own b e (hw b hb) he hk, fun b e hb he hk => ?_⟩
  obtain ⟨o, ho⟩ := hb
  exact h.old b e ⟨o, (mask_sub σ M b o ho).2⟩ he hk

theorem Ext.unmask (h0 : Ext μ0 σ0 w0 μ σ w) (hr : Rel μ σ w) {M : List Nat} {τ : Heap} {μ' : Mu} {w' : World} (hE : Ext μ (Abs.mask σ M) w μ' τ w') : Ext μ0 σ0 w0 μ' (unmask σ τ M) w' := by
  have ht := (h0.mask M).trans hE
  have hsub : ∀ (b : Nat) (o : AObj), (Abs.unmask σ τ M)[b]? = some (some o) → (b ∈ M ∧ σ[b]? = some (some o)) ∨ (b ∉ M ∧ τ[b]? = some (some o)) := by
    intro b o h
    rw [unmask_get] at h
    split at h
    · rename_i hm
      refine .inl ⟨hm.1, ?_⟩
      simp only [Option.some.injEq] at h
      rcases Nat.lt_or_ge b σ.size with h1 | h1
      · rw [Array.getElem?_eq_getElem h1]
        simpa [h1] using h
      · simp [h1] at h
    · rename_i hm
      have hb : b < τ.size := alive.lt ⟨o, h⟩
      exact .inr ⟨fun hmm => hm ⟨hmm, hb⟩, h⟩
  have hμ : ∀ b, alive σ b → μ' b = μ b := fun b hb => hE.same b (by rw [mask_size]; exact hb.lt)
  refine ⟨ht.same, by rw [unmask_size]; exact ht.size, ht.hs, ht.os, ht.tape, ht.output, ht.frame, ?_, ?_⟩
  · intro b e hw he hk
    have : (b ∈ M ∧ wr σ b) ∨ wr τ b := by
      rcases hw with ⟨r, hr1, hro⟩ | ⟨m, hm1⟩
      · rcases hsub b _ (row?_eq.1 hr1) with ⟨hm, h⟩ | ⟨_, h⟩
        · exact .inl ⟨hm, .inl ⟨r, row?_eq.2 h, hro⟩⟩
        · exact .inr (.inl ⟨r, row?_eq.2 h, hro⟩)
      · rcases hsub b _ (map?_eq.1 hm1) with ⟨hm, h⟩ | ⟨_, h⟩
        · exact .inl ⟨hm, .inr ⟨m, map?_eq.2 h⟩⟩
        · exact .inr (.inr ⟨m, map?_eq.2 h⟩)
    rcases this with ⟨_, h⟩ | h
    · rw [hμ b h.alive] at he
      exact h0.own b e h he hk
    · exact ht.own b e h he hk
  · intro b e ⟨o, ho⟩ he hk
    rcases hsub b o ho with ⟨_, h⟩ | ⟨_, h⟩
    · rw [hμ b ⟨o, h⟩] at he
      exact h0.old b e ⟨o, h⟩ he hk
    · exact ht.old b e ⟨o, h⟩ he hk

theorem dStep_wp (hg : Good P) (hcall : CallsOk P call) {i : Nat} (hi : i < ops.size) {s s' : DSt} (h : dStep P call ops pre base i s = some s') {todo : Nat → Prop} (hti : todo i) {a : Act}
    (hbase : σ0.size ≤ base) (hd : DRel P ops base μ0 σ0 w0 s todo μ a w) {K : Act → World → Prop} {Q : Exit → Act → World → Prop}
    (hk : ∀ μ' a' w', DRel P ops base μ0 σ0 w0 s' (fun j => todo j ∧ j ≠ i) μ' a' w' → K a' w') : wpOp P ops Q i K a w := by
  have hoi : ops[i]? = some (opAt ops i) := by rw [Array.getElem?_eq_getElem hi]; simp [opAt, hi]
  unfold wpOp
  rw [hoi]
  simp only
  have hρ := fun x => ev_sound hd.tmps x
  unfold dStep at h
  split at h
  · cases h
  · rename_i hw
    simp only [Option.some.injEq] at h
    subst h
    rw [wanted_sound hd.tmps hw, if_neg (by simp)]
    exact hk μ _ w ⟨hd.rel, put_sound hd.tmps _ (V.undef μ), by rw [put_defers]; exact hd.defers, hd.ext, fun j hj ht hc => hd.free j hj ht.1 hc, hd.room⟩
  · rename_i hw
    rw [wanted_sound hd.tmps hw, if_pos rfl]
    refine .inl ?_
    split at h
    · simp only [Option.map_eq_some_iff] at h
      obtain ⟨v, h, rfl⟩ := h
      obtain ⟨v', h1, h2⟩ := aPureOp_sound hg.zero hρ h w
      exact wp_of_run h1 (hk μ _ w ⟨hd.rel, put_sound hd.tmps _ h2, by rw [put_defers]; exact hd.defers, hd.ext, fun j hj ht hc => hd.free j hj ht.1 hc, hd.room⟩)
    · simp only [Option.map_eq_some_iff] at h
      obtain ⟨v, h, rfl⟩ := h
      have hm : Rel μ (mask s.σ (masks P ops pre base i)) w := hd.rel.sub (by rw [mask_size]; exact Nat.le_refl _) fun b o ho => (mask_sub _ _ b o ho).2
      obtain ⟨v', h1, h2⟩ := aRead_sound hg.zero hm hρ h
      exact wp_of_run h1 (hk μ _ w ⟨hd.rel, put_sound hd.tmps _ h2, by rw [put_defers]; exact hd.defers, hd.ext, fun j hj ht hc => hd.free j hj ht.1 hc, hd.room⟩)
    · rename_i hcls
      split at h
      · rename_i m hm hs
        obtain ⟨obj, f⟩ := m
        simp only [Option.some.injEq] at h
        subst h
        obtain ⟨v', w', e, h1, h2, h3, h4⟩ := aMake_sound hg.zero hρ w hm
        have hμn := hd.free i hi hti hcls
        obtain ⟨h5, h6⟩ := h4 _ hμn
        have hslot : base + slotOf P ops i < s.σ.size := by
          rcases Nat.lt_or_ge (base + slotOf P ops i) s.σ.size with h | h
          · exact h
          · rw [Array.getElem?_eq_none h] at hs; cases hs
        obtain ⟨h7, h8⟩ := fill_new hd.rel hd.ext h2 (σ' := s.σ.setIfInBounds (base + slotOf P ops i) (some obj)) (base + slotOf P ops i) obj e h3 hμn (by omega) (by simpa using hslot) (by simp) (by
            rw [Array.getElem?_setIfInBounds]; simp [hslot]) (fun b o hb hgt => by
          rw [Array.getElem?_setIfInBounds, if_neg (Ne.symm hb)] at hgt; exact hgt) h5
        refine wp_of_run h1 (hk _ _ w' ⟨h7, put_sound (hd.tmps.mono (le_set hμn)) _ h6, by rw [put_defers]; exact hd.defers, h8, fun j hj ht hc => ?_, by simpa using hd.room⟩)
        have hsl := slot_inj (P := P) (ops := ops) ht.2 hc hcls
        unfold Mu.set
        rw [if_neg (by omega)]
        exact hd.free j hj ht.1 hc
      · cases h
    · split at h
      · rename_i v τ he
        split at h
        · rename_i hck
          simp only [Option.some.injEq] at h
          subst h
          have hm : Rel μ (mask s.σ (masks P ops pre base i)) w := hd.rel.sub (by rw [mask_size]; exact Nat.le_refl _) fun b o ho => (mask_sub _ _ b o ho).2
          refine aEff_wp hg hcall hm hd.tmps he fun v' μ' w' hV hR hE => ?_
          have hle : ∀ b e, μ b = some e → μ' b = some e := fun b e hb => (hE.same b (by rw [mask_size]; exact hd.rel.dom b e hb)).trans hb
          refine hk μ' _ w' ⟨hd.rel.unmask hR hE, put_sound (hd.tmps.mono hle) _ hV, by rw [put_defers]; exact hd.defers, hd.ext.unmask hd.rel hE, fun j hj ht hc => ?_, ?_⟩
          · have hsl : slotOf P ops j < nMake P ops := slot_lt hj hc
            have := hd.room
            rw [hE.same _ (by rw [mask_size]; omega)]
            exact hd.free j hj ht.1 hc
          · have := hd.room
            have := hck.1
            simp only [unmask_size]
            omega
        · cases h
      · cases h

/-! ### whatever order is drawn -/
theorem ready_iff {listed : Array Bool} {i : Nat} : i ∈ Region.ready .any ops listed ↔ i < ops.size ∧ listed.getD i true = false ∧ ∀ d ∈ directs (opAt ops i), listed.getD d false = true := by
  unfold Region.ready
  rw [List.mem_filter, List.mem_range]
  refine and_congr_right fun hi => ?_
  have hoi : ops[i]? = some (opAt ops i) := by rw [Array.getElem?_eq_getElem hi]; simp [opAt, hi]
  rw [hoi]
  simp only [Option.map_some, Option.getD_some, Bool.and_eq_true, Bool.not_eq_true']
  refine and_congr_right fun _ => ?_
  rw [Array.all_eq_true_iff_forall_mem]
  unfold directs
  constructor
  · intro h d hd
    simp only [List.mem_map, List.mem_filter] at hd
    obtain ⟨e, ⟨he, hb⟩, rfl⟩ := hd
    have := h e (by simpa using he)
    simpa [hb] using this
  · intro h e he
    by_cases hb : Region.binds .any e = true
    · have := h e.on (List.mem_map.2 ⟨e, List.mem_filter.2 ⟨by simpa using he, hb⟩, rfl⟩)
      simp [this]
    · simp only [Bool.not_eq_true] at hb
      simp [hb]

structure PreOk (ops : Array Oper) (pre : Array Nat) : Prop where
  direct : ∀ i, i < ops.size → ∀ d ∈ directs (opAt ops i), d < ops.size ∧ isBefore pre d i = true ∧ d ≠ i
  closed : ∀ i, i < ops.size → ∀ x, x < ops.size → isBefore pre x i = true → x ∈ directs (opAt ops i) ∨ ∃ d ∈ directs (opAt ops i), isBefore pre x d = true

theorem preOk_spec (h : preOk ops pre = true) : PreOk ops pre := by
  unfold preOk at h
  simp only [List.all_eq_true, List.mem_range, Bool.and_eq_true, decide_eq_true_eq, Bool.or_eq_true, Bool.not_eq_true', List.any_eq_true, beq_iff_eq, bne_iff_ne, ne_eq] at h
  refine ⟨fun i hi d hd => ⟨((h i hi).1 d hd).1.1, ((h i hi).1 d hd).1.2, ((h i hi).1 d hd).2⟩, fun i hi x hx hb => ?_⟩
  rcases (h i hi).2 x hx with h1 | ⟨d, hd, h1 | h1⟩
  · rw [hb] at h1; cases h1
  · exact .inl (h1 ▸ hd)
  · exact .inr ⟨d, hd, h1⟩

theorem drawn_wp (hg : Good P) (hcall : CallsOk P call) (hpre : PreOk ops pre) (hbase : σ0.size ≤ base) {Q : Exit → Act → World → Prop} {f : DSt}
    (hQ : ∀ μ' a' w', DRel P ops base μ0 σ0 w0 f (fun _ => False) μ' a' w' → Q .normal a' w') :
    ∀ (n : Nat) (ord : List Nat) (listed : Array Bool) (s : DSt) (μ : Mu) (a : Act) (w : World), ord.length = n → listed.size = ops.size → (∀ j, j < ops.size → (j ∈ ord ↔ listed.getD j true = false)) →
      pairsOk P ops pre ord = true → LogOk ops pre s.log (· ∈ ord) → s.log.size = ops.size → (∀ j, j < ops.size → j ∉ ord → ∀ x ∈ ord, isBefore pre x j = false) →
      dSteps P call ops pre base ord s = some f → DRel P ops base μ0 σ0 w0 s (· ∈ ord) μ a w → wpAny P .any ops Q n listed a w := by
  intro n
  induction n with
  | zero =>
    intro ord listed s μ a w hn hls hol hp hlog hlsz hdown hrun hd
    have : ord = [] := List.eq_nil_of_length_eq_zero hn
    subst this
    simp only [dSteps, Option.some.injEq] at hrun
    subst hrun
    refine ⟨?_, hQ μ a w ⟨hd.rel, hd.tmps, hd.defers, hd.ext, fun _ _ h => h.elim, hd.room⟩⟩
    rw [List.eq_nil_iff_forall_not_mem]
    intro i hi
    obtain ⟨h1, h2, _⟩ := ready_iff.1 hi
    exact absurd ((hol i h1).2 h2) (by simp)
  | succ n ih =>
    intro ord listed s μ a w hn hls hol hp hlog hlsz hdown hrun hd
    have hlt := pairsOk_lt hp
    refine ⟨fun hnil => ?_, fun i hi => ?_⟩
    · -- the first of what is left may be carried out
      match ord, hn with
      | x :: ys, _ =>
        obtain ⟨hx, hpx, hpy⟩ := pairsOk_cons hp
        have : x ∈ Region.ready .any ops listed := by
          rw [ready_iff]
          refine ⟨hx, (hol x hx).1 (by simp), fun d hdir => ?_⟩
          obtain ⟨hdlt, hdb, hdx⟩ := hpre.direct x hx d hdir
          have hdn : d ∉ x :: ys := by
            intro hmem
            rcases List.mem_cons.1 hmem with h | hmem
            · exact hdx h
            · have := (hpx d hmem).2
              simp only [pairOk, Bool.and_eq_true, Bool.not_eq_true'] at this
              rw [this.1] at hdb
              cases hdb
          have h3 : ¬ listed.getD d true = false := fun h => hdn ((hol d hdlt).2 h)
          have h4 : d < listed.size := by omega
          simp only [Bool.not_eq_false] at h3
          simpa [h4] using h3
        rw [hnil] at this
        cases this
    · obtain ⟨hilt, hilist, hidir⟩ := ready_iff.1 hi
      have himem : i ∈ ord := (hol i hilt).2 hilist
      -- nothing that is left stands ahead of it
      have hbef : ∀ x ∈ ord, isBefore pre x i = false := by
        intro x hx
        cases hb : isBefore pre x i with
        | false => rfl
        | true =>
          exfalso
          rcases hpre.closed i hilt x (hlt x hx) hb with h | ⟨d, h, hxd⟩
          · have h1 := hidir x h
            have h2 := (hol x (hlt x hx)).1 hx
            have h4 : x < listed.size := by have := hlt x hx; omega
            simp only [Array.getD_eq_getD_getElem?, Array.getElem?_eq_getElem h4, Option.getD_some] at h1 h2
            rw [h1] at h2
            cases h2
          · obtain ⟨hdlt, _⟩ := hpre.direct i hilt d h
            have h1 := hidir d h
            have hdn : d ∉ ord := by
              intro hm
              have h2 := (hol d hdlt).1 hm
              have h4 : d < listed.size := by omega
              simp only [Array.getD_eq_getD_getElem?, Array.getElem?_eq_getElem h4, Option.getD_some] at h1 h2
              rw [h1] at h2
              cases h2
            rw [hdown d hdlt hdn x hx] at hxd
            cases hxd
      obtain ⟨s1, h1, h2⟩ := dSteps_first ord s f (· ∈ ord) hp himem (fun x hx _ => hbef x hx) (fun x hx => hx) hlog (fun x hx z hz _ hzo => absurd hz hzo) hlsz hrun
      refine dStep_wp hg hcall hilt h1 himem hbase hd fun μ' a' w' hd' => ?_
      have hnd := pairsOk_nodup hp
      have hmem : ∀ j, j ∈ ord.erase i ↔ j ∈ ord ∧ j ≠ i := fun j => by rw [hnd.mem_erase_iff]; exact And.comm
      have hlogs : s1.log = s.log ∨ ∃ e, s1.log = s.log.setIfInBounds i (some e) := by
        rw [dStep_eq] at h1
        simp only [Option.map_eq_some_iff] at h1
        obtain ⟨⟨v, σ1, l1⟩, h, rfl⟩ := h1
        exact core_log h
      refine ih (ord.erase i) (listed.setIfInBounds i true) s1 μ' a' w' (by rw [List.length_erase_of_mem himem]; omega) (by simpa using hls) ?_ (pairsOk_erase i hp) ?_ (by rw [dStep_logsize h1]; exact hlsz) ?_ h2 ?_
      · intro j hj
        rw [hmem]
        have hjl : j < listed.size := by omega
        by_cases hji : j = i
        · subst hji
          simp [hjl]
        · rw [and_iff_left hji, hol j hj]
          simp [Array.getElem?_setIfInBounds_ne (Ne.symm hji)]
      · have := hlog.step (i := i) (fun x hx _ => hbef x hx) hlogs
        exact ⟨fun j hj => this.none_ j ((hmem j).1 hj), fun j x hj hx => this.down j x hj ((hmem x).1 hx)⟩
      · intro j hj hjo x hx
        have hx' := (hmem x).1 hx
        by_cases hji : j = i
        · subst hji; exact hbef x hx'.1
        · exact hdown j hj (fun h => hjo ((hmem j).2 ⟨h, hji⟩)) x hx'.1
      · exact ⟨hd'.rel, hd'.tmps, hd'.defers, hd'.ext, fun j hj ht hc => hd'.free j hj ((hmem j).1 ht) hc, hd'.room⟩

theorem reserve_size : ∀ (k : Nat) (σ : Heap), (reserve σ k).size = σ.size + k
  | 0, _ => rfl
  | k + 1, σ => by rw [reserve, reserve_size k]; simp; omega
theorem reserve_get : ∀ (k : Nat) (σ : Heap) (b : Nat) (o : AObj), (reserve σ k)[b]? = some (some o) ↔ σ[b]? = some (some o)
  | 0, _, _, _ => Iff.rfl
  | k + 1, σ, b, o => by
    rw [reserve, reserve_get k, Array.getElem?_push]
    split
    · rename_i h; subst h; simp
    · rfl

theorem aDrawn_wp (hg : Good P) (hcall : CallsOk P call) {id : Nat} {T T' : Array Value} {a : Act} {Q : Exit → Act → World → Prop} (h : aDrawn P call ops T σ = some (T', σ')) (hr : Rel μ σ w) (hT : VA μ T a.tmps) (hd : a.defers = [])
    (hQ : ∀ μ' a' w', Rel μ' σ' w' → VA μ' T' a'.tmps → a'.defers = [] → Ext μ σ w μ' σ' w' → Q .normal a' w') : (Code.region id ops true).wp P Q a w := by
  unfold aDrawn at h
  split at h
  · rename_i hok
    split at h
    · rename_i f hrun
      simp only [Option.some.injEq, Prod.mk.injEq] at h
      obtain ⟨rfl, rfl⟩ := h
      simp only [ordOk, Bool.and_eq_true, decide_eq_true_eq] at hok
      obtain ⟨⟨⟨hlen, hp⟩, hpre⟩, hmem⟩ := hok
      have hnone : ∀ j : Nat, ((Array.replicate ops.size none : Log)[j]?).getD none = none := fun j => by
        rw [Array.getElem?_replicate]; split <;> rfl
      have hnd := pairsOk_nodup hp
      have hall : ∀ j, j < ops.size → j ∈ eager P ops (Region.before ops) := by
        intro j hj
        have := (List.all_eq_true.1 hmem) j (List.mem_range.2 hj)
        simpa using this
      refine wp_region_any hg.mixed ?_
      have hw : Rel μ (reserve σ (nMake P ops)) { w with drawn := w.drawn + 1 } :=
        (hr.sub (by rw [reserve_size]; omega) fun b o ho => (reserve_get _ σ b o).1 ho).same_world fun _ _ => rfl
      have hwr : ∀ b, wr (reserve σ (nMake P ops)) b → wr σ b := fun b hb => hb.sub fun b o ho => (reserve_get _ σ b o).1 ho
      have hE : Ext μ σ w μ (reserve σ (nMake P ops)) { w with drawn := w.drawn + 1 } :=
        ⟨fun _ _ => rfl, by rw [reserve_size]; omega, Nat.le_refl _, rfl, rfl, rfl, fun _ _ _ => rfl, fun b e hb he _ => ⟨b, e, hwr b hb, he, rfl⟩,
          fun b e hb he _ => by obtain ⟨o, ho⟩ := hb; exact ⟨b, e, ⟨o, (reserve_get _ σ b o).1 ho⟩, he, rfl⟩⟩
      have := drawn_wp (P := P) (call := call) (ops := ops) (base := σ.size) (μ0 := μ) (σ0 := σ) (w0 := w) hg hcall (preOk_spec hpre) (Nat.le_refl _) (Q := Q) (f := f)
        (fun μ' a' w' hd' => hQ μ' a' w' hd'.rel hd'.tmps hd'.defers hd'.ext)
        (eager P ops (Region.before ops)).length (eager P ops (Region.before ops)) (Array.replicate ops.size false) ⟨T, reserve σ (nMake P ops), Array.replicate ops.size none⟩ μ a { w with drawn := w.drawn + 1 }
        rfl (by simp) (fun j hj => by simp [hall j hj, hj]) hp ⟨fun j hj => by simp [hnone], fun j x hj _ => by simp [hnone] at hj⟩ (by simp) (fun j hj hjo => absurd (hall j hj) hjo) hrun
        ⟨hw, hT, hd, hE, fun i hi ht hc => by
          cases hm : μ (σ.size + slotOf P ops i) with
          | none => rfl
          | some e => have := hr.dom _ _ hm; omega, by rw [reserve_size]; exact Nat.le_refl _⟩
      rw [hlen] at this
      exact this
    · cases h
  · cases h
end Go.Abs
