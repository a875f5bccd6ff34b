/-
  A region whose order is open: whatever order is drawn, the outcome is that of the one order.
-/
import Derived.Test.YthnkdbjeefemoaaGreatAbsDraw
set_option linter.unusedVariables false
set_option linter.unusedSimpArgs false
namespace Go.Abs
open Go Go.RowKit

variable {P : Program} {call : CallFn} {ops : Array Oper} {pre : Array Nat} {base : Nat}

/-- what has been logged has been carried out, and all that stands ahead of it -/
structure LogOk (ops : Array Oper) (pre : Array Nat) (l : Log) (todo : Nat → Prop) : Prop where
  none_ : ∀ j, todo j → l.getD j none = none
  down : ∀ j x, l.getD j none ≠ none → todo x → isBefore pre x j = false

theorem chkReads_iff {i : Nat} {l : Log} {τ : Heap} : ∀ (js : List Nat), chkReads P ops pre base i l τ js = true ↔
    ∀ j ∈ js, ∀ vs v, l.getD j none = some (vs, v) → isBefore pre j i = true ∨ chkRead P (opAt ops j).op vs (mask τ (masks P ops pre base j)) v = true
  | [] => by simp [chkReads]
  | j :: js => by
    simp only [chkReads, Bool.and_eq_true, chkReads_iff js, List.mem_cons, forall_eq_or_imp]
    refine and_congr_left fun _ => ?_
    cases h : l.getD j none with
    | none => simp
    | some x =>
      obtain ⟨vs, v⟩ := x
      simp

/-- two operations that are not ordered change places: the values and the heap are the same -/
theorem core_swap {x y : Nat} (hxy : x ≠ y) (hx : x < ops.size) (hy : y < ops.size) (hb : isBefore pre x y = false) (hb' : isBefore pre y x = false)
    (hc : clsAt P ops x ≠ .eff ∨ clsAt P ops y = .pure) {T : Array Value} {σ σ1 σ2 : Heap} {l l1 l2 : Log} {todo : Nat → Prop} (hl : LogOk ops pre l todo) (htx : todo x) {v u : Value}
    (hls : l.size = ops.size) (h1 : core P call ops pre base x T σ l = some (v, σ1, l1)) (h2 : core P call ops pre base y T σ1 l1 = some (u, σ2, l2)) :
    ∃ σ' l', core P call ops pre base y T σ l = some (u, σ', l') ∧ core P call ops pre base x T σ' l' = some (v, σ2, l2) := by
  unfold core at h1 h2
  cases hwx : aWanted ops T (opAt ops x) with
  | none => simp [hwx] at h1
  | some bx =>
  cases hwy : aWanted ops T (opAt ops y) with
  | none => simp [hwy] at h2
  | some bY =>
  simp only [hwx] at h1
  simp only [hwy] at h2
  cases bx with
  | false =>
    simp only [Option.some.injEq, Prod.mk.injEq] at h1
    obtain ⟨rfl, rfl, rfl⟩ := h1
    exact ⟨σ2, l2, by unfold core; simp only [hwy]; exact h2, by unfold core; simp only [hwx]⟩
  | true =>
  cases bY with
  | false =>
    simp only [Option.some.injEq, Prod.mk.injEq] at h2
    obtain ⟨rfl, rfl, rfl⟩ := h2
    exact ⟨σ, l, by unfold core; simp only [hwy], by unfold core; simp only [hwx]; exact h1⟩
  | true =>
  simp only at h1 h2
  cases hcx : clsAt P ops x with
  | pure =>
    simp only [hcx, Option.map_eq_some_iff, Prod.mk.injEq] at h1
    obtain ⟨v', hv, rfl, rfl, rfl⟩ := h1
    exact ⟨σ2, l2, by unfold core; simp only [hwy]; exact h2, by unfold core; simp only [hwx, hcx, hv]; rfl⟩
  | read =>
    simp only [hcx, Option.map_eq_some_iff, Prod.mk.injEq] at h1
    obtain ⟨v', hv, rfl, rfl, rfl⟩ := h1
    cases hcy : clsAt P ops y with
    | pure =>
      simp only [hcy, Option.map_eq_some_iff, Prod.mk.injEq] at h2
      obtain ⟨u', hu, rfl, rfl, rfl⟩ := h2
      exact ⟨σ, l, by unfold core; simp only [hwy, hcy, hu]; rfl, by unfold core; simp only [hwx, hcx, hv]; rfl⟩
    | read =>
      simp only [hcy, Option.map_eq_some_iff, Prod.mk.injEq] at h2
      obtain ⟨u', hu, rfl, rfl, rfl⟩ := h2
      exact ⟨σ, _, by unfold core; simp only [hwy, hcy, hu]; rfl, by
        unfold core; simp only [hwx, hcx, hv]
        simp only [Option.map_some]
        rw [Array.setIfInBounds_comm _ _ hxy]⟩
    | make =>
      simp only [hcy] at h2
      split at h2
      · rename_i m hm hs
        simp only [Option.some.injEq, Prod.mk.injEq] at h2
        obtain ⟨rfl, rfl, rfl⟩ := h2
        refine ⟨σ.setIfInBounds (base + slotOf P ops y) (some m.1), l, by unfold core; simp only [hwy, hcy, hm, hs], ?_⟩
        unfold core
        simp only [hwx, hcx]
        rw [mask_set (mem_masks hy hcy hb'), hv]
        rfl
      · cases h2
    | eff =>
      simp only [hcy] at h2
      split at h2
      · rename_i u' τ he
        split at h2
        · rename_i hck
          simp only [Option.some.injEq, Prod.mk.injEq] at h2
          obtain ⟨rfl, rfl, rfl⟩ := h2
          have hlx : x < l.size := by omega
          have hck2 := (chkReads_iff _).1 hck.2
          have hxv : aRead P (opAt ops x).op ((opAt ops x).op.operands.toList.map (ev T)) (mask (unmask σ τ (masks P ops pre base y)) (masks P ops pre base x)) = some v' := by
            rcases hck2 x (by simp [hx]) ((opAt ops x).op.operands.toList.map (ev T)) v' (by simp [hlx]) with h | h
            · rw [hb] at h; cases h
            · unfold chkRead at h
              split at h
              · rename_i z hz
                rw [hz, veq_eq h]
              · cases h
          refine ⟨unmask σ τ (masks P ops pre base y), l, ?_, ?_⟩
          · have hck' : chkReads P ops pre base y l (unmask σ τ (masks P ops pre base y)) (List.range ops.size) = true := by
              refine (chkReads_iff _).2 fun j hj vs w hjw => hck2 j hj vs w ?_
              have hne : x ≠ j := fun e => by rw [← e, hl.none_ x htx] at hjw; cases hjw
              simpa [Array.getElem?_setIfInBounds_ne hne] using hjw
            unfold core
            simp only [hwy, hcy, he]
            rw [if_pos ⟨hck.1, hck'⟩]
          · unfold core
            simp only [hwx, hcx, hxv]
            rfl
        · cases h2
      · cases h2
  | make =>
    simp only [hcx] at h1
    split at h1
    · rename_i mx hmx hsx
      simp only [Option.some.injEq, Prod.mk.injEq] at h1
      obtain ⟨rfl, rfl, rfl⟩ := h1
      cases hcy : clsAt P ops y with
      | pure =>
        simp only [hcy, Option.map_eq_some_iff, Prod.mk.injEq] at h2
        obtain ⟨u', hu, rfl, rfl, rfl⟩ := h2
        exact ⟨σ, l, by unfold core; simp only [hwy, hcy, hu]; rfl, by unfold core; simp only [hwx, hcx, hmx, hsx]⟩
      | read =>
        simp only [hcy, Option.map_eq_some_iff, Prod.mk.injEq] at h2
        obtain ⟨u', hu, rfl, rfl, rfl⟩ := h2
        rw [mask_set (mem_masks hx hcx hb)] at hu
        exact ⟨σ, _, by unfold core; simp only [hwy, hcy, hu]; rfl, by unfold core; simp only [hwx, hcx, hmx, hsx]⟩
      | make =>
        have hsl : base + slotOf P ops x ≠ base + slotOf P ops y := by have := slot_inj (P := P) (ops := ops) hxy hcx hcy; omega
        simp only [hcy] at h2
        split at h2
        · rename_i my hmy hsy
          simp only [Option.some.injEq, Prod.mk.injEq] at h2
          obtain ⟨rfl, rfl, rfl⟩ := h2
          rw [Array.getElem?_setIfInBounds_ne hsl] at hsy
          refine ⟨σ.setIfInBounds (base + slotOf P ops y) (some my.1), l, by unfold core; simp only [hwy, hcy, hmy, hsy], ?_⟩
          unfold core
          simp only [hwx, hcx, hmx]
          rw [Array.getElem?_setIfInBounds_ne (Ne.symm hsl), hsx]
          simp only
          rw [Array.setIfInBounds_comm _ _ hsl]
        · cases h2
      | eff =>
        have hmem := mem_masks (pre := pre) (base := base) hx hcx hb
        have hslot : base + slotOf P ops x < σ.size := by
          rcases Nat.lt_or_ge (base + slotOf P ops x) σ.size with h | h
          · exact h
          · rw [Array.getElem?_eq_none h] at hsx; cases hsx
        simp only [hcy] at h2
        rw [mask_set hmem] at h2
        split at h2
        · rename_i u' τ he
          split at h2
          · rename_i hck
            simp only [Option.some.injEq, Prod.mk.injEq] at h2
            obtain ⟨rfl, rfl, rfl⟩ := h2
            simp only [Array.size_setIfInBounds] at hck
            have hun : unmask (σ.setIfInBounds (base + slotOf P ops x) (some mx.1)) τ (masks P ops pre base y) =
                (unmask σ τ (masks P ops pre base y)).setIfInBounds (base + slotOf P ops x) (some mx.1) := by
              apply Array.ext_getElem?
              intro k
              rw [Array.getElem?_setIfInBounds, unmask_get, unmask_get, unmask_size]
              by_cases hk : base + slotOf P ops x = k
              · subst hk
                rw [if_pos ⟨hmem, by omega⟩, if_pos rfl, if_pos (by omega)]
                simp [hslot]
              · rw [if_neg hk]
                split
                · simp [Array.getElem?_setIfInBounds_ne hk]
                · rfl
            rw [hun] at hck
            have hck2 := (chkReads_iff _).1 hck.2
            have hnone : (unmask σ τ (masks P ops pre base y))[base + slotOf P ops x]? = some none := by
              rw [unmask_get, if_pos ⟨hmem, by omega⟩]
              simp [hsx]
            refine ⟨unmask σ τ (masks P ops pre base y), l, ?_, ?_⟩
            · have hck' : chkReads P ops pre base y l (unmask σ τ (masks P ops pre base y)) (List.range ops.size) = true := by
                refine (chkReads_iff _).2 fun j hj vs w hjw => ?_
                rcases hck2 j hj vs w hjw with h | h
                · exact .inl h
                · refine .inr ?_
                  rw [mask_set (mem_masks hx hcx (hl.down j x (by rw [hjw]; simp) htx))] at h
                  exact h
              unfold core
              simp only [hwy, hcy, he]
              rw [if_pos ⟨hck.1, hck'⟩]
            · unfold core
              simp only [hwx, hcx, hmx, hnone]
              rw [hun]
          · cases h2
        · cases h2
    · cases h1
  | eff =>
    rcases hc with h | hcy
    · exact absurd hcx h
    · simp only [hcy, Option.map_eq_some_iff, Prod.mk.injEq] at h2
      obtain ⟨u', hu, rfl, rfl, rfl⟩ := h2
      exact ⟨σ, l, by unfold core; simp only [hwy, hcy, hu]; rfl, by unfold core; simp only [hwx]; exact h1⟩

/-- what a step does to the log -/
theorem core_log {i : Nat} {T : Array Value} {σ σ1 : Heap} {l l1 : Log} {v : Value} (h : core P call ops pre base i T σ l = some (v, σ1, l1)) : l1 = l ∨ ∃ x, l1 = l.setIfInBounds i (some x) := by
  unfold core at h
  cases hw : aWanted ops T (opAt ops i) with
  | none => simp [hw] at h
  | some b =>
    simp only [hw] at h
    cases b with
    | false => simp only [Option.some.injEq, Prod.mk.injEq] at h; exact .inl h.2.2.symm
    | true =>
      simp only at h
      cases hc : clsAt P ops i with
      | pure => simp only [hc, Option.map_eq_some_iff, Prod.mk.injEq] at h; obtain ⟨_, _, _, _, h⟩ := h; exact .inl h.symm
      | read => simp only [hc, Option.map_eq_some_iff, Prod.mk.injEq] at h; obtain ⟨_, _, _, _, h⟩ := h; exact .inr ⟨_, h.symm⟩
      | make =>
        simp only [hc] at h
        split at h
        · simp only [Option.some.injEq, Prod.mk.injEq] at h; exact .inl h.2.2.symm
        · cases h
      | eff =>
        simp only [hc] at h
        split at h
        · split at h
          · simp only [Option.some.injEq, Prod.mk.injEq] at h; exact .inl h.2.2.symm
          · cases h
        · cases h

theorem LogOk.step {l l1 : Log} {todo : Nat → Prop} {i : Nat} (h : LogOk ops pre l todo) (hi : ∀ x, todo x → x ≠ i → isBefore pre x i = false) (hl : l1 = l ∨ ∃ x, l1 = l.setIfInBounds i (some x)) :
    LogOk ops pre l1 (fun j => todo j ∧ j ≠ i) := by
  rcases hl with rfl | ⟨e, rfl⟩
  · exact ⟨fun j hj => h.none_ j hj.1, fun j x hj hx => h.down j x hj hx.1⟩
  · refine ⟨fun j hj => ?_, fun j x hj hx => ?_⟩
    · have := h.none_ j hj.1
      simpa [Array.getElem?_setIfInBounds_ne (Ne.symm hj.2)] using this
    · by_cases hji : i = j
      · subst hji
        exact hi x hx.1 hx.2
      · refine h.down j x ?_ hx.1
        simpa [Array.getElem?_setIfInBounds_ne hji] using hj

theorem apart_of {x y : Nat} (h : Oper.apart ops (opAt ops x) (opAt ops y) = true) :
    (∀ d, (opAt ops x).dst = some d → d ∉ (opAt ops y).looksAt ops) ∧ (∀ d, (opAt ops x).dst = some d → (opAt ops y).dst ≠ some d) ∧ (∀ d, (opAt ops y).dst = some d → d ∉ (opAt ops x).looksAt ops) := Oper.apart_spec h

theorem dStep_swap {x y : Nat} (hxy : x ≠ y) (hx : x < ops.size) (hy : y < ops.size) (hp : pairOk P ops pre x y = true) (hb : isBefore pre x y = false)
    {s s1 s2 : DSt} {todo : Nat → Prop} (hl : LogOk ops pre s.log todo) (htx : todo x) (hls : s.log.size = ops.size)
    (h1 : dStep P call ops pre base x s = some s1) (h2 : dStep P call ops pre base y s1 = some s2) :
    ∃ s', dStep P call ops pre base y s = some s' ∧ dStep P call ops pre base x s' = some s2 := by
  simp only [pairOk, hb, Bool.false_or, Bool.and_eq_true, Bool.not_eq_true', Bool.or_eq_true, decide_eq_true_eq] at hp
  obtain ⟨hb', hap, hc⟩ := hp
  obtain ⟨ha1, ha2, ha3⟩ := apart_of hap
  rw [dStep_eq] at h1 h2
  simp only [Option.map_eq_some_iff] at h1 h2
  obtain ⟨⟨v, σ1, l1⟩, h1, rfl⟩ := h1
  obtain ⟨⟨u, σ2, l2⟩, h2, rfl⟩ := h2
  simp only at h2
  rw [core_put ha1] at h2
  obtain ⟨σ', l', h3, h4⟩ := core_swap hxy hx hy hb hb' hc hl htx hls h1 h2
  refine ⟨⟨putT s.T (opAt ops y).dst u, σ', l'⟩, by rw [dStep_eq, h3]; rfl, ?_⟩
  rw [dStep_eq]
  simp only
  rw [core_put ha3, h4]
  simp only [Option.map_some]
  rw [putT_comm _ _ _ ha2]

theorem pairsOk_cons {x : Nat} {ys : List Nat} (h : pairsOk P ops pre (x :: ys) = true) : x < ops.size ∧ (∀ y ∈ ys, x ≠ y ∧ pairOk P ops pre x y = true) ∧ pairsOk P ops pre ys = true := by
  simp only [pairsOk, Bool.and_eq_true, decide_eq_true_eq, List.all_eq_true, bne_iff_ne] at h
  exact ⟨h.1.1, h.1.2, h.2⟩
theorem pairsOk_lt : ∀ {ys : List Nat}, pairsOk P ops pre ys = true → ∀ y ∈ ys, y < ops.size
  | [], _, _, h => by cases h
  | x :: ys, h, y, hy => by
    obtain ⟨h1, h2, h3⟩ := pairsOk_cons h
    rcases List.mem_cons.1 hy with rfl | hy
    · exact h1
    · exact pairsOk_lt h3 y hy
theorem pairsOk_erase : ∀ {ys : List Nat} (i : Nat), pairsOk P ops pre ys = true → pairsOk P ops pre (ys.erase i) = true
  | [], _, _ => rfl
  | x :: ys, i, h => by
    obtain ⟨h1, h2, h3⟩ := pairsOk_cons h
    rw [List.erase_cons]
    split
    · exact h3
    · simp only [pairsOk, Bool.and_eq_true, decide_eq_true_eq, List.all_eq_true, bne_iff_ne]
      exact ⟨⟨h1, fun y hy => h2 y (List.mem_of_mem_erase hy)⟩, pairsOk_erase i h3⟩
theorem pairsOk_nodup : ∀ {ys : List Nat}, pairsOk P ops pre ys = true → ys.Nodup
  | [], _ => List.nodup_nil
  | x :: ys, h => by
    obtain ⟨h1, h2, h3⟩ := pairsOk_cons h
    exact List.nodup_cons.2 ⟨fun hx => (h2 x hx).1 rfl, pairsOk_nodup h3⟩

theorem dStep_logsize {i : Nat} {s s1 : DSt} (h : dStep P call ops pre base i s = some s1) : s1.log.size = s.log.size := by
  rw [dStep_eq] at h
  simp only [Option.map_eq_some_iff] at h
  obtain ⟨⟨v, σ1, l1⟩, h, rfl⟩ := h
  rcases core_log h with rfl | ⟨x, rfl⟩ <;> simp

/-- whatever may be carried out next may be carried out first -/
theorem dSteps_first {i : Nat} : ∀ (ord : List Nat) (s : DSt) (f : DSt) (todo : Nat → Prop), pairsOk P ops pre ord = true → i ∈ ord → (∀ x ∈ ord, x ≠ i → isBefore pre x i = false) → (∀ x ∈ ord, todo x) →
    LogOk ops pre s.log todo → (∀ x ∈ ord, ∀ z, todo z → z ≠ x → z ∉ ord → isBefore pre z x = false) → s.log.size = ops.size → dSteps P call ops pre base ord s = some f →
    ∃ s1, dStep P call ops pre base i s = some s1 ∧ dSteps P call ops pre base (ord.erase i) s1 = some f := by
  intro ord
  induction ord with
  | nil => intro s f todo _ h; cases h
  | cons x ys ih =>
    intro s f todo hp hi hbef htodo hlog hout hls hrun
    obtain ⟨hx, hpx, hpys⟩ := pairsOk_cons hp
    simp only [dSteps] at hrun
    split at hrun
    · rename_i sx hsx
      by_cases hxi : x = i
      · subst hxi
        exact ⟨sx, hsx, by rw [List.erase_cons_head]; exact hrun⟩
      · have hiys : i ∈ ys := by
          rcases List.mem_cons.1 hi with h | h
          · exact absurd h.symm hxi
          · exact h
        have hlogx : sx.log = s.log ∨ ∃ e, sx.log = s.log.setIfInBounds x (some e) := by
          rw [dStep_eq] at hsx
          simp only [Option.map_eq_some_iff] at hsx
          obtain ⟨⟨v, σ1, l1⟩, h, rfl⟩ := hsx
          exact core_log h
        have hbx : ∀ z, todo z → z ≠ x → isBefore pre z x = false := by
          intro z hz hzx
          by_cases hzo : z ∈ x :: ys
          · rcases List.mem_cons.1 hzo with h | h
            · exact absurd h hzx
            · have := (hpx z h).2
              simp only [pairOk, Bool.and_eq_true, Bool.not_eq_true'] at this
              exact this.1
          · exact hout x (by simp) z hz hzx hzo
        obtain ⟨s', h1, h2⟩ := ih sx f (fun j => todo j ∧ j ≠ x) hpys hiys (fun z hz hzi => hbef z (by simp [hz]) hzi)
          (fun z hz => ⟨htodo z (by simp [hz]), Ne.symm (hpx z hz).1⟩) (hlog.step hbx hlogx)
          (fun z hz w hw hwz hwo => hout z (by simp [hz]) w hw.1 hwz (by simp [hw.2, hwo])) (by rw [dStep_logsize hsx]; exact hls) hrun
        obtain ⟨s1', h3, h4⟩ := dStep_swap (call := call) (base := base) hxi hx (pairsOk_lt hpys i hiys) (hpx i hiys).2 (hbef x (by simp) hxi) hlog (htodo x (by simp)) hls hsx h1
        refine ⟨s1', h3, ?_⟩
        rw [List.erase_cons_tail (by simpa using hxi)]
        simp only [dSteps, h4]
        exact h2
    · cases hrun
end Go.Abs
