/-
  append.
-/
import Derived.Test.YthnkdbjeefemoaaGreatAbsEff
set_option linter.unusedVariables false
set_option linter.unusedSimpArgs false
namespace Go.Abs
open Go Go.RowKit

variable {P : Program} {μ μ0 : Mu} {σ σ0 σ' : Heap} {w w0 : World}

/-- the cells of what is appended, in the world -/
theorem srcCells_sound (hr : Rel μ σ w) {t : TypeId} {d : TypeDesc} (hd : (∃ e', d = .slice e') ∨ d = .string) (ht : P.underlying t = some d) {x x' : Value} {size m : Nat} {news : Array Value}
    (h : srcCells x size σ = some (m, news)) (hx : V μ x x') (hn : news.size = m * size) (hk : news.all okCell = true) (hxd : (∃ s, x = .string s) ↔ d = .string) :
    ∃ us : List Value, Src P size t x' m us w ∧ VA μ news us.toArray := by
  have hone : ∀ us : List Value, VA μ news us.toArray → ∀ u ∈ us, u.oneCell' = true := by
    intro us hV u hu
    obtain ⟨j, hj, rfl⟩ := List.mem_iff_getElem.1 hu
    have hj' : j < news.size := by rw [hV.1]; simpa using hj
    exact (hV.2 j _ _ (Array.getElem?_eq_getElem hj') (by simp)).okCell ((Array.all_eq_true_iff_forall_mem.1 hk) _ (Array.getElem_mem hj'))
  unfold srcCells at h
  split at h
  · rename_i c
    simp only [Option.some.injEq, Prod.mk.injEq] at h
    obtain ⟨rfl, rfl⟩ := h
    cases hx with
    | sliceNil =>
    rcases hd with ⟨e', rfl⟩ | rfl
    · exact ⟨[], Src.ofNil w ht 0, rfl, by simp⟩
    · obtain ⟨s, hs⟩ := hxd.2 rfl
      cases hs
  · rename_i b o z n c
    rcases hd with ⟨e', rfl⟩ | rfl
    · split at h
      · rename_i cs hcs
        simp only [Option.some.injEq, Prod.mk.injEq] at h
        obtain ⟨rfl, rfl⟩ := h
        simp only [rdCells] at hcs
        split at hcs
        · rename_i r hrow
          split at hcs
          · rename_i hle
            simp only [Option.some.injEq] at hcs
            subst hcs
            cases hx with
            | slice _ _ _ _ e cap hμ hnc hroom hc =>
              obtain ⟨e2, he2, hR⟩ := hr.row b r hrow
              obtain rfl : e2 = e := by rw [hμ] at he2; exact (Option.some.inj he2).symm
              obtain ⟨us, hul, hat, hV⟩ := hR.range hle
              exact ⟨us, Src.ofSlice w ht _ _ _ us hul (fun j u hu => by rw [Addr.add_mid]; exact hat j u hu) (hone us hV), hV⟩
            | sliceEmpty _ _ _ _ a hc =>
              refine ⟨[], Src.ofSlice w ht a 0 0 [] (by simp) (by simp) (by simp), ?_, by simp⟩
              simp; omega
          · cases hcs
        · cases hcs
      · cases h
    · obtain ⟨s, hs⟩ := hxd.2 rfl
      cases hs
  · rename_i s
    split at h
    · rename_i h1
      subst h1
      simp only [Option.some.injEq, Prod.mk.injEq] at h
      obtain ⟨rfl, rfl⟩ := h
      obtain rfl := hx.of_flat rfl
      obtain rfl := hxd.1 ⟨s, rfl⟩
      refine ⟨byteCells s, Src.ofString w ht s, by simp [byteCells_length], fun i x y hx hy => ?_⟩
      simp only [byteCells, List.getElem?_toArray, List.getElem?_map, Option.map_eq_some_iff, Array.getElem?_map] at hx hy
      obtain ⟨b, hb, rfl⟩ := hx
      obtain ⟨c, hc, rfl⟩ := hy
      rw [Array.getElem?_toList, hb] at hc
      cases hc
      exact .int _ _
    · cases h
  · cases h

theorem aAppend_sound (hr : Rel μ σ w) {t t' ty : TypeId} {d : TypeDesc} (hd : (∃ e', d = .slice e') ∨ d = .string) (ht' : P.underlying t' = some d) {s s' x x' v : Value}
    (hxd : (∃ s, x = .string s) ↔ d = .string) (h : aAppend P t s x σ = some (v, σ')) (hs : V μ s s') (hx : V μ x x') :
    ∃ v' w' μ', (Builtin.append_ #[t, t'] ty #[s', x']).run P w = .ok v' w' ∧ V μ' v v' ∧ Rel μ' σ' w' ∧ Ext μ σ w μ' σ' w' := by
  unfold aAppend at h
  split at h
  · rename_i el hu
    split at h
    · rename_i i hi
      split at h
      · rename_i m news z hsrc hzz
        split at h
        · rename_i hcond
          obtain ⟨hzc, hpos, hnews, hok⟩ := hcond
          obtain ⟨us, hS, hVn⟩ := srcCells_sound hr hd ht' hsrc hx hnews hok hxd
          have hμn : μ σ.size = none := by
            cases hm : μ σ.size with
            | none => rfl
            | some e => have := hr.dom _ _ hm; omega
          -- a row in a block of its own
          have grow : ∀ (base : Option Addr) (n cap : Nat) (olds : Array Value) (olds' : List Value) (τ : Heap), cap < n + m → 0 < m → (n + m) * i.bytes ≤ 140737488355328 → n + m < 9223372036854775807 →
              (Builtin.firstCells i.size n (.slice base n cap)).run P w.drew = .ok olds'.toArray w.drew → VA μ olds olds'.toArray → olds.size = n * i.size → σ.size ≤ τ.size → τ.size ≤ σ.size →
              (∀ (b : Nat) (o : AObj), τ[b]? = some (some o) → σ[b]? = some (some o)) →
              ∃ v' w' μ', (Builtin.append_ #[t, t'] ty #[.slice base n cap, x']).run P w = .ok v' w' ∧ V μ' (.slice (some ⟨σ.size, 0, some i.size⟩) (n + m) 0) v' ∧
                Rel μ' (τ.push (some (.row ⟨olds ++ news, false⟩))) w' ∧ Ext μ σ w μ' (τ.push (some (.row ⟨olds ++ news, false⟩))) w' := by
            intro base n cap olds olds' τ hlt hm hb h63 hfc hVo hos hτ1 hτ2 hsub
            have hτ : τ.size = σ.size := by omega
            have hrun := run_append_grow_src (P := P) w t t' ty el i z hu hi hzz base n cap olds' hfc x' m us hS hlt (by omega) (growslice_fits hlt hb)
            have hge := grownCap_ge w (n + m) cap el
            have hul : us.length = m * i.size := hS.newsLen
            have hol : olds'.length = n * i.size := by rw [← hos, hVo.1]; simp
            have hVA : VA μ (olds ++ news) (olds' ++ us).toArray := by
              have := hVo.append hVn
              simpa using this
            have hbs : ((olds' ++ us).toArray ++ Builtin.zeroCells z.cells (grownCap w (n + m) cap el - (n + m))).size = grownCap w (n + m) cap el * i.size := by
              simp only [Array.size_append, List.size_toArray, List.length_append, hol, hul, size_zeroCells, hzc]
              rw [← Nat.add_mul, ← Nat.add_mul]
              congr 1
              omega
            obtain ⟨h1, h2⟩ := fill_new hr (Ext.refl μ σ w) (NewBlk.drew_alloc w (.cells ((olds' ++ us).toArray ++ Builtin.zeroCells z.cells (grownCap w (n + m) cap el - (n + m))) el))
              (σ' := τ.push (some (.row ⟨olds ++ news, false⟩))) σ.size (.row ⟨olds ++ news, false⟩) ⟨w.heap.size, 0, i.size, grownCap w (n + m) cap el * i.size⟩ rfl hμn (Nat.le_refl _) (by simp [hτ]) (by simp; omega)
              (by rw [← hτ]; simp) (fun b o hb hg => by
                rw [Array.getElem?_push, if_neg (by rw [hτ]; exact hb)] at hg
                exact hsub b o hg) (by
                refine rowRel_block (heap_new w.drew _) hbs rfl ?_ (fun j x y hx hy => ?_) (.inr (Nat.le_refl _))
                · simp only [Array.size_append, List.size_toArray, List.length_append, hol, hul, hos, hnews]
                  omega
                · rw [Array.getElem?_append, if_pos (by
                    have : j < (olds ++ news).size := by
                      rcases Nat.lt_or_ge j (olds ++ news).size with h1 | h1
                      · exact h1
                      · rw [Array.getElem?_eq_none h1] at hx; cases hx
                    rw [← hVA.1]; exact this)] at hy
                  exact (hVA.2 j x y hx hy).mono (le_set hμn))
            refine ⟨_, _, _, hrun, ?_, h1, h2⟩
            exact .slice σ.size 0 (n + m) 0 ⟨w.heap.size, 0, i.size, grownCap w (n + m) cap el * i.size⟩ _ set_same hge (by simp) (.inl rfl)
          split at h
          · rename_i c
            cases hs with
            | sliceNil =>
            split at h
            · rename_i hm
              subst hm
              simp only [Option.some.injEq, Prod.mk.injEq] at h
              obtain ⟨rfl, rfl⟩ := h
              have hus : us = [] := List.eq_nil_of_length_eq_zero (by have := hS.newsLen; simpa using this)
              subst hus
              exact ⟨.slice none 0 0, w, μ, run_append_nothing w t t' ty el i hu hi none 0 0 (Nat.le_refl _) x' hS, .sliceNil _, hr, Ext.refl _ _ _⟩
            · rename_i hm
              split at h
              · rename_i hle
                simp only [Option.some.injEq, Prod.mk.injEq] at h
                obtain ⟨rfl, rfl⟩ := h
                have := grow none 0 0 #[] [] σ (by omega) (by omega) (by simpa using hle.1) (by simpa using hle.2) (run_firstCells_none w.drew i.size 0 0 0) ⟨rfl, by simp⟩ (by simp) (Nat.le_refl _) (Nat.le_refl _) (fun _ _ h => h)
                simpa using this
              · cases h
          · rename_i b o zz n c
            split at h
            · rename_i r hrow
              split at h
              · rename_i hm
                subst hm
                simp only [Option.some.injEq, Prod.mk.injEq] at h
                obtain ⟨rfl, rfl⟩ := h
                have hus : us = [] := List.eq_nil_of_length_eq_zero (by have := hS.newsLen; simpa using this)
                subst hus
                cases hs with
                | slice _ _ _ _ e cap hμ hnc hroom hc =>
                  exact ⟨_, w, μ, run_append_nothing w t t' ty el i hu hi _ _ _ hnc x' hS, .slice _ _ _ _ e cap hμ hnc hroom hc, hr, Ext.refl _ _ _⟩
                | sliceEmpty _ _ _ _ a hc =>
                  exact ⟨_, w, μ, run_append_nothing w t t' ty el i hu hi _ _ _ (Nat.le_refl _) x' hS, .sliceEmpty _ _ _ _ a hc, hr, Ext.refl _ _ _⟩
              · rename_i hm
                split at h
                · rename_i hcc
                  obtain ⟨hle, hz2, hbytes, h63⟩ := hcc
                  have hos : (r.cells.extract o (o + n * i.size)).size = n * i.size := by simp; omega
                  -- the first cells, as they lie
                  have first : ∀ {a : Option Addr} {cap : Nat} {n' : Nat} {c' : Nat}, V μ (.slice (some ⟨b, o, some zz⟩) n' c') (.slice a n' cap) → n' = n →
                      ∃ olds' : List Value, (Builtin.firstCells i.size n (.slice a n cap)).run P w.drew = .ok olds'.toArray w.drew ∧ VA μ (r.cells.extract o (o + n * i.size)) olds'.toArray := by
                    intro a cap n' c' hV hn
                    subst hn
                    cases hV with
                    | slice _ _ _ _ e _ hμ hnc hroom hc =>
                      obtain ⟨e2, he2, hR⟩ := hr.row b r hrow
                      obtain rfl : e2 = e := by rw [hμ] at he2; exact (Option.some.inj he2).symm
                      obtain ⟨os, hul, hat, hV⟩ := hR.range hle
                      exact ⟨os, run_firstCells_some w.drew _ _ _ _ _ os hul (fun j u hu => by rw [Addr.add_mid]; exact hat j u hu), hV⟩
                    | sliceEmpty _ _ _ _ a hc =>
                      exact ⟨[], run_firstCells_some w.drew _ _ _ _ _ [] (by simp) (by simp), by simp; omega, by simp⟩
                  split at h
                  · rename_i hcap
                    simp only [Option.some.injEq, Prod.mk.injEq] at h
                    obtain ⟨rfl, rfl⟩ := h
                    have : ∃ a cap, s' = .slice a n cap ∧ cap < n + m := by
                      cases hs with
                      | slice _ _ _ _ e cap hμ hnc hroom hc => exact ⟨_, _, rfl, by omega⟩
                      | sliceEmpty _ _ _ _ a hc => exact ⟨_, _, rfl, by omega⟩
                    obtain ⟨a, cap, rfl, hlt⟩ := this
                    obtain ⟨os, hf, hVo⟩ := first hs rfl
                    exact grow a n cap _ os σ hlt (by omega) hbytes h63 hf hVo hos (Nat.le_refl _) (Nat.le_refl _) (fun _ _ h => h)
                  · rename_i hcap
                    split at h
                    · rename_i hck
                      obtain ⟨rfl, hro⟩ := hck
                      simp only [Option.some.injEq, Prod.mk.injEq] at h
                      obtain ⟨rfl, rfl⟩ := h
                      have hkill : ∀ (b' : Nat) (o' : AObj), (σ.setIfInBounds b none)[b']? = some (some o') → b' ≠ b ∧ σ[b']? = some (some o') := by
                        intro b' o' hg
                        rw [Array.getElem?_setIfInBounds] at hg
                        split at hg
                        · split at hg <;> cases hg
                        · rename_i hne; exact ⟨Ne.symm hne, hg⟩
                      have : ∃ a cap, s' = .slice a n cap := by
                        cases hs with
                        | slice _ _ _ _ e cap hμ hnc hroom hc => exact ⟨_, _, rfl⟩
                        | sliceEmpty _ _ _ _ a hc => exact ⟨_, _, rfl⟩
                      obtain ⟨a, cap, rfl⟩ := this
                      by_cases hlt : cap < n + m
                      · obtain ⟨os, hf, hVo⟩ := first hs rfl
                        exact grow a n cap _ os (σ.setIfInBounds b none) hlt (by omega) hbytes h63 hf hVo hos (by simp) (by simp) (fun b' o' hg => (hkill b' o' hg).2)
                      · cases hs with
                        | sliceEmpty _ _ _ _ a hc => omega
                        | slice _ _ _ _ e _ hμ hnc hroom hc =>
                          obtain ⟨e2, he2, hR⟩ := hr.row b r hrow
                          obtain rfl : e2 = e := by rw [hμ] at he2; exact (Option.some.inj he2).symm
                          obtain ⟨cs, ty0, fr, h1, h2, h3, h4, h5⟩ := hR.out
                          have hul : us.length = m * i.size := hS.newsLen
                          have hfit : e2.off + o + n * i.size + us.length ≤ cs.size := by
                            have : (n + m) * i.size ≤ cap * i.size := Nat.mul_le_mul_right _ (by omega)
                            rw [Nat.add_mul] at this
                            rw [hz2] at hroom
                            omega
                          have hrun := run_append_room_src (P := P) w t t' ty el i hu hi e2.blk (e2.off + o) n cap x' m us hS (by omega)
                            (fun j hj => by rw [cell?_eq h1, Array.getElem?_eq_getElem (by omega)]; rfl)
                            (fun j hj => by
                              have := h5 hro (e2.off + o + n * i.size + j) (by omega)
                              simp only [World.frozen?, h1]
                              simp
                              omega)
                          obtain ⟨k1, k2, k3, k4, k5⟩ := setCells_other e2.blk us (e2.off + o + n * i.size) w
                          have hwb : wr σ b := .inl ⟨r, hrow, hro⟩
                          have hold : ∀ (b' : Nat) (o' : AObj), b' ≠ σ.size → ((σ.setIfInBounds b none).push (some (.row ⟨r.cells.extract o (o + n * i.size) ++ news, false⟩)))[b']? = some (some o') → b' ≠ b ∧ σ[b']? = some (some o') := by
                            intro b' o' hb' hg
                            rw [Array.getElem?_push, if_neg (by simpa using hb')] at hg
                            exact hkill b' o' hg
                          have hwr' : ∀ b', b' ≠ σ.size → wr ((σ.setIfInBounds b none).push (some (.row ⟨r.cells.extract o (o + n * i.size) ++ news, false⟩))) b' → wr σ b' := by
                            intro b' hb' hw
                            rcases hw with ⟨r', hr', hro'⟩ | ⟨m', hm'⟩
                            · exact .inl ⟨r', row?_eq.2 (hold _ _ hb' (row?_eq.1 hr')).2, hro'⟩
                            · exact .inr ⟨m', map?_eq.2 (hold _ _ hb' (map?_eq.1 hm')).2⟩
                          refine ⟨_, _, μ.set σ.size ⟨e2.blk, e2.off + o, e2.esz, e2.bsz⟩, hrun, ?_, ?_, ?_⟩
                          · rw [← hz2]
                            exact .slice σ.size 0 (n + m) 0 ⟨e2.blk, e2.off + o, e2.esz, e2.bsz⟩ cap set_same (by omega) (by simpa using hroom) (.inl rfl)
                          · refine hr.fill σ.size (.row ⟨r.cells.extract o (o + n * i.size) ++ news, false⟩) ⟨e2.blk, e2.off + o, e2.esz, e2.bsz⟩ hμn (by simp) (by simp) (by
                              rw [Array.getElem?_push, if_pos (by simp)]) (fun b' o' hb' hg => (hold b' o' hb' hg).2) (fun b' e' hb' ha he' => ?_) ?_
                            · obtain ⟨o', ho⟩ := ha
                              obtain ⟨hne, ho⟩ := hold b' o' hb' ho
                              have := hr.sep b b' e2 e' hwb ⟨o', ho⟩ (Ne.symm hne) hμ he'
                              exact ⟨Ne.symm this, k2 _ (Ne.symm this)⟩
                            · refine ⟨_, ty0, fr, setCells_heap e2.blk us _ w cs h1, by rw [putCells_size]; exact h2, ?_, ?_, fun _ => h5 hro⟩
                              · simp only [Array.size_append, hos, hnews]
                                omega
                              · intro j v hj
                                simp only
                                rw [putCells_get _ _ _ _ hfit, hul]
                                rw [Array.getElem?_append, hos] at hj
                                split at hj
                                · rename_i hjl
                                  rw [if_neg (by omega)]
                                  rw [Array.getElem?_extract] at hj
                                  split at hj
                                  · obtain ⟨u, hu', hV⟩ := h4 _ _ hj
                                    exact ⟨u, by rw [show e2.off + o + j = e2.off + (o + j) by omega]; exact hu', hV.mono (le_set hμn)⟩
                                  · cases hj
                                · rename_i hjl
                                  obtain ⟨u, hu', hV⟩ := hVn.at_ hj
                                  have hlt2 : j - n * i.size < m * i.size := by
                                    rcases Nat.lt_or_ge (j - n * i.size) news.size with h1 | h1
                                    · omega
                                    · rw [Array.getElem?_eq_none h1] at hj; cases hj
                                  rw [if_pos (by omega), show e2.off + o + j - (e2.off + o + n * i.size) = j - n * i.size by omega]
                                  exact ⟨u, by simpa using hu', hV.mono (le_set hμn)⟩
                          · refine ⟨?_, by simp, by omega, k3, k4, k5, ?_, ?_, ?_⟩
                            · intro b' hb'
                              unfold Mu.set
                              rw [if_neg (by omega)]
                            · intro k hk hf
                              exact k2 k (Ne.symm (hf b e2 hwb hμ))
                            · intro b' e' hw he' hk
                              unfold Mu.set at he'
                              split at he'
                              · simp only [Option.some.injEq] at he'
                                subst he'
                                exact ⟨b, e2, hwb, hμ, rfl⟩
                              · rename_i hb'
                                exact ⟨b', e', hwr' b' hb' hw, he', rfl⟩
                            · intro b' e' hw he' hk
                              unfold Mu.set at he'
                              split at he'
                              · simp only [Option.some.injEq] at he'
                                subst he'
                                exact ⟨b, e2, hwb.alive, hμ, rfl⟩
                              · rename_i hb'
                                obtain ⟨o', ho⟩ := hw
                                exact ⟨b', e', ⟨o', (hold b' o' hb' ho).2⟩, he', rfl⟩
                    · cases h
                · cases h
            · cases h
          · cases h
        · cases h
      · cases h
    · cases h
  · cases h
end Go.Abs
