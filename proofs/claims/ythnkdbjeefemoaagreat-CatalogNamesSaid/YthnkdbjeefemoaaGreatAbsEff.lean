/-
  Operations that turn the heap.
-/
import Derived.Test.YthnkdbjeefemoaaGreatAbsMake
import Derived.Deep.Upon
set_option linter.unusedVariables false
set_option linter.unusedSimpArgs false
namespace Go.Abs
open Go Go.RowKit

variable {P : Program} {μ μ0 : Mu} {σ σ0 σ' : Heap} {w w0 : World}

/-- an operation that has turned the heap -/
def Eff (P : Program) (s : Sem Next) (μ : Mu) (σ : Heap) (w : World) (r : Value) (σ' : Heap) : Prop :=
  ∃ n w' μ' v', s.run P w = .ok n w' ∧ (n = .value v' ∨ (n = .skip ∧ v' = Go.undef)) ∧ V μ' r v' ∧ Rel μ' σ' w' ∧ Ext μ σ w μ' σ' w'

theorem row?_set {r : Row} {b : Nat} (hb : b < σ.size) (b' : Nat) : row? (aSetRow σ b r) b' = if b' = b then some r else row? σ b' := by
  unfold row? aSetRow
  rw [Array.getElem?_setIfInBounds]
  by_cases h : b = b'
  · subst h
    simp [hb]
  · rw [if_neg h, if_neg (Ne.symm h)]

theorem map?_set {r : Row} {b : Nat} (hb : b < σ.size) (b' : Nat) : map? (aSetRow σ b r) b' = if b' = b then none else map? σ b' := by
  unfold map? aSetRow
  rw [Array.getElem?_setIfInBounds]
  by_cases h : b = b'
  · subst h
    simp [hb]
  · rw [if_neg h, if_neg (Ne.symm h)]

/-- an object is written, in its own block -/
theorem Rel.write (hr : Rel μ σ w) {b : Nat} {o o' : AObj} {e : Place} {w' : World} (hb : σ[b]? = some (some o)) (hw : wr σ b) (he : μ b = some e)
    (hs : w'.heap.size = w.heap.size) (hh : ∀ k, k ≠ e.blk → w'.heap[k]? = w.heap[k]?) (h1 : w'.os = w.os) (h2 : w'.tape = w.tape) (h3 : w'.output = w.output)
    (hobj : ObjRel μ o' e w') : Rel μ (σ.setIfInBounds b (some o')) w' ∧ Ext μ σ w μ (σ.setIfInBounds b (some o')) w' := by
  have hlt : b < σ.size := alive.lt ⟨o, hb⟩
  have hget : ∀ b', (σ.setIfInBounds b (some o'))[b']? = if b' = b then some (some o') else σ[b']? := by
    intro b'
    rw [Array.getElem?_setIfInBounds]
    by_cases h : b = b'
    · subst h; simp [hlt]
    · rw [if_neg h, if_neg (Ne.symm h)]
  have hne : ∀ b' e', b' ≠ b → alive σ b' → μ b' = some e' → e'.blk ≠ e.blk := fun b' e' hb' ha he' => Ne.symm (hr.sep b b' e e' hw ha (Ne.symm hb') he he')
  have halive : ∀ b', alive (σ.setIfInBounds b (some o')) b' → alive σ b' := by
    intro b' ⟨x, hx⟩
    rw [hget] at hx
    split at hx
    · rename_i h; subst h; exact ⟨o, hb⟩
    · exact ⟨x, hx⟩
  have hwr : ∀ b', wr (σ.setIfInBounds b (some o')) b' → wr σ b' := by
    intro b' hx
    by_cases h : b' = b
    · subst h; exact hw
    · rcases hx with ⟨r, hr', hro⟩ | ⟨m, hm⟩
      · exact .inl ⟨r, by rw [row?_eq, hget, if_neg h] at hr'; exact row?_eq.2 hr', hro⟩
      · exact .inr ⟨m, by rw [map?_eq, hget, if_neg h] at hm; exact map?_eq.2 hm⟩
  refine ⟨⟨?_, ?_, ?_, ?_⟩, ⟨fun _ _ => rfl, by simp, by omega, h1, h2, h3, ?_, ?_, ?_⟩⟩
  · intro b' e' hb'
    simp only [Array.size_setIfInBounds]
    exact hr.dom b' e' hb'
  · intro b' r hr'
    rw [row?_eq, hget] at hr'
    split at hr'
    · rename_i h
      simp only [Option.some.injEq] at hr'
      subst h hr'
      exact ⟨e, he, hobj⟩
    · rename_i h
      obtain ⟨e', he', hR⟩ := hr.row b' r (row?_eq.2 hr')
      exact ⟨e', he', hR.keep (fun _ _ h => h) (hh _ (hne b' e' h (alive_of_row (row?_eq.2 hr')) he'))⟩
  · intro b' es c hm
    rw [map?_eq, hget] at hm
    split at hm
    · rename_i h
      simp only [Option.some.injEq] at hm
      subst h hm
      exact ⟨e, he, hobj⟩
    · rename_i h
      obtain ⟨e', he', hR⟩ := hr.map b' es c (map?_eq.2 hm)
      exact ⟨e', he', hR.keep (fun _ _ h => h) (hh _ (hne b' e' h (alive_of_map (m := (es, c)) (map?_eq.2 hm)) he'))⟩
  · intro b1 b2 e1 e2 hw1 ha2 hne12 he1 he2
    exact hr.sep b1 b2 e1 e2 (hwr _ hw1) (halive _ ha2) hne12 he1 he2
  · intro k hk hf
    exact hh k (Ne.symm (hf b e hw he))
  · intro b' e' hw' he' hk
    exact ⟨b', e', hwr _ hw', he', rfl⟩
  · intro b' e' hw' he' hk
    exact ⟨b', e', halive _ hw', he', rfl⟩

theorem setCells_heap (b : Nat) {t : TypeId} {fr : Nat × Nat} : ∀ (vs : List Value) (o : Nat) (w : World) (cs : Array Value), w.heap[b]? = some (.cells cs t fr) →
    (w.setCells b o vs).heap[b]? = some (.cells (putCells cs o vs) t fr)
  | [], o, w, cs, h => h
  | v :: vs, o, w, cs, h => by
    rw [World.setCells, putCells]
    refine setCells_heap b vs (o + 1) _ _ ?_
    simp [World.setCell, Array.getElem?_modify, h]

theorem setCells_other (b : Nat) : ∀ (vs : List Value) (o : Nat) (w : World), (w.setCells b o vs).heap.size = w.heap.size ∧ (∀ k, k ≠ b → (w.setCells b o vs).heap[k]? = w.heap[k]?) ∧
    (w.setCells b o vs).os = w.os ∧ (w.setCells b o vs).tape = w.tape ∧ (w.setCells b o vs).output = w.output
  | [], o, w => ⟨rfl, fun _ _ => rfl, rfl, rfl, rfl⟩
  | v :: vs, o, w => by
    rw [World.setCells]
    obtain ⟨h1, h2, h3, h4, h5⟩ := setCells_other b vs (o + 1) (w.setCell ⟨b, o, none⟩ v)
    refine ⟨by rw [h1]; simp [World.setCell], fun k hk => ?_, h3, h4, h5⟩
    rw [h2 k hk, Below.heap_setCell w ⟨b, o, none⟩ v k hk]

theorem putCells_size : ∀ (vs : List Value) (cs : Array Value) (o : Nat), (putCells cs o vs).size = cs.size
  | [], _, _ => rfl
  | v :: vs, cs, o => by rw [putCells, putCells_size vs]; simp

theorem putCells_get : ∀ (vs : List Value) (cs : Array Value) (o i : Nat), o + vs.length ≤ cs.size → (putCells cs o vs)[i]? = if o ≤ i ∧ i < o + vs.length then vs[i - o]? else cs[i]?
  | [], cs, o, i, _ => by rw [putCells, if_neg (by simp)]
  | v :: vs, cs, o, i, h => by
    simp only [List.length_cons] at h
    rw [putCells, putCells_get vs _ _ _ (by simp; omega)]
    by_cases h1 : o + 1 ≤ i ∧ i < o + 1 + vs.length
    · rw [if_pos h1, if_pos (by simp; omega), show i - o = (i - (o + 1)) + 1 by omega, List.getElem?_cons_succ]
    · rw [if_neg h1]
      by_cases h2 : o = i
      · subst h2
        rw [if_pos (by simp), Array.getElem?_setIfInBounds, if_pos rfl, if_pos (by omega)]
        simp
      · rw [if_neg (by simp; omega), Array.getElem?_setIfInBounds, if_neg h2]

theorem aStore_sound (hr : Rel μ σ w) {t : TypeId} {p p' v v' : Value} (h : aStore P t p v σ = some σ') (hp : V μ p p') (hv : V μ v v') :
    ∃ w', (Instr.storeAt t p' v').run P w = .ok () w' ∧ Rel μ σ' w' ∧ Ext μ σ w μ σ' w' := by
  unfold aStore at h
  split at h
  · rename_i b o
    cases hp with
    | ptr _ _ e hμ =>
    split at h
    · rename_i r i hrow hi
      split at h
      · rename_i hc
        obtain ⟨hsz, hok, hle, hro⟩ := hc
        simp only [Option.some.injEq] at h
        subst h
        have hne : v ≠ .chan none := fun e => by rw [e] at hok; simp [Value.cells, okCell] at hok
        have hcells := hv.cells hne
        obtain ⟨e', he', hR⟩ := hr.row b r hrow
        obtain rfl : e' = e := by rw [hμ] at he'; exact (Option.some.inj he').symm
        obtain ⟨cs, ty, fr, h1, h2, h3, h4, h5⟩ := hR.out
        have hone : v'.cells.all (·.oneCell') = true := by
          rw [Array.all_eq_true_iff_forall_mem]
          intro x hx
          obtain ⟨j, hj, rfl⟩ := Array.mem_iff_getElem.1 hx
          have hj' : j < v.cells.size := by rw [hcells.1]; exact hj
          have h6 := hcells.2 j _ _ (Array.getElem?_eq_getElem hj') (Array.getElem?_eq_getElem hj)
          exact h6.okCell ((Array.all_eq_true_iff_forall_mem.1 hok) _ (Array.getElem_mem hj'))
        have hthere : w.there e'.blk (e'.off + o) v'.cells.size := by
          intro j hj
          have hlt : e'.off + o + j < cs.size := by rw [hcells.1.symm] at hj; omega
          refine ⟨by rw [cell?_eq h1, Array.getElem?_eq_getElem hlt]; rfl, ?_⟩
          have := h5 hro (e'.off + o + j) (by omega)
          simp only [World.frozen?, h1]
          simp
          omega
        have hrun : (Instr.storeAt t (.pointer (some ⟨e'.blk, e'.off + o, none⟩)) v').run P w = .ok () (w.setCells e'.blk (e'.off + o) v'.cells.toList) := by
          have hst := run_storeCells_cells (P := P) e'.blk (e'.off + o) v'.cells.toList 0 w (fun j hj => by simpa using (hthere j (by simpa using hj)).1) (fun j hj => by simpa using (hthere j (by simpa using hj)).2)
            (fun x hx => (Array.all_eq_true_iff_forall_mem.1 hone) x (by simpa using hx))
          simp only [Nat.add_zero] at hst
          have hs' : v'.cells.size = i.size := by rw [← hcells.1]; exact hsz
          simp [Instr.storeAt, Instr.sureAddr, storeVar, run_info hi, hs', hst]
        obtain ⟨k1, k2, k3, k4, k5⟩ := setCells_other e'.blk v'.cells.toList (e'.off + o) w
        refine ⟨_, hrun, hr.write (row?_eq.1 hrow) (.inl ⟨r, hrow, hro⟩) hμ k1 k2 k3 k4 k5 ?_⟩
        refine ⟨_, ty, fr, setCells_heap e'.blk _ _ w cs h1, by rw [putCells_size]; exact h2, by simp only [putCells_size]; exact h3, ?_, h5⟩
        intro j u hu
        have hvl : v.cells.toList.length = i.size := by simp [hsz]
        have hvl' : v'.cells.toList.length = i.size := by simp [← hcells.1, hsz]
        rw [putCells_get _ _ _ _ (by rw [hvl]; omega), hvl] at hu
        rw [putCells_get _ _ _ _ (by rw [hvl']; omega), hvl']
        split at hu
        · rename_i hj
          rw [if_pos (by omega), show e'.off + j - (e'.off + o) = j - o by omega]
          have hlt : j - o < v'.cells.size := by rw [← hcells.1, hsz]; omega
          refine ⟨v'.cells[j - o], by rw [Array.getElem?_toList]; exact Array.getElem?_eq_getElem hlt, hcells.2 (j - o) u _ (by rw [← Array.getElem?_toList]; exact hu) (Array.getElem?_eq_getElem hlt)⟩
        · rename_i hj
          rw [if_neg (by omega)]
          exact h4 j u hu
      · cases h
    · cases h
  · cases h

theorem run_setObj_map {r : Nat} {es : Array MapEntry} {c : Nat} {o : Obj} (h : w.heap[r]? = some (.map es c)) : (setObj r o).run P w = .ok () { w with heap := w.heap.setIfInBounds r o } := by
  simp [setObj, Sem.run, h]

theorem kinds {kd : TypeDesc} {k : Value} {P : Program} {α : Type} {x : Option α} {r : α}
    (h : (match kd, k with | .string, .string _ | .int _, .int _ _ => x | _, _ => none) = some r) : x = some r ∧ ((kd = .string ∧ ∃ s, k = .string s) ∨ ∃ a b c, kd = .int a ∧ k = .int b c) := by
  split at h
  · exact ⟨h, .inl ⟨rfl, _, rfl⟩⟩
  · exact ⟨h, .inr ⟨_, _, _, rfl, rfl⟩⟩
  · cases h

theorem bytes_beq {a b : ByteArray} : (a == b) = true ↔ a = b := by
  rw [beq_toListBytes, ByteArray.toList_eq, ByteArray.toList_eq]
  obtain ⟨⟨a⟩⟩ := a
  obtain ⟨⟨b⟩⟩ := b
  simp

theorem findNow_key {kd : TypeDesc} {k : Value} (hkk : (kd = .string ∧ ∃ s, k = .string s) ∨ ∃ a b c, kd = .int a ∧ k = .int b c) : ∀ (es : List MapEntry) (i j : Nat) (v : Value),
    Instr.findNow kd k es i = some (some (j, v)) → i ≤ j ∧ ∃ e, es[j - i]? = some e ∧ e.key = k
  | [], i, j, v, h => by simp [Instr.findNow] at h
  | e :: es, i, j, v, h => by
    unfold Instr.findNow at h
    split at h
    · rename_i hs
      simp only [Option.some.injEq, Prod.mk.injEq] at h
      obtain ⟨rfl, rfl⟩ := h
      refine ⟨Nat.le_refl _, e, by simp, ?_⟩
      rcases hkk with ⟨rfl, s, rfl⟩ | ⟨a, b, c, rfl, rfl⟩
      · unfold Instr.sameNow at hs
        split at hs <;> simp_all [bytes_beq]
      · unfold Instr.sameNow at hs
        split at hs <;> simp_all
    · obtain ⟨h1, e', h2, h3⟩ := findNow_key hkk es (i + 1) j v h
      refine ⟨by omega, e', ?_, h3⟩
      rw [show j - i = (j - (i + 1)) + 1 by omega, List.getElem?_cons_succ]
      exact h2
    · cases h

theorem sameBits_scal {n : Nat} {k : Value} (h : isScal k = true) : Instr.sameBits n k k = true := by
  cases k <;> simp_all [isScal, Instr.sameBits, bytes_beq]

theorem aMapUpdate_sound (hr : Rel μ σ w) {t : TypeId} {m m' k k' v v' : Value} (h : aMapUpdate P t m k v σ = some σ') (hm : V μ m m') (hk : V μ k k') (hv : V μ v v') :
    ∃ w', (Instr.mapUpdate t m' k' v').run P w = .ok () w' ∧ Rel μ σ' w' ∧ Ext μ σ w μ σ' w' := by
  unfold aMapUpdate at h
  split at h
  · rename_i kt et r hu
    cases hm with
    | map _ e hμ =>
    split at h
    · rename_i es c kd hmap hkd
      obtain ⟨h, hkk⟩ := kinds (P := P) h
      obtain ⟨e', he', hM⟩ := hr.map _ _ _ hmap
      obtain rfl : e' = e := by rw [hμ] at he'; exact (Option.some.inj he').symm
      obtain ⟨es', hh, hsz, hent⟩ := hM.out
      have hgo : (getObj e'.blk).run P w = .ok (.map es' c) w := run_getObj_map hh
      have hks : isScal k = true := by rcases hkk with ⟨_, s, rfl⟩ | ⟨a, b, c, _, rfl⟩ <;> rfl
      have hkf : Abs.flat k = true := by rcases hkk with ⟨_, s, rfl⟩ | ⟨a, b, c, _, rfl⟩ <;> rfl
      obtain rfl := hk.of_flat hkf
      have hfs := findNow_sound (μ := μ) (kd := kd) (k := k') es.toList es'.toList 0 (by simpa using hsz) (fun j x y hx hy => by
          obtain ⟨a, _, b, _⟩ := hent j x y (by simpa using hx) (by simpa using hy); exact ⟨a, b⟩)
      have hblk : e'.blk < w.heap.size := hr.blk_lt (alive_of_map hmap) hμ
      have hput : ∀ (o : Obj) (o' : AObj), ObjRel μ o' e' { w with heap := w.heap.setIfInBounds e'.blk o } →
          Rel μ (σ.setIfInBounds r (some o')) { w with heap := w.heap.setIfInBounds e'.blk o } ∧ Ext μ σ w μ (σ.setIfInBounds r (some o')) { w with heap := w.heap.setIfInBounds e'.blk o } := by
        intro o o' hobj
        refine hr.write (map?_eq.1 hmap) (.inr ⟨_, hmap⟩) hμ (by simp) (fun j hj => ?_) rfl rfl rfl hobj
        rw [Array.getElem?_setIfInBounds, if_neg (Ne.symm hj)]
      have hnew : ∀ o : Obj, ({ w with heap := w.heap.setIfInBounds e'.blk o } : World).heap[e'.blk]? = some o := by
        intro o
        simp [Array.getElem?_setIfInBounds, hblk]
      split at h
      · rename_i i x hf
        simp only [Option.some.injEq] at h
        subst h
        rcases hfs _ hf with ⟨h1, _⟩ | ⟨j, v1, v2, h1, h2, hV⟩
        · cases h1
        cases h1
        obtain ⟨_, en, hen, hkey⟩ := findNow_key hkk es'.toList 0 i v2 h2
        have hkey2 : ((es'[i]?).map (fun e : MapEntry => e.key)).getD k' = k' := by
          rw [← Array.getElem?_toList, show i = i - 0 by omega, hen]; exact hkey
        refine ⟨_, ?_, hput (.map (es'.modify i fun e => { e with key := k', val := v' }) c) _ ?_⟩
        · simp [Instr.mapUpdate, run_underlying hu, hgo, run_checkKey hkd hkk, run_findKey hkd h2, hkey2, Instr.keyThatStays, sameBits_scal hks, run_setObj_map hh]
        · refine ⟨_, hnew _, by simp [hsz], fun i x y hx hy => ?_⟩
          rw [Array.getElem?_modify] at hx hy
          split at hx
          · rename_i hij
            rw [if_pos hij] at hy
            simp only [Option.map_eq_some_iff] at hx hy
            obtain ⟨x0, hx0, rfl⟩ := hx
            obtain ⟨y0, hy0, rfl⟩ := hy
            obtain ⟨_, hb, _, _⟩ := hent i x0 y0 hx0 hy0
            exact ⟨rfl, hb, hv, hks⟩
          · rename_i hij
            rw [if_neg hij] at hy
            exact hent i x y hx hy
      · rename_i hf
        simp only [Option.some.injEq] at h
        subst h
        rcases hfs _ hf with ⟨_, h2⟩ | ⟨j, v1, v2, h1, h2, hV⟩
        · refine ⟨_, ?_, hput (.map (es'.push { key := k', val := v', born := c }) (c + 1)) _ ?_⟩
          · simp [Instr.mapUpdate, run_underlying hu, hgo, run_checkKey hkd hkk, run_findKey hkd h2, run_setObj_map hh]
          · refine ⟨_, hnew _, by simp [hsz], fun i x y hx hy => ?_⟩
            rw [Array.getElem?_push] at hx hy
            split at hx
            · rename_i hi
              rw [if_pos (by rw [← hsz]; exact hi)] at hy
              simp only [Option.some.injEq] at hx hy
              subst hx hy
              exact ⟨rfl, rfl, hv, hks⟩
            · rename_i hi
              rw [if_neg (by rw [← hsz]; exact hi)] at hy
              exact hent i x y hx hy
        · cases h1
      · cases h
    · cases h
  · cases h

theorem aDelete_sound (hr : Rel μ σ w) {t ty : TypeId} {ts : Array TypeId} {m m' k k' : Value} {rest : List Value} (ht : ts[0]? = some t) (h : aDelete P t m k σ = some σ') (hm : V μ m m') (hk : V μ k k') :
    ∃ w', (Builtin.delete_ ts ty #[m', k']).run P w = .ok (.tuple #[]) w' ∧ Rel μ σ' w' ∧ Ext μ σ w μ σ' w' := by
  unfold aDelete at h
  split at h
  · rename_i kt et r hu
    cases hm with
    | map _ e hμ =>
    split at h
    · rename_i es c kd hmap hkd
      obtain ⟨h, hkk⟩ := kinds (P := P) h
      obtain ⟨e', he', hM⟩ := hr.map _ _ _ hmap
      obtain rfl : e' = e := by rw [hμ] at he'; exact (Option.some.inj he').symm
      obtain ⟨es', hh, hsz, hent⟩ := hM.out
      have hgo : (getObj e'.blk).run P w = .ok (.map es' c) w := run_getObj_map hh
      have hks : isScal k = true := by rcases hkk with ⟨_, s, rfl⟩ | ⟨a, b, c, _, rfl⟩ <;> rfl
      have hkf : Abs.flat k = true := by rcases hkk with ⟨_, s, rfl⟩ | ⟨a, b, c, _, rfl⟩ <;> rfl
      obtain rfl := hk.of_flat hkf
      have hfs := findNow_sound (μ := μ) (kd := kd) (k := k') es.toList es'.toList 0 (by simpa using hsz) (fun j x y hx hy => by
          obtain ⟨a, _, b, _⟩ := hent j x y (by simpa using hx) (by simpa using hy); exact ⟨a, b⟩)
      have hblk : e'.blk < w.heap.size := hr.blk_lt (alive_of_map hmap) hμ
      have hput : ∀ (o : Obj) (o' : AObj), ObjRel μ o' e' { w with heap := w.heap.setIfInBounds e'.blk o } →
          Rel μ (σ.setIfInBounds r (some o')) { w with heap := w.heap.setIfInBounds e'.blk o } ∧ Ext μ σ w μ (σ.setIfInBounds r (some o')) { w with heap := w.heap.setIfInBounds e'.blk o } := by
        intro o o' hobj
        refine hr.write (map?_eq.1 hmap) (.inr ⟨_, hmap⟩) hμ (by simp) (fun j hj => ?_) rfl rfl rfl hobj
        rw [Array.getElem?_setIfInBounds, if_neg (Ne.symm hj)]
      have hnew : ∀ o : Obj, ({ w with heap := w.heap.setIfInBounds e'.blk o } : World).heap[e'.blk]? = some o := by
        intro o
        simp [Array.getElem?_setIfInBounds, hblk]
      split at h
      · rename_i i x hf
        simp only [Option.some.injEq] at h
        subst h
        rcases hfs _ hf with ⟨h1, _⟩ | ⟨j, v1, v2, h1, h2, hV⟩
        · cases h1
        cases h1
        refine ⟨_, ?_, hput (.map (es'.eraseIdxIfInBounds i) c) _ ?_⟩
        · simp [Builtin.delete_, ht, run_underlying hu, hgo, run_checkKey hkd hkk, run_findKey hkd h2, run_setObj_map hh]
        · refine ⟨_, hnew _, ?_, fun i x y hx hy => ?_⟩
          · simp [Array.eraseIdxIfInBounds, hsz]; split <;> simp [hsz]
          · rw [← Array.getElem?_toList, Array.toList_eraseIdxIfInBounds, List.getElem?_eraseIdx] at hx hy
            split at hx
            · rename_i hij
              rw [if_pos hij] at hy
              exact hent i x y (by simpa using hx) (by simpa using hy)
            · rename_i hij
              rw [if_neg hij] at hy
              exact hent (i + 1) x y (by simpa using hx) (by simpa using hy)
      · rename_i hf
        simp only [Option.some.injEq] at h
        subst h
        rcases hfs _ hf with ⟨_, h2⟩ | ⟨j, v1, v2, h1, h2, hV⟩
        · have hw : ({ w with heap := w.heap.setIfInBounds e'.blk (.map es' c) } : World) = w := by
            have : w.heap.setIfInBounds e'.blk (.map es' c) = w.heap := by
              apply Array.ext_getElem?
              intro i
              rw [Array.getElem?_setIfInBounds]
              split
              · rename_i hi; subst hi; first | exact hh.symm | (rw [if_pos hblk]; exact hh.symm)
              · rfl
            rw [this]
          refine ⟨w, ?_, hr, Ext.refl _ _ _⟩
          simp [Builtin.delete_, ht, run_underlying hu, hgo, run_checkKey hkd hkk, run_findKey hkd h2, run_setObj_map hh, hw]
        · cases h1
      · cases h
    · cases h
  · cases h
end Go.Abs
