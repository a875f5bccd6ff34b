/-
  Operations that read.
-/
import Derived.Test.YthnkdbjeefemoaaGreatAbsPure4
import Derived.Laws.BytesArg
set_option linter.unusedVariables false
set_option linter.unusedSimpArgs false
namespace Go.Abs
open Go Go.RowKit

variable {P : Program} {μ : Mu} {σ : Heap} {w : World}

theorem cell?_eq {cs : Array Value} {t : TypeId} {fr : Nat × Nat} {b o : Nat} (h : w.heap[b]? = some (.cells cs t fr)) : w.cell? ⟨b, o, none⟩ = cs[o]? := by
  simp [World.cell?, h]

/-- cell i of an abstract row, in the world -/
theorem RowRel.cell {r : Row} {e : Place} (h : RowRel μ r e w) {i : Nat} {v : Value} (hv : r.cells[i]? = some v) : ∃ u, w.cell? ⟨e.blk, e.off + i, none⟩ = some u ∧ V μ v u := by
  obtain ⟨cs, t, fr, h1, h2, h3, h4, h5⟩ := h.out
  obtain ⟨u, hu, hV⟩ := h4 i v hv
  exact ⟨u, by rw [cell?_eq h1]; exact hu, hV⟩

/-- a stretch of an abstract row, in the world -/
theorem RowRel.range {r : Row} {e : Place} (h : RowRel μ r e w) {o n : Nat} (hle : o + n ≤ r.cells.size) :
    ∃ us : List Value, us.length = n ∧ w.rangeAt e.blk (e.off + o) us ∧ VA μ (r.cells.extract o (o + n)) us.toArray := by
  obtain ⟨cs, t, fr, h1, h2, h3, h4, h5⟩ := h.out
  refine ⟨(cs.extract (e.off + o) (e.off + o + n)).toList, ?_, ?_, ?_, ?_⟩
  · simp; omega
  · intro j v hv
    rw [Array.getElem?_toList, Array.getElem?_extract] at hv
    split at hv
    · rw [cell?_eq h1]; exact hv
    · cases hv
  · simp; omega
  · intro i x y hx hy
    rw [Array.getElem?_extract] at hx
    split at hx
    · obtain ⟨u, hu, hV⟩ := h4 _ _ hx
      simp only [Array.toArray_toList, Array.getElem?_extract] at hy
      split at hy
      · rw [show e.off + o + i = e.off + (o + i) by omega, hu] at hy
        cases hy
        exact hV
      · cases hy
    · cases hx

theorem aLoad_sound (hr : Rel μ σ w) {t : TypeId} {p p' v : Value} (h : aLoad P t p σ = some v) (hp : V μ p p') : ∃ v', (Instr.loadAt t p').run P w = .ok v' w ∧ V μ v v' := by
  unfold aLoad at h
  split at h
  · rename_i b o
    cases hp with
    | ptr _ _ e hμ =>
    split at h
    · rename_i ha
      split at h
      · rename_i i hi
        simp only [Option.map_eq_some_iff, rdCells] at h
        obtain ⟨cs, hcs, rfl⟩ := h
        split at hcs
        · rename_i r hrow
          split at hcs
          · rename_i hle
            simp only [Option.some.injEq] at hcs
            subst hcs
            obtain ⟨e', he', hR⟩ := hr.row b r hrow
            obtain rfl : e' = e := by rw [hμ] at he'; exact (Option.some.inj he').symm
            obtain ⟨us, hl, hat, hV⟩ := hR.range hle
            refine ⟨.agg us.toArray, ?_, .agg _ _ hV.1 hV.2⟩
            unfold isAggT at ha
            split at ha
            · rename_i fs hu
              exact run_loadAt_mid w e'.blk (e'.off + o) t us _ hat hu rfl (by rw [hi, hl]; rfl)
            · rename_i n el hu
              exact run_loadAt_mid w e'.blk (e'.off + o) t us _ hat hu rfl (by rw [hi, hl]; rfl)
            · cases ha
            · cases ha
          · cases hcs
        · cases hcs
      · cases h
    · rename_i ha
      split at h
      · rename_i r hrow
        obtain ⟨e', he', hR⟩ := hr.row b r hrow
        obtain rfl : e' = e := by rw [hμ] at he'; exact (Option.some.inj he').symm
        obtain ⟨u, hu, hV⟩ := hR.cell h
        refine ⟨u, ?_, hV⟩
        simp [Instr.loadAt, Instr.sureAddr, loadVar, run_isAgg ha, hu]
      · cases h
    · cases h
  · cases h

theorem bytesOf_spec : ∀ {vs : List Value} {l : List UInt8}, bytesOf vs = some l → ∃ xs : List Int, vs = xs.map (Value.int .u8) ∧ l = xs.map fun n => UInt8.ofNat n.toNat
  | [], l, h => by simp only [bytesOf, Option.some.injEq] at h; subst h; exact ⟨[], rfl, rfl⟩
  | v :: vs, l, h => by
    unfold bytesOf at h
    split at h
    · cases ‹_ :: _ = []›
    · rename_i n vs' he
      simp only [List.cons.injEq] at he
      obtain ⟨rfl, rfl⟩ := he
      simp only [Option.map_eq_some_iff] at h
      obtain ⟨l', hl', rfl⟩ := h
      obtain ⟨xs, rfl, rfl⟩ := bytesOf_spec hl'
      exact ⟨n :: xs, rfl, rfl⟩
    · cases h

theorem findNow_sound {kd : TypeDesc} {k : Value} : ∀ (es es' : List MapEntry) (i : Nat), es.length = es'.length →
    (∀ (j : Nat) (x y : MapEntry), es[j]? = some x → es'[j]? = some y → y.key = x.key ∧ V μ x.val y.val) → ∀ r, Instr.findNow kd k es i = some r →
    (r = none ∧ Instr.findNow kd k es' i = some none) ∨ ∃ j v v', r = some (j, v) ∧ Instr.findNow kd k es' i = some (some (j, v')) ∧ V μ v v'
  | [], [], i, _, _, r, h => by simp only [Instr.findNow, Option.some.injEq] at h; exact .inl ⟨h.symm, by simp only [Instr.findNow]⟩
  | [], _ :: _, _, hl, _, _, _ => by simp at hl
  | _ :: _, [], _, hl, _, _, _ => by simp at hl
  | e :: es, e' :: es', i, hl, hV, r, h => by
    obtain ⟨hk, hv⟩ := hV 0 e e' rfl rfl
    unfold Instr.findNow at h ⊢
    rw [hk]
    split at h
    · rename_i hs
      simp only [Option.some.injEq] at h
      subst h
      exact .inr ⟨i, e.val, e'.val, rfl, by simp only [hs], hv⟩
    · rename_i hs
      exact findNow_sound es es' (i + 1) (by simpa using hl) (fun j x y hx hy => hV (j + 1) x y (by simpa using hx) (by simpa using hy)) r h
    · cases h

theorem run_checkKey {kt : TypeId} {kd : TypeDesc} {k : Value} (hu : P.underlying kt = some kd) (hk : (kd = .string ∧ ∃ s, k = .string s) ∨ ∃ a b c, kd = .int a ∧ k = .int b c) (e : Bool) (n : Nat) (w : World) :
    (Instr.checkKey e (n + 1) kt k).run P w = .ok () w := by
  rcases hk with ⟨rfl, s, rfl⟩ | ⟨a, b, c, rfl, rfl⟩ <;> simp [Instr.checkKey, run_underlying hu]

theorem run_findKey {kt : TypeId} {kd : TypeDesc} {k : Value} (hu : P.underlying kt = some kd) {es : List MapEntry} {r : Option (Nat × Value)} (h : Instr.findNow kd k es 0 = some r) (w : World) :
    (Instr.findKey kt k es).run P w = .ok r w := by
  simp [Instr.findKey, run_underlying hu, h]

theorem run_getObj_map {r : Nat} {es : Array MapEntry} {c : Nat} (h : w.heap[r]? = some (.map es c)) : (getObj r).run P w = .ok (.map es c) w := by
  simp [getObj, Sem.run, h]

theorem V.pair {x y x' y' : Value} (h : V μ x x') (k : V μ y y') : V μ (.tuple #[x, y]) (.tuple #[x', y']) := by
  refine .tuple _ _ rfl fun i a b ha hb => ?_
  match i with
  | 0 => simp at ha hb; subst ha hb; exact h
  | 1 => simp at ha hb; subst ha hb; exact k
  | i + 2 => simp at ha

theorem ZeroOk.v (hz : ZeroOk P) {t : TypeId} {i : TypeInfo} {z : Value} (hi : tinfo P t = some i) (h : i.zero = some z) : V μ z z := by
  have hp : ∀ (j : Nat) (x : Value), z.cells[j]? = some x → V μ x x := fun j x hx => .plainZ (Array.all_eq_true_iff_forall_mem.1 (hz t i z hi h) x (Array.mem_of_getElem? hx))
  cases z with
  | agg cs => exact .agg cs cs rfl fun j x y hx hy => by rw [hx] at hy; cases hy; exact hp j x hx
  | _ => exact hp 0 _ rfl

theorem aLookup_sound (hz : ZeroOk P) (hr : Rel μ σ w) {t : TypeId} {m m' k k' v : Value} {ok : Bool} (h : aLookup P t m k ok σ = some v) (hm : V μ m m') (hk : V μ k k') :
    ∃ v', (Instr.lookup t m' k' ok).run P w = .ok v' w ∧ V μ v v' := by
  unfold aLookup at h
  split at h
  · rename_i kt et r hu
    cases hm with
    | map _ e hμ =>
    split at h
    · rename_i es c kd ei hmap hkd hei
      obtain ⟨e', he', hM⟩ := hr.map _ _ _ hmap
      obtain rfl : e' = e := by rw [hμ] at he'; exact (Option.some.inj he').symm
      obtain ⟨es', hh, hsz, hent⟩ := hM.out
      have hgo : (getObj e'.blk).run P w = .ok (.map es' c) w := run_getObj_map hh
      have main : ∀ (hkk : (kd = .string ∧ ∃ s, k = .string s) ∨ ∃ a b c, kd = .int a ∧ k = .int b c),
          (match Instr.findNow kd k es.toList 0, ei.zero with
            | some (some (_, v)), _ => some (if ok then .tuple #[v, .bool true] else v)
            | some none, some z => some (if ok then .tuple #[z, .bool false] else z)
            | _, _ => none) = some v → ∃ v', (Instr.lookup t (.map (some e'.blk)) k' ok).run P w = .ok v' w ∧ V μ v v' := by
        intro hkk h
        have hkf : Abs.flat k = true := by rcases hkk with ⟨_, s, rfl⟩ | ⟨a, b, c, _, rfl⟩ <;> rfl
        obtain rfl := hk.of_flat hkf
        have hfs := findNow_sound (μ := μ) (kd := kd) (k := k') es.toList es'.toList 0 (by simpa using hsz) (fun j x y hx hy => by
            obtain ⟨a, _, b, _⟩ := hent j x y (by simpa using hx) (by simpa using hy); exact ⟨a, b⟩)
        split at h
        · rename_i j x hf
          simp only [Option.some.injEq] at h
          subst h
          rcases hfs _ hf with ⟨h1, _⟩ | ⟨j', v1, v2, h1, h2, hV⟩
          · cases h1
          · cases h1
            refine ⟨if ok then .tuple #[v2, .bool true] else v2, ?_, ?_⟩
            · simp [Instr.lookup, run_underlying hu, hgo, run_checkKey hkd hkk, run_findKey hkd h2]
            · cases ok
              · exact hV
              · exact .pair hV (.bool _)
        · rename_i z hf hzz
          simp only [Option.some.injEq] at h
          subst h
          rcases hfs _ hf with ⟨_, h2⟩ | ⟨j', v1, v2, h1, h2, hV⟩
          · refine ⟨if ok then .tuple #[z, .bool false] else z, ?_, ?_⟩
            · simp [Instr.lookup, run_underlying hu, hgo, run_checkKey hkd hkk, run_findKey hkd h2, run_zero (tinfo_some hei) hzz]
            · cases ok
              · exact hz.v hei hzz
              · exact .pair (hz.v hei hzz) (.bool _)
          · cases h1
        · cases h
      split at h
      · exact main (.inl ⟨rfl, _, rfl⟩) h
      · exact main (.inr ⟨_, _, _, rfl, rfl⟩) h
      · cases h
    · cases h
  · cases h

theorem aRead_sound (hz : ZeroOk P) (hr : Rel μ σ w) {o : Oper} {ρ ρ' : Operand → Value} {v : Value} (hρ : ∀ x, V μ (ρ x) (ρ' x))
    (h : aRead P o.op (o.op.operands.toList.map ρ) σ = some v) : ∃ v', (execOp ρ' o).run P w = .ok (.value v') w ∧ V μ v v' := by
  obtain ⟨dst, op, type, pos, after, guard⟩ := o
  simp only at h
  unfold aRead at h
  split at h
  · rename_i t x p hp
    simp only [Op.operands, List.map_cons, List.map_nil, List.cons.injEq, and_true] at hp
    subst hp
    obtain ⟨v', h1, h2⟩ := aLoad_sound hr h (hρ x)
    exact ⟨v', by simp [execOp, h1], h2⟩
  · rename_i t x i ok m k hp
    simp only [Op.operands, List.map_cons, List.map_nil, List.cons.injEq, and_true] at hp
    obtain ⟨rfl, rfl⟩ := hp
    obtain ⟨v', h1, h2⟩ := aLookup_sound hz hr h (hρ x) (hρ i)
    exact ⟨v', by simp [execOp, h1], h2⟩
  · rename_i s d x y hp
    simp only [Op.operands, List.map_cons, List.map_nil, List.cons.injEq, and_true] at hp
    subst hp
    have hx := hρ x
    simp only [execOp]
    generalize ρ' x = y at hx ⊢
    split at h
    · rename_i e hs hd
      split at h
      · rename_i c he hc
        rw [hc] at hx
        simp only [Option.some.injEq] at h
        subst h
        cases hx with
        | sliceNil =>
        exact ⟨.string ByteArray.empty, by rw [Sem.run_bind, run_convert_bytes_nil w s e hs he 0 0 d hd]; rfl, .string _⟩
      · rename_i b o z n c he hc
        rw [hc] at hx
        split at h
        · rename_i cs hcs
          simp only [Option.map_eq_some_iff] at h
          obtain ⟨l, hl, rfl⟩ := h
          obtain ⟨xs, hxs, rfl⟩ := bytesOf_spec hl
          simp only [rdCells] at hcs
          split at hcs
          · rename_i r hrow
            split at hcs
            · rename_i hle
              simp only [Option.some.injEq] at hcs
              cases hx with
              | slice _ _ _ _ e' cap hμ hn hroom hcc =>
                obtain ⟨e2, he2, hR⟩ := hr.row b r hrow
                obtain rfl : e2 = e' := by rw [hμ] at he2; exact (Option.some.inj he2).symm
                obtain ⟨us, hul, hat, hV⟩ := hR.range hle
                have hcl : xs.length = n := by
                  have := congrArg Array.size hcs
                  simp only [Array.size_extract] at this
                  have h2 := congrArg List.length hxs
                  simp only [Array.length_toList, List.length_map] at h2
                  omega
                refine ⟨.string (strOfNums xs), ?_, .string _⟩
                rw [Sem.run_bind, run_convert_bytes_arg w s e hs he e2.blk (e2.off + o) n cap xs hcl (fun i hi => ?_) d hd]
                · rfl
                · have hxi : xs[i]? = some (xs.getD i 0) := by
                    rw [List.getD_eq_getElem?_getD, List.getElem?_eq_getElem (by omega)]; rfl
                  have hc1 : cs[i]? = some (.int .u8 (xs.getD i 0)) := by
                    rw [← Array.getElem?_toList, hxs, List.getElem?_map, hxi]; rfl
                  rw [← hcs] at hc1
                  obtain ⟨u, hu, hVu⟩ := hV.at_ hc1
                  have := hVu.of_flat rfl
                  subst this
                  exact hat i _ (by simpa using hu)
              | sliceEmpty _ _ _ _ a hcc =>
                have hxn : xs = [] := by
                  have h2 := congrArg List.length hxs
                  rw [← hcs] at h2
                  simp at h2
                  exact List.eq_nil_of_length_eq_zero (by omega)
                subst hxn
                refine ⟨.string (strOfNums []), ?_, .string _⟩
                rw [Sem.run_bind]
                simp [convert, run_underlying hs, run_underlying hd, run_underlying he, Conv.bytesToString, loadCells, loadCellsFrom]
                rfl
            · cases hcs
          · cases hcs
        · cases h
      · cases h
    · cases h
  · rename_i args ts r hp
    have hp : args.toList.map ρ = [.map (some r)] := by simpa [Op.operands, Call.operands] using hp
    split at h
    · rename_i t tl ht
      split at h
      · rename_i kt et es c hu hmap
        simp only [Option.some.injEq] at h
        subst h
        have ha : ∃ x, args = #[x] ∧ ρ x = .map (some r) := by
          obtain ⟨l⟩ := args
          cases l with
          | nil => simp at hp
          | cons x l =>
            cases l with
            | nil => exact ⟨x, rfl, by simpa using hp⟩
            | cons _ _ => simp at hp
        obtain ⟨x, rfl, hx⟩ := ha
        have hV := hρ x
        rw [hx] at hV
        generalize hy : ρ' x = y at hV
        cases hV with
        | map _ e hμ =>
        obtain ⟨e', he', hM⟩ := hr.map _ _ _ hmap
        obtain rfl : e' = e := by rw [hμ] at he'; exact (Option.some.inj he').symm
        obtain ⟨es', hh, hsz, hent⟩ := hM.out
        have ht0 : ts[0]? = some t := by rw [← Array.getElem?_toList, ht]; rfl
        have hgo : (getObj e'.blk).run P w = .ok (.map es' c) w := run_getObj_map hh
        exact ⟨.int .i64 es.size, by simp [execOp, resolve, invoke, builtin, Builtin.len_, hy, ht0, run_underlying hu, hgo, goInt, hsz], .int _ _⟩
      · cases h
    · cases h
  · cases h
end Go.Abs
