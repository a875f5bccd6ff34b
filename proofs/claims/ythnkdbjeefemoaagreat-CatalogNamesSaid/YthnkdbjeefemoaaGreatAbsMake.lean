/-
  Operations that make an object.
-/
import Derived.Test.YthnkdbjeefemoaaGreatAbsRead
import Derived.Laws.IdiomStrings
import Derived.Laws.MakeOwn
import Derived.Great.BuildSlice
set_option linter.unusedVariables false
set_option linter.unusedSimpArgs false
namespace Go.Abs
open Go Go.RowKit

variable {P : Program} {μ μ0 : Mu} {σ σ0 : Heap} {w w0 : World}

structure NewBlk (w w' : World) : Prop where
  size : w'.heap.size = w.heap.size + 1
  old : ∀ k, k < w.heap.size → w'.heap[k]? = w.heap[k]?
  os : w'.os = w.os
  tape : w'.tape = w.tape
  output : w'.output = w.output

theorem NewBlk.alloc (w : World) (o : Obj) : NewBlk w (w.alloc o) := ⟨by simp, fun k hk => Below.heap_alloc w o k hk, rfl, rfl, rfl⟩
theorem NewBlk.drew_alloc (w : World) (o : Obj) : NewBlk w (w.drew.alloc o) := ⟨by simp, fun k hk => Below.heap_alloc w.drew o k hk, rfl, rfl, rfl⟩

theorem fill_new (hr : Rel μ σ w) (hx : Ext μ0 σ0 w0 μ σ w) {w' : World} (hn : NewBlk w w') {σ' : Heap} (s : Nat) (o : AObj) (e : Place) (he : e.blk = w.heap.size)
    (hμ : μ s = none) (h0 : σ0.size ≤ s) (hs : s < σ'.size) (hsz : σ.size ≤ σ'.size) (hnew : σ'[s]? = some (some o)) (hold : ∀ (b : Nat) (o : AObj), b ≠ s → σ'[b]? = some (some o) → σ[b]? = some (some o))
    (hobj : ObjRel (μ.set s e) o e w') : Rel (μ.set s e) σ' w' ∧ Ext μ0 σ0 w0 (μ.set s e) σ' w' := by
  constructor
  · refine hr.fill s o e hμ hs hsz hnew hold (fun b e' hb ha hbe => ?_) hobj
    have ha' : alive σ b := by obtain ⟨o', ho⟩ := ha; exact ⟨o', hold b o' hb ho⟩
    have := hr.blk_lt ha' hbe
    exact ⟨by omega, hn.old _ this⟩
  · refine ⟨?_, Nat.le_trans hx.size hsz, by have := hx.hs; have := hn.size; omega, hn.os.trans hx.os, hn.tape.trans hx.tape, hn.output.trans hx.output, ?_, ?_, ?_⟩
    · intro b hb
      unfold Mu.set
      rw [if_neg (by omega)]
      exact hx.same b hb
    · intro k hk hf
      rw [hn.old k (Nat.lt_of_lt_of_le hk hx.hs), hx.frame k hk hf]
    · intro b e' hw hb hk
      unfold Mu.set at hb
      split at hb
      · simp only [Option.some.injEq] at hb
        subst hb
        have := hx.hs
        omega
      · rename_i hbs
        refine hx.own b e' ?_ hb hk
        rcases hw with ⟨r, hr', hro⟩ | ⟨m, hm⟩
        · exact .inl ⟨r, row?_eq.2 (hold _ _ hbs (row?_eq.1 hr')), hro⟩
        · exact .inr ⟨m, map?_eq.2 (hold _ _ hbs (map?_eq.1 hm))⟩
    · intro b e' hw hb hk
      unfold Mu.set at hb
      split at hb
      · simp only [Option.some.injEq] at hb
        subst hb
        have := hx.hs
        omega
      · rename_i hbs
        obtain ⟨o', ho⟩ := hw
        exact hx.old b e' ⟨o', hold b o' hbs ho⟩ hb hk

theorem rowRel_block {r : Row} {e : Place} {cs : Array Value} {t : TypeId} {fr : Nat × Nat} (hh : w.heap[e.blk]? = some (.cells cs t fr)) (hb : cs.size = e.bsz) (ho : e.off = 0)
    (hle : r.cells.size ≤ cs.size) (hv : ∀ (i : Nat) (x y : Value), r.cells[i]? = some x → cs[i]? = some y → V μ x y) (hf : cs.size ≤ fr.1 ∨ fr.2 ≤ fr.1) : RowRel μ r e w := by
  refine ⟨cs, t, fr, hh, hb, by omega, fun i v hi => ?_, fun _ i hi => by omega⟩
  have hlt : i < r.cells.size := by
    rcases Nat.lt_or_ge i r.cells.size with h1 | h1
    · exact h1
    · rw [Array.getElem?_eq_none h1] at hi; cases hi
  have := Array.getElem?_eq_getElem (xs := cs) (i := i) (by omega)
  exact ⟨cs[i], by rw [ho, Nat.zero_add]; exact this, hv i v _ hi this⟩

theorem heap_new (w : World) (o : Obj) : (w.alloc o).heap[w.heap.size]? = some o := by
  show (w.heap.push o)[w.heap.size]? = _
  simp

theorem le_set {s : Nat} {e : Place} (hμ : μ s = none) : ∀ b e', μ b = some e' → (μ.set s e) b = some e' := fun b e' hb => by
  unfold Mu.set
  split
  · rename_i hbs; subst hbs; rw [hμ] at hb; cases hb
  · exact hb
theorem set_same {s : Nat} {e : Place} : (μ.set s e) s = some e := by simp [Mu.set]

theorem repeat_plain (hz : ZeroOk P) {t : TypeId} {i : TypeInfo} {z : Value} (hi : tinfo P t = some i) (h : i.zero = some z) (n : Nat) : VA μ (repeatCells z.cells n) (repeatCells z.cells n) := by
  refine VA.refl_of fun j x hx => ?_
  simp only [repeatCells, Array.getElem?_map, Option.map_eq_some_iff] at hx
  obtain ⟨k, _, rfl⟩ := hx
  rw [getElem!_def]
  split
  · rename_i v hv
    exact .plainZ (Array.all_eq_true_iff_forall_mem.1 (hz t i z hi h) v (Array.mem_of_getElem? hv))
  · exact .bool _

theorem fill_size {place : Nat → Option (Nat × Nat)} : ∀ (parts : List (Nat × Value)) (cs res : Array Value), Instr.fill place cs parts = some res → res.size = cs.size
  | [], cs, res, h => by simp only [Instr.fill, Option.some.injEq] at h; rw [h]
  | (i, v) :: ps, cs, res, h => by
    simp only [Instr.fill] at h
    split at h
    · cases h
    · split at h
      · cases h
      · rw [fill_size ps _ res h]
        have key : ∀ (l : List (Value × Nat)) (off : Nat) (a : Array Value), (l.foldl (fun cs (x : Value × Nat) => cs.setIfInBounds (off + x.2) x.1) a).size = a.size := by
          intro l off
          induction l with
          | nil => intro a; rfl
          | cons x l ih => intro a; rw [List.foldl_cons, ih]; simp
        rw [← Array.foldl_toList, Array.toList_zipIdx]
        exact key _ _ _

def Made (P : Program) (μ : Mu) (s : Sem Next) (w : World) (obj : AObj) (f : Nat → Value) : Prop :=
  ∃ v' w' e, s.run P w = .ok (.value v') w' ∧ NewBlk w w' ∧ e.blk = w.heap.size ∧ ∀ k, μ k = none → ObjRel (μ.set k e) obj e w' ∧ V (μ.set k e) (f k) v'

theorem aMake_sound (hz : ZeroOk P) {o : Oper} {ρ ρ' : Operand → Value} {obj : AObj} {f : Nat → Value} (hρ : ∀ x, V μ (ρ x) (ρ' x)) (w : World) (h : aMake P o.op ρ = some (obj, f)) : Made P μ (execOp ρ' o) w obj f := by
  obtain ⟨dst, op, type, pos, after, guard⟩ := o
  simp only at h
  unfold aMake at h
  split at h
  · rename_i t
    split at h
    · rename_i i hi
      split at h
      · rename_i z hzz
        simp only [Option.some.injEq, Prod.mk.injEq] at h
        obtain ⟨rfl, rfl⟩ := h
        refine ⟨.pointer (some ⟨w.heap.size, 0 + 0, none⟩), w.alloc (.cells z.cells t), ⟨w.heap.size, 0, 1, z.cells.size⟩, ?_, .alloc _ _, rfl, fun k hk => ⟨?_, .ptr _ _ _ set_same⟩⟩
        · simp [execOp, Instr.alloc, run_zero (tinfo_some hi) hzz, newVar, newRow]
        · refine rowRel_block (heap_new w _) rfl rfl (Nat.le_refl _) (fun i x y hx hy => ?_) (.inr (Nat.le_refl _))
          rw [hx] at hy
          cases hy
          exact .plainZ (Array.all_eq_true_iff_forall_mem.1 (hz _ _ z hi hzz) x (Array.mem_of_getElem? hx))
      · cases h
    · cases h
  · rename_i t x
    split at h
    · rename_i hk
      simp only [Option.some.injEq, Prod.mk.injEq] at h
      obtain ⟨rfl, rfl⟩ := h
      have hne : ρ x ≠ .chan none := fun e => by rw [e] at hk; simp [Value.cells, okCell] at hk
      have hc := (hρ x).cells hne
      refine ⟨.pointer (some ⟨w.heap.size, 0 + 0, none⟩), w.alloc (.cells (ρ' x).cells t), ⟨w.heap.size, 0, 1, (ρ' x).cells.size⟩, ?_, .alloc _ _, rfl, fun k hk => ⟨?_, .ptr _ _ _ set_same⟩⟩
      · simp [execOp, Instr.box, newVar, newRow]
      · refine rowRel_block (heap_new w _) rfl rfl (by rw [hc.1]; exact Nat.le_refl _) (fun i x y hx hy => ?_) (.inr (Nat.le_refl _))
        exact (hc.2 i x y hx hy).mono (le_set hk)
    · cases h
  · rename_i t len parts
    split at h
    · rename_i el hu
      split at h
      · rename_i i hi
        split at h
        · rename_i hle
          split at h
          · rename_i z hzz
            split at h
            · rename_i cs hcs
              split at h
              · rename_i hk
                simp only [Option.some.injEq, Prod.mk.injEq] at h
                obtain ⟨rfl, rfl⟩ := h
                obtain ⟨hl, hp⟩ := partsV hρ parts
                obtain ⟨res, hres, hV⟩ := fillAll_sound hl hp (repeat_plain hz hi hzz (len * i.size)) hcs
                have hsz : res.size = len * i.size := by rw [fill_size _ _ _ hres]; simp [repeatCells]
                refine ⟨.slice (some ⟨w.heap.size, 0 + 0, none⟩) len len, w.alloc (.cells res el), ⟨w.heap.size, 0, i.size, res.size⟩, ?_, .alloc _ _, rfl, fun k hk => ⟨?_, ?_⟩⟩
                · have hgoal : (execOp ρ' ⟨dst, .buildSlice t len parts, type, pos, after, guard⟩ : Sem Next) = (do pure (.value (← Instr.buildSlice t len (parts.map fun (i, x) => (i, ρ' x))))) := rfl
                  rw [hgoal]
                  clear hgoal
                  generalize (parts.map fun (i, x) => (i, ρ' x)) = pp at hres ⊢
                  have hbs : (Instr.buildSlice t len pp).run P w = .ok (.slice (some ⟨w.heap.size, 0, none⟩) len len) (w.alloc (.cells res el)) := by
                    by_cases h0 : len * i.size = 0
                    · have e0 : ∀ f : Nat → Value, (Array.range 0).map f = #[] := fun f => by simp [Array.range]
                      have hr0 : Instr.fill (fun j => some (j * i.size, i.size)) #[] pp.toList = some res := by
                        have := hres
                        simp only [h0, repeatCells, e0] at this
                        exact this
                      simp only [Instr.buildSlice, Sem.run_bind, run_underlying hu, Result.andThen_ok, run_info (tinfo_some hi), h0, e0]
                      simp [e0, hr0, newRow]
                    · exact run_buildSlice (P := P) w t el len pp res i z hu (tinfo_some hi) hzz (by omega) h0 hres
                  rw [Sem.run_bind, hbs]; rfl
                · exact rowRel_block (heap_new w _) rfl rfl (by rw [hV.1]; exact Nat.le_refl _) (fun i x y hx hy => (hV.2 i x y hx hy).mono (le_set hk)) (.inr (Nat.le_refl _))
                · exact .slice k 0 len (len + 1) ⟨w.heap.size, 0, i.size, res.size⟩ len set_same (Nat.le_refl _) (by simp [hsz]) (.inr rfl)
              · cases h
            · cases h
          · cases h
        · cases h
      · cases h
    · cases h
  · rename_i t l c
    split at h
    · rename_i el n m hu hl hc
      split at h
      · rename_i i hi
        split at h
        · rename_i z hzz
          split at h
          · rename_i hcond
            obtain ⟨rfl, hn0, hnb, hnm⟩ := hcond
            simp only [Option.some.injEq, Prod.mk.injEq] at h
            obtain ⟨rfl, rfl⟩ := h
            have hl' : ρ' l = .int .i64 n := by have := hρ l; rw [hl] at this; exact this.of_flat rfl
            have hc' : ρ' c = .int .i64 n := by have := hρ c; rw [hc] at this; exact this.of_flat rfl
            have hb : (i.bytes : Int) * n ≤ 281474976710656 := by rw [Int.mul_comm]; exact hnb
            have hrun := run_make (P := P) w t el i z hu (tinfo_some hi) hzz .i64 .i64 n n hn0 (Int.le_refl _) hb (by omega)
            refine ⟨.slice (some ⟨w.heap.size, 0 + 0, none⟩) n.toNat n.toNat, w.alloc (.cells (madeCells z.cells (n.toNat * i.size)) el), ⟨w.heap.size, 0, i.size, (madeCells z.cells (n.toNat * i.size)).size⟩, ?_, .alloc _ _, rfl, fun k hk => ⟨?_, ?_⟩⟩
            · simp only [execOp, hl', hc']
              rw [Sem.run_bind, hrun]; rfl
            · exact rowRel_block (heap_new w _) rfl rfl (Nat.le_refl _) (fun i x y hx hy => ((repeat_plain hz hi hzz _).2 i x y hx hy).mono (le_set hk)) (.inr (Nat.le_refl _))
            · exact .slice k 0 _ _ ⟨w.heap.size, 0, i.size, _⟩ _ set_same (Nat.le_refl _) (by simp [size_madeCells]) (.inr rfl)
          · cases h
        · cases h
      · cases h
    · cases h
  · rename_i t r
    split at h
    · rename_i hr0
      have : r = none := by cases r <;> simp_all
      subst this
      simp only [Option.some.injEq, Prod.mk.injEq] at h
      obtain ⟨rfl, rfl⟩ := h
      refine ⟨.map (some w.heap.size), w.alloc (.map #[] 0), ⟨w.heap.size, 0, 1, 0⟩, ?_, .alloc _ _, rfl, fun k hk => ⟨?_, .map _ _ set_same⟩⟩
      · simp [execOp, Instr.makeMap]
      · exact ⟨#[], heap_new w _, rfl, by simp⟩
    · cases h
  · rename_i s d x
    split at h
    · rename_i el b hs hd hx
      split at h
      · rename_i hel
        simp only [Option.some.injEq, Prod.mk.injEq] at h
        obtain ⟨rfl, rfl⟩ := h
        have hx' : ρ' x = .string b := by have := hρ x; rw [hx] at this; exact this.of_flat rfl
        have hcap := grownCap_ge w b.size 0 el
        have hsz : (bytesRow b (grownCap w b.size 0 el)).size = grownCap w b.size 0 el := by
          simp only [bytesRow, Array.size_append, Array.size_map, Array.size_replicate]
          have : b.data.size = b.size := rfl
          omega
        refine ⟨.slice (some ⟨w.heap.size, 0 + 0, none⟩) b.size (grownCap w b.size 0 el), w.drew.alloc (.cells (bytesRow b (grownCap w b.size 0 el)) el ((bytesRow b (grownCap w b.size 0 el)).size, (bytesRow b (grownCap w b.size 0 el)).size + 1)), ⟨w.heap.size, 0, 1, (bytesRow b (grownCap w b.size 0 el)).size⟩, ?_, .drew_alloc _ _, rfl, fun k hk => ⟨?_, ?_⟩⟩
        · simp only [execOp, hx']
          rw [Sem.run_bind, run_bytes_of_string w s d el b hs hd hel]
          rfl
        · refine rowRel_block (heap_new w.drew _) rfl rfl ?_ (fun i x y hx hy => ?_) (.inl (Nat.le_refl _))
          · simp only [hsz, Array.size_map]; exact hcap
          · rw [Array.getElem?_map] at hx
            simp only [Option.map_eq_some_iff] at hx
            obtain ⟨c, hc, rfl⟩ := hx
            have hlt : i < b.data.size := by
              rcases Nat.lt_or_ge i b.data.size with h1 | h1
              · exact h1
              · rw [Array.getElem?_eq_none h1] at hc; cases hc
            rw [bytesRow_at b _ i hlt] at hy
            rw [Array.getElem?_eq_getElem hlt] at hc
            cases hc
            cases hy
            exact .int _ _
        · exact .slice k 0 _ 0 ⟨w.heap.size, 0, 1, _⟩ _ set_same hcap (by simp [hsz]) (.inl rfl)
      · cases h
    · cases h
  · cases h
end Go.Abs
