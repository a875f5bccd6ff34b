/-
  How an abstract heap stands for a world: the relation, and how it lives on.
-/
import Derived.Test.YthnkdbjeefemoaaGreatAbsRun
import Derived.Deep.AppendSrc
import Derived.Deep.MidRow
import Derived.Below
set_option linter.unusedVariables false
namespace Go.Abs
open Go Go.RowKit

structure Place where
  blk : Nat
  off : Nat
  esz : Nat
  bsz : Nat

abbrev Mu := Nat → Option Place

inductive V (μ : Mu) : Value → Value → Prop
  | unk (y : Value) : V μ (.chan none) y
  | bool (b : Bool) : V μ (.bool b) (.bool b)
  | int (k : IntKind) (n : Int) : V μ (.int k n) (.int k n)
  | float (k : FloatKind) (n : Nat) : V μ (.float k n) (.float k n)
  | complex (k : FloatKind) (a b : Nat) : V μ (.complex k a b) (.complex k a b)
  | string (s : ByteArray) : V μ (.string s) (.string s)
  | nilFunc : V μ .nilFunc .nilFunc
  | nilIface : V μ .nilIface .nilIface
  | ptrNil : V μ (.pointer none) (.pointer none)
  | ptr (b o : Nat) (e : Place) (h : μ b = some e) : V μ (.pointer (some ⟨b, o, none⟩)) (.pointer (some ⟨e.blk, e.off + o, none⟩))
  | sliceNil (c : Nat) : V μ (.slice none 0 c) (.slice none 0 0)
  | slice (b o n c : Nat) (e : Place) (cap : Nat) (h : μ b = some e) (hn : n ≤ cap) (hroom : e.off + o + cap * e.esz ≤ e.bsz) (hc : c = 0 ∨ c = cap + 1) :
      V μ (.slice (some ⟨b, o, some e.esz⟩) n c) (.slice (some ⟨e.blk, e.off + o, none⟩) n cap)
  | sliceEmpty (b o z c : Nat) (a : Addr) (hc : c = 0 ∨ c = 1) : V μ (.slice (some ⟨b, o, some z⟩) 0 c) (.slice (some a) 0 0)
  | mapNil : V μ (.map none) (.map none)
  | map (b : Nat) (e : Place) (h : μ b = some e) : V μ (.map (some b)) (.map (some e.blk))
  | func (fn : Fn) (p q p' q' : Array Value) (hp : p.size = p'.size) (hq : q.size = q'.size)
      (h1 : ∀ (i : Nat) (x y : Value), p[i]? = some x → p'[i]? = some y → V μ x y) (h2 : ∀ (i : Nat) (x y : Value), q[i]? = some x → q'[i]? = some y → V μ x y) : V μ (.func fn p q) (.func fn p' q')
  | iface (t : TypeId) (x y : Value) (h : V μ x y) : V μ (.iface t x) (.iface t y)
  | agg (p p' : Array Value) (hp : p.size = p'.size) (h1 : ∀ (i : Nat) (x y : Value), p[i]? = some x → p'[i]? = some y → V μ x y) : V μ (.agg p) (.agg p')
  | tuple (p p' : Array Value) (hp : p.size = p'.size) (h1 : ∀ (i : Nat) (x y : Value), p[i]? = some x → p'[i]? = some y → V μ x y) : V μ (.tuple p) (.tuple p')

/-- arrays, place by place -/
def VA (μ : Mu) (p p' : Array Value) : Prop := p.size = p'.size ∧ ∀ (i : Nat) (x y : Value), p[i]? = some x → p'[i]? = some y → V μ x y

theorem V.mono {μ μ' : Mu} (hle : ∀ b e, μ b = some e → μ' b = some e) {x y : Value} (h : V μ x y) : V μ' x y := by
  induction h with
  | unk y => exact .unk y
  | bool b => exact .bool b
  | int k n => exact .int k n
  | float k n => exact .float k n
  | complex k a b => exact .complex k a b
  | string s => exact .string s
  | nilFunc => exact .nilFunc
  | nilIface => exact .nilIface
  | ptrNil => exact .ptrNil
  | ptr b o e h => exact .ptr b o e (hle _ _ h)
  | sliceNil c => exact .sliceNil c
  | slice b o n c e cap h hn hr hc => exact .slice b o n c e cap (hle _ _ h) hn hr hc
  | sliceEmpty b o z c a hc => exact .sliceEmpty b o z c a hc
  | mapNil => exact .mapNil
  | map b e h => exact .map b e (hle _ _ h)
  | func fn p q p' q' hp hq _ _ i1 i2 => exact .func fn p q p' q' hp hq i1 i2
  | iface t x y _ ih => exact .iface t x y ih
  | agg p p' hp _ i1 => exact .agg p p' hp i1
  | tuple p p' hp _ i1 => exact .tuple p p' hp i1

theorem VA.mono {μ μ' : Mu} (hle : ∀ b e, μ b = some e → μ' b = some e) {x y : Array Value} (h : VA μ x y) : VA μ' x y :=
  ⟨h.1, fun i a b ha hb => (h.2 i a b ha hb).mono hle⟩

theorem V.undef (μ : Mu) : V μ Go.undef Go.undef := .tuple #[] #[] rfl (by simp)

theorem V.cells {μ : Mu} {x y : Value} (h : V μ x y) (hx : x ≠ .chan none) : VA μ x.cells y.cells := by
  cases h with
  | agg p p' hp h1 => exact ⟨hp, h1⟩
  | unk y => exact absurd rfl hx
  | _ =>
    refine ⟨rfl, fun i a b ha hb => ?_⟩
    simp only [Value.cells] at ha hb
    have hi : i = 0 := by
      rcases Nat.eq_zero_or_pos i with h0 | h0
      · exact h0
      · rw [Array.getElem?_eq_none (by simp; omega)] at ha; cases ha
    subst hi
    simp only [List.getElem?_toArray, List.getElem?_cons_zero, Option.some.injEq] at ha hb
    subst ha hb
    first
      | exact .bool _
      | exact .int _ _
      | exact .float _ _
      | exact .complex _ _ _
      | exact .string _
      | exact .nilFunc
      | exact .nilIface
      | exact .ptrNil
      | exact .ptr _ _ _ ‹_›
      | exact .sliceNil _
      | exact .slice _ _ _ _ _ _ ‹_› ‹_› ‹_› ‹_›
      | exact .sliceEmpty _ _ _ _ _ ‹_›
      | exact .mapNil
      | exact .map _ _ ‹_›
      | exact .func _ _ _ _ _ ‹_› ‹_› ‹_› ‹_›
      | exact .iface _ _ _ ‹_›
      | exact .tuple _ _ ‹_› ‹_›

theorem V.okCell {μ : Mu} {x y : Value} (h : V μ x y) (hx : okCell x = true) : y.oneCell' = true := by
  cases h <;> simp_all [Abs.okCell, Value.oneCell']

def wr (σ : Heap) (b : Nat) : Prop := (∃ r, row? σ b = some r ∧ r.ro = false) ∨ ∃ m, map? σ b = some m
def alive (σ : Heap) (b : Nat) : Prop := ∃ o, σ[b]? = some (some o)

theorem alive_of_row {σ : Heap} {b : Nat} {r : Row} (h : row? σ b = some r) : alive σ b := by
  unfold row? at h
  split at h <;> simp_all [alive]
theorem alive_of_map {σ : Heap} {b : Nat} {m : Array MapEntry × Nat} (h : map? σ b = some m) : alive σ b := by
  unfold map? at h
  split at h <;> simp_all [alive]
theorem row?_eq {σ : Heap} {b : Nat} {r : Row} : row? σ b = some r ↔ σ[b]? = some (some (.row r)) := by
  unfold row?
  split <;> simp_all
theorem map?_eq {σ : Heap} {b : Nat} {m : Array MapEntry × Nat} : map? σ b = some m ↔ σ[b]? = some (some (.map m.1 m.2)) := by
  obtain ⟨es, c⟩ := m
  unfold map?
  split <;> simp_all
theorem alive.lt {σ : Heap} {b : Nat} (h : alive σ b) : b < σ.size := by
  obtain ⟨o, h⟩ := h
  rcases Nat.lt_or_ge b σ.size with h1 | h1
  · exact h1
  · rw [Array.getElem?_eq_none h1] at h; cases h
theorem wr.alive {σ : Heap} {b : Nat} (h : wr σ b) : alive σ b := by
  rcases h with ⟨r, h, _⟩ | ⟨m, h⟩
  · exact alive_of_row h
  · exact alive_of_map h

structure RowRel (μ : Mu) (r : Row) (e : Place) (w : World) : Prop where
  out : ∃ cs t fr, w.heap[e.blk]? = some (.cells cs t fr) ∧ cs.size = e.bsz ∧ e.off + r.cells.size ≤ e.bsz ∧
    (∀ i v, r.cells[i]? = some v → ∃ u, cs[e.off + i]? = some u ∧ V μ v u) ∧ (r.ro = false → ∀ i, i < e.bsz → ¬ (fr.1 ≤ i ∧ i < fr.2))

structure MapRel (μ : Mu) (es : Array MapEntry) (c : Nat) (e : Place) (w : World) : Prop where
  out : ∃ es', w.heap[e.blk]? = some (.map es' c) ∧ es.size = es'.size ∧
    ∀ (i : Nat) (x y : MapEntry), es[i]? = some x → es'[i]? = some y → y.key = x.key ∧ y.born = x.born ∧ V μ x.val y.val ∧ isScal x.key = true

structure Rel (μ : Mu) (σ : Heap) (w : World) : Prop where
  dom : ∀ b e, μ b = some e → b < σ.size
  row : ∀ b r, row? σ b = some r → ∃ e, μ b = some e ∧ RowRel μ r e w
  map : ∀ b es c, map? σ b = some (es, c) → ∃ e, μ b = some e ∧ MapRel μ es c e w
  sep : ∀ b b' e e', wr σ b → alive σ b' → b ≠ b' → μ b = some e → μ b' = some e' → e.blk ≠ e'.blk

structure Ext (μ : Mu) (σ : Heap) (w : World) (μ' : Mu) (σ' : Heap) (w' : World) : Prop where
  same : ∀ b, b < σ.size → μ' b = μ b
  size : σ.size ≤ σ'.size
  hs : w.heap.size ≤ w'.heap.size
  os : w'.os = w.os
  tape : w'.tape = w.tape
  output : w'.output = w.output
  frame : ∀ k, k < w.heap.size → (∀ b e, wr σ b → μ b = some e → e.blk ≠ k) → w'.heap[k]? = w.heap[k]?
  own : ∀ b e, wr σ' b → μ' b = some e → e.blk < w.heap.size → ∃ b0 e0, wr σ b0 ∧ μ b0 = some e0 ∧ e0.blk = e.blk
  old : ∀ b e, alive σ' b → μ' b = some e → e.blk < w.heap.size → ∃ b0 e0, alive σ b0 ∧ μ b0 = some e0 ∧ e0.blk = e.blk

theorem Ext.le {μ μ' : Mu} {σ σ' : Heap} {w w' : World} (h : Ext μ σ w μ' σ' w') (hr : Rel μ σ w) : ∀ b e, μ b = some e → μ' b = some e :=
  fun b e hb => (h.same b (hr.dom b e hb)).trans hb

theorem Ext.refl (μ : Mu) (σ : Heap) (w : World) : Ext μ σ w μ σ w :=
  ⟨fun _ _ => rfl, Nat.le_refl _, Nat.le_refl _, rfl, rfl, rfl, fun _ _ _ => rfl, fun b e hb he _ => ⟨b, e, hb, he, rfl⟩, fun b e hb he _ => ⟨b, e, hb, he, rfl⟩⟩

theorem Ext.trans {μ μ1 μ2 : Mu} {σ σ1 σ2 : Heap} {w w1 w2 : World} (h : Ext μ σ w μ1 σ1 w1) (k : Ext μ1 σ1 w1 μ2 σ2 w2) : Ext μ σ w μ2 σ2 w2 where
  same b hb := (k.same b (Nat.lt_of_lt_of_le hb h.size)).trans (h.same b hb)
  size := Nat.le_trans h.size k.size
  hs := Nat.le_trans h.hs k.hs
  os := k.os.trans h.os
  tape := k.tape.trans h.tape
  output := k.output.trans h.output
  frame j hj hf := by
    rw [k.frame j (Nat.lt_of_lt_of_le hj h.hs) ?_, h.frame j hj hf]
    intro b e hb he hk
    obtain ⟨b0, e0, hw0, he0, hk0⟩ := h.own b e hb he (by omega)
    exact hf b0 e0 hw0 he0 (by omega)
  own b e hb he hk := by
    obtain ⟨b1, e1, hw1, he1, hk1⟩ := k.own b e hb he (Nat.lt_of_lt_of_le hk h.hs)
    obtain ⟨b0, e0, hw0, he0, hk0⟩ := h.own b1 e1 hw1 he1 (by omega)
    exact ⟨b0, e0, hw0, he0, by omega⟩
  old b e hb he hk := by
    obtain ⟨b1, e1, hw1, he1, hk1⟩ := k.old b e hb he (Nat.lt_of_lt_of_le hk h.hs)
    obtain ⟨b0, e0, hw0, he0, hk0⟩ := h.old b1 e1 hw1 he1 (by omega)
    exact ⟨b0, e0, hw0, he0, by omega⟩

theorem Rel.blk_lt {μ : Mu} {σ : Heap} {w : World} (h : Rel μ σ w) {b : Nat} {e : Place} (ha : alive σ b) (he : μ b = some e) : e.blk < w.heap.size := by
  have key : ∃ o, w.heap[e.blk]? = some o := by
    obtain ⟨o, ho⟩ := ha
    cases o with
    | row r =>
      obtain ⟨e', he', hr⟩ := h.row b r (row?_eq.2 ho)
      obtain rfl : e' = e := by rw [he] at he'; exact (Option.some.inj he').symm
      obtain ⟨cs, t, fr, hh, _⟩ := hr.out
      exact ⟨_, hh⟩
    | map es c =>
      obtain ⟨e', he', hr⟩ := h.map b es c (map?_eq.2 ho)
      obtain rfl : e' = e := by rw [he] at he'; exact (Option.some.inj he').symm
      obtain ⟨es', hh, _⟩ := hr.out
      exact ⟨_, hh⟩
  obtain ⟨o, ho⟩ := key
  rcases Nat.lt_or_ge e.blk w.heap.size with h1 | h1
  · exact h1
  · rw [Array.getElem?_eq_none h1] at ho; cases ho

/-- a world that has turned in nothing that the heap knows -/
theorem RowRel.keep {μ μ' : Mu} {r : Row} {e : Place} {w w' : World} (h : RowRel μ r e w) (hle : ∀ b e, μ b = some e → μ' b = some e) (hk : w'.heap[e.blk]? = w.heap[e.blk]?) : RowRel μ' r e w' := by
  obtain ⟨cs, t, fr, h1, h2, h3, h4, h5⟩ := h.out
  refine ⟨cs, t, fr, hk.trans h1, h2, h3, fun i v hv => ?_, h5⟩
  obtain ⟨u, hu, hV⟩ := h4 i v hv
  exact ⟨u, hu, hV.mono hle⟩
theorem MapRel.keep {μ μ' : Mu} {es : Array MapEntry} {c : Nat} {e : Place} {w w' : World} (h : MapRel μ es c e w) (hle : ∀ b e, μ b = some e → μ' b = some e) (hk : w'.heap[e.blk]? = w.heap[e.blk]?) : MapRel μ' es c e w' := by
  obtain ⟨es', h1, h2, h3⟩ := h.out
  refine ⟨es', hk.trans h1, h2, fun i x y hx hy => ?_⟩
  obtain ⟨a, b, c, d⟩ := h3 i x y hx hy
  exact ⟨a, b, c.mono hle, d⟩

theorem Rel.same_world {μ : Mu} {σ : Heap} {w w' : World} (h : Rel μ σ w) (hh : ∀ k, k < w.heap.size → w'.heap[k]? = w.heap[k]?) : Rel μ σ w' where
  dom := h.dom
  row b r hr := by
    obtain ⟨e, he, hR⟩ := h.row b r hr
    exact ⟨e, he, hR.keep (fun _ _ h => h) (hh _ (h.blk_lt (alive_of_row hr) he))⟩
  map b es c hm := by
    obtain ⟨e, he, hR⟩ := h.map b es c hm
    exact ⟨e, he, hR.keep (fun _ _ h => h) (hh _ (h.blk_lt (alive_of_map hm) he))⟩
  sep := h.sep

/-- part of a heap -/
theorem Rel.sub {μ : Mu} {σ τ : Heap} {w : World} (h : Rel μ σ w) (hs : σ.size ≤ τ.size) (hsub : ∀ (b : Nat) (o : AObj), τ[b]? = some (some o) → σ[b]? = some (some o)) : Rel μ τ w where
  dom b e he := Nat.lt_of_lt_of_le (h.dom b e he) hs
  row b r hr := h.row b r (row?_eq.2 (hsub _ _ (row?_eq.1 hr)))
  map b es c hm := h.map b es c (map?_eq.2 (hsub _ _ (map?_eq.1 hm)))
  sep b b' e e' hw ha hne he he' := by
    refine h.sep b b' e e' ?_ ?_ hne he he'
    · rcases hw with ⟨r, hr, hro⟩ | ⟨m, hm⟩
      · exact .inl ⟨r, row?_eq.2 (hsub _ _ (row?_eq.1 hr)), hro⟩
      · exact .inr ⟨m, map?_eq.2 (hsub _ _ (map?_eq.1 hm))⟩
    · obtain ⟨o, ho⟩ := ha
      exact ⟨o, hsub _ _ ho⟩
theorem wr.sub {σ τ : Heap} (hsub : ∀ (b : Nat) (o : AObj), τ[b]? = some (some o) → σ[b]? = some (some o)) {b : Nat} (h : wr τ b) : wr σ b := by
  rcases h with ⟨r, hr, hro⟩ | ⟨m, hm⟩
  · exact .inl ⟨r, row?_eq.2 (hsub _ _ (row?_eq.1 hr)), hro⟩
  · exact .inr ⟨m, map?_eq.2 (hsub _ _ (map?_eq.1 hm))⟩

def Mu.set (μ : Mu) (b : Nat) (e : Place) : Mu := fun i => if i = b then some e else μ i

/-- what a new object must be like -/
def ObjRel (μ : Mu) (o : AObj) (e : Place) (w : World) : Prop :=
  match o with
  | .row r => RowRel μ r e w
  | .map es c => MapRel μ es c e w

/-- a new object at a place that has none yet; its block is new, or was that of an object that is no more -/
theorem Rel.fill {μ : Mu} {σ σ' : Heap} {w w' : World} (h : Rel μ σ w) (s : Nat) (o : AObj) (e : Place)
    (hμ : μ s = none) (hs : s < σ'.size) (hsz : σ.size ≤ σ'.size) (hnew : σ'[s]? = some (some o)) (hold : ∀ (b : Nat) (o : AObj), b ≠ s → σ'[b]? = some (some o) → σ[b]? = some (some o))
    (hblk : ∀ b e', b ≠ s → alive σ' b → μ b = some e' → e'.blk ≠ e.blk ∧ w'.heap[e'.blk]? = w.heap[e'.blk]?)
    (hobj : ObjRel (μ.set s e) o e w') : Rel (μ.set s e) σ' w' := by
  have hle : ∀ b e', μ b = some e' → (μ.set s e) b = some e' := fun b e' hb => by
    unfold Mu.set
    split
    · rename_i hbs; subst hbs; rw [hμ] at hb; cases hb
    · exact hb
  refine ⟨?_, ?_, ?_, ?_⟩
  · intro b e' hb
    unfold Mu.set at hb
    split at hb
    · rename_i hbs; subst hbs; exact hs
    · exact Nat.lt_of_lt_of_le (h.dom b e' hb) hsz
  · intro b r hr
    by_cases hbs : b = s
    · subst hbs
      rw [row?_eq, hnew] at hr
      simp only [Option.some.injEq] at hr
      subst hr
      exact ⟨e, by simp [Mu.set], hobj⟩
    · obtain ⟨e', he', hR⟩ := h.row b r (row?_eq.2 (hold b _ hbs (row?_eq.1 hr)))
      exact ⟨e', hle _ _ he', hR.keep hle (hblk b e' hbs (alive_of_row hr) he').2⟩
  · intro b es c hm
    by_cases hbs : b = s
    · subst hbs
      rw [map?_eq, hnew] at hm
      simp only [Option.some.injEq] at hm
      subst hm
      exact ⟨e, by simp [Mu.set], hobj⟩
    · obtain ⟨e', he', hR⟩ := h.map b es c (map?_eq.2 (hold b _ hbs (map?_eq.1 hm)))
      exact ⟨e', hle _ _ he', hR.keep hle (hblk b e' hbs (alive_of_map hm) he').2⟩
  · intro b b' e1 e2 hw ha hne h1 h2
    unfold Mu.set at h1 h2
    by_cases hb : b = s
    · subst hb
      rw [if_pos rfl] at h1
      rw [if_neg (Ne.symm hne)] at h2
      obtain rfl := Option.some.inj h1
      exact Ne.symm (hblk b' e2 (Ne.symm hne) ha h2).1
    · rw [if_neg hb] at h1
      by_cases hb' : b' = s
      · subst hb'
        rw [if_pos rfl] at h2
        obtain rfl := Option.some.inj h2
        exact (hblk b e1 hb hw.alive h1).1
      · rw [if_neg hb'] at h2
        refine h.sep b b' e1 e2 ?_ ?_ hne h1 h2
        · rcases hw with ⟨r, hr, hro⟩ | ⟨m, hm⟩
          · exact .inl ⟨r, row?_eq.2 (hold _ _ hb (row?_eq.1 hr)), hro⟩
          · exact .inr ⟨m, map?_eq.2 (hold _ _ hb (map?_eq.1 hm))⟩
        · obtain ⟨o', ho⟩ := ha
          exact ⟨o', hold _ _ hb' ho⟩
end Go.Abs
