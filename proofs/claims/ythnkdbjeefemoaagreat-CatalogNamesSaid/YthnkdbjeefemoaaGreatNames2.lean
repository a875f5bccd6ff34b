/-
  CatalogNames: Names, awake.
-/
import Derived.Test.YthnkdbjeefemoaaGreatNames
set_option linter.unusedVariables false
set_option linter.unusedSimpArgs false
set_option linter.unusedSectionVars false
namespace Go.Abs
open Go Go.RowKit Go.Proofs
set_option maxRecDepth 10000

/-- what is old and below B stays; rows stay -/
structure CStep (B : Nat) (σ σ' : Heap) : Prop where
  size : σ.size ≤ σ'.size
  rows : ∀ b r, row? σ b = some r → row? σ' b = some r
  low : ∀ b, b < B → σ'[b]? = σ[b]?
theorem CStep.refl (B : Nat) (σ : Heap) : CStep B σ σ := ⟨Nat.le_refl _, fun _ _ h => h, fun _ _ => rfl⟩
theorem CStep.trans {B : Nat} {σ σ1 σ2 : Heap} (h : CStep B σ σ1) (k : CStep B σ1 σ2) : CStep B σ σ2 :=
  ⟨Nat.le_trans h.size k.size, fun b r hr => k.rows b r (h.rows b r hr), fun b hb => (k.low b hb).trans (h.low b hb)⟩
theorem Grows.cstep {B : Nat} {σ σ' : Heap} (g : Grows σ σ') (hB : B ≤ σ.size) : CStep B σ σ' :=
  ⟨g.1, fun b r hr => g.row hr, fun b hb => g.2 b (Nat.lt_of_lt_of_le hb hB)⟩
theorem CStep.grows {σ0 σ σ' : Heap} (h : CStep σ0.size σ σ') (g : Grows σ0 σ) : Grows σ0 σ' :=
  ⟨Nat.le_trans g.1 h.size, fun b hb => (h.low b hb).trans (g.2 b hb)⟩
theorem map_ne_row {σ : Heap} {b b' : Nat} {x : Array MapEntry × Nat} {r : Row} (h : map? σ b = some x) (hr : row? σ b' = some r) : b' ≠ b := by
  rintro rfl
  rw [map?_eq] at h
  rw [row?_eq, h] at hr
  cases hr
theorem CStep.setMap {B : Nat} {σ : Heap} {b c : Nat} {es : Array MapEntry} {x : Array MapEntry × Nat} (h : map? σ b = some x) (hb : B ≤ b) : CStep B σ (σ.setIfInBounds b (some (.map es c))) :=
  ⟨by simp, fun b' r hr => by rw [row?_kill_ne (map_ne_row h hr)]; exact hr, fun b' hb' => by rw [Array.getElem?_setIfInBounds_ne (by omega)]⟩

/-- a catalog of one's own -/
structure CatG (B : Nat) (σ : Heap) (p : Nat) (m : Ents) : Prop where
  hp : B ≤ p
  cat : ∃ b c, B ≤ b ∧ row? σ p = some ⟨#[.map (some b)], false⟩ ∧ map? σ b = some (ents m, c) ∧ ∀ x ∈ m, x.2.2 < c
  nb : (m.map (·.2.2)).Nodup
  nk : (m.map (·.1)).Nodup
theorem CatG.toCat {B : Nat} {σ : Heap} {p : Nat} {m : Ents} (h : CatG B σ p m) : Cat σ p m := by
  obtain ⟨b, c, _, h1, h2, _⟩ := h.cat
  exact ⟨b, c, h1, h2⟩
theorem CatG.grows {B : Nat} {σ σ' : Heap} {p : Nat} {m : Ents} (h : CatG B σ p m) (g : Grows σ σ') : CatG B σ' p m := by
  obtain ⟨b, c, h0, h1, h2, h3⟩ := h.cat
  exact ⟨h.hp, ⟨b, c, h0, g.row h1, g.map h2, h3⟩, h.nb, h.nk⟩
theorem mfind_none : ∀ {m : Ents} {k : ByteArray} {i : Nat}, mfind k m i = none → k ∉ m.map (·.1)
  | [], k, i, _ => by simp
  | x :: m, k, i, h => by
    simp only [mfind] at h
    split at h
    · cases h
    · rename_i hne
      simp only [List.map_cons, List.mem_cons, not_or]
      exact ⟨hne, mfind_none h⟩
theorem mfind_of_not : ∀ {m : Ents} {k : ByteArray} {i : Nat}, k ∉ m.map (·.1) → mfind k m i = none
  | [], k, i, _ => rfl
  | x :: m, k, i, h => by
    simp only [List.map_cons, List.mem_cons, not_or] at h
    simp only [mfind]
    rw [if_neg h.1]
    exact mfind_of_not h.2
theorem CatG.add {B : Nat} {σ σ' : Heap} {p b c t : Nat} {m : Ents} {k : ByteArray} (h : CatG B σ p m) (h1 : row? σ p = some ⟨#[.map (some b)], false⟩) (h2 : map? σ b = some (ents m, c)) (g : Grows σ σ') (hk : mfind k m 0 = none) :
    CatG B (σ'.setIfInBounds b (some (.map (ents (m ++ [(k, t, c)])) (c + 1)))) p (m ++ [(k, t, c)]) ∧ B ≤ b := by
  obtain ⟨b', c', q0, q1, q2, q3⟩ := h.cat
  rw [h1] at q1
  simp only [Option.some.injEq, Row.mk.injEq, and_true] at q1
  have hb : b = b' := by simpa using q1
  subst hb
  rw [h2] at q2
  have hc : c = c' := by simpa using q2
  subst hc
  refine ⟨⟨h.hp, ⟨b, c + 1, q0, ?_, map?_set_eq (map?_lt (g.map h2)), ?_⟩, ?_, ?_⟩, q0⟩
  · rw [row?_kill_ne (map_ne_row (g.map h2) (g.row h1))]; exact g.row h1
  · intro x hx
    rcases List.mem_append.1 hx with hx | hx
    · have := q3 x hx; omega
    · simp only [List.mem_singleton] at hx
      subst hx
      exact Nat.lt_succ_self _
  · rw [List.map_append, List.nodup_append]
    refine ⟨h.nb, by simp, ?_⟩
    intro x hx y hy
    simp only [List.map_cons, List.map_nil, List.mem_singleton] at hy
    subst hy
    obtain ⟨z, hz, rfl⟩ := List.mem_map.1 hx
    have := q3 z hz; omega
  · rw [List.map_append, List.nodup_append]
    refine ⟨h.nk, by simp, ?_⟩
    intro x hx y hy
    simp only [List.map_cons, List.map_nil, List.mem_singleton] at hy
    subst hy
    rintro rfl
    exact mfind_none hk hx

/-- catalog.New -/
theorem k22 (σ : Heap) : wp (Call 22 #[] σ) fun r => ∃ p, r.1 = .pointer (some ⟨p, 0, none⟩) ∧ CatG σ.size r.2 p [] ∧ Grows σ r.2 := by
  refine wp_mono (s22 σ) ?_
  rintro _ rfl
  refine ⟨σ.size + 1, rfl, ⟨by omega, ⟨σ.size, 0, Nat.le_refl _, ?_, ?_, by simp⟩, by simp, by simp⟩, ((Grows.refl σ).push _).push _⟩
  · have := @row?_push_eq (σ.push (some (.map #[] 0))) ⟨#[.map (some σ.size)], false⟩
    rwa [Array.size_push] at this
  · rw [map?_push_lt (by simp)]
    exact map?_push_eq
def tabRow (n : Int) : Row := ⟨#[.int .i64 n, .slice none 0 0, .slice none 0 0, .int .i64 0], false⟩
def createErr (k : ByteArray) (m : Ents) (n : Int) : Int := if ¬ (1 ≤ k.size ∧ k.size ≤ 32) ∨ n < 1 ∨ 8 < n then 1 else if (mfind k m 0).isSome then 7 else if 16 ≤ m.length then 6 else 0
/-- Catalog.Create -/
theorem k28 {B : Nat} {σ : Heap} {p : Nat} {m : Ents} (h : CatG B σ p m) (hB : B ≤ σ.size) (k : ByteArray) (hk : k.size < 1000000000) (n : Int) : wp (Call 28 #[.pointer (some ⟨p, 0, none⟩), .string k, .int .i64 n] σ) fun r =>
    r.1 = .int .i64 (createErr k m n) ∧ CStep B σ r.2 ∧
    if createErr k m n = 0 then ∃ t c, CatG B r.2 p (m ++ [(k, t, c)]) ∧ row? r.2 t = some (tabRow n) ∧ mfind k m 0 = none else CatG B r.2 p m := by
  refine wp_mono (s28 h.toCat k hk n) ?_
  rintro ⟨v, σ'⟩ hr
  unfold createErr
  split at hr
  · rename_i h1
    cases hr
    rw [if_pos h1]
    exact ⟨rfl, .refl _ _, h⟩
  · rename_i h1
    rw [if_neg h1]
    split at hr
    · rename_i h2
      cases hr
      rw [if_pos h2]
      exact ⟨rfl, .refl _ _, h⟩
    · rename_i h2
      rw [if_neg h2]
      split at hr
      · rename_i h3
        cases hr
        rw [if_pos h3]
        exact ⟨rfl, .refl _ _, h⟩
      · rename_i h3
        rw [if_neg h3]
        obtain ⟨rfl, b, c, q1, q2, q3⟩ := hr
        simp only at q3
        subst q3
        have hm : mfind k m 0 = none := by simpa using h2
        have g : Grows σ (σ.push (some (.row ⟨#[.int .i64 n, .slice none 0 0, .slice none 0 0, .int .i64 0], false⟩))) := (Grows.refl σ).push _
        have ha := h.add (t := σ.size) q1 q2 g hm
        refine ⟨rfl, (g.cstep hB).trans (.setMap (g.map q2) ha.2), ?_⟩
        rw [if_pos rfl]
        refine ⟨σ.size, c, ha.1, ?_, hm⟩
        rw [row?_kill_ne (map_ne_row (g.map q2) row?_push_eq)]
        exact row?_push_eq
theorem keysOf_ents : ∀ (m : Ents), Abs.keysOf (ents m).toList = some (m.map fun x => x.1.data.toList)
  | [] => rfl
  | x :: m => by
    have ih := keysOf_ents m
    show (match (.string x.1 : Value), Abs.keysOf (ents m).toList with
      | .string s, some l => some (s.data.toList :: l)
      | _, _ => none) = _
    rw [ih]
    rfl
/-- Catalog.Names -/
theorem k24 {B : Nat} {σ : Heap} {p : Nat} {m : Ents} (h : CatG B σ p m) (hm : m.length ≤ 1000) (hk : ∀ x ∈ m, x.1.size ≤ 1000) : wp (Call 24 #[.pointer (some ⟨p, 0, none⟩)] σ) fun r =>
    r = newRow1 ((sortStr (m.map fun x => x.1.data.toList)).map encStr) σ := by
  obtain ⟨b, c, h0, h1, h2, h3⟩ := h.cat
  refine ⟨_, lim_prim (p := primNames) rfl ?_, rfl⟩
  unfold primNames
  have hs : MapKept.Stamped (ents m) c := by
    have e1 : (ents m).toList.map (·.born) = m.map (·.2.2) := by simp [ents]
    have e2 : (ents m).toList.map (·.key) = (m.map (·.1)).map .string := by simp [ents]
    refine ⟨fun x hx => ?_, by rw [e1]; exact h.nb, by rw [e2]; exact (List.pairwise_map).2 (h.nk.imp fun hne he => hne (by simpa using he))⟩
    have : x.born ∈ (ents m).toList.map (·.born) := List.mem_map_of_mem hx
    rw [e1] at this
    obtain ⟨y, hy, hy2⟩ := List.mem_map.1 this
    rw [← hy2]; exact h3 y hy
  have hl : ∀ k ∈ m.map (fun x => x.1.data.toList), k.length ≤ 1000 := by
    intro k hk'
    obtain ⟨x, hx, rfl⟩ := List.mem_map.1 hk'
    exact hk x hx
  have e0 : (#[Value.map (some b)] : Array Value)[0]? = some (.map (some b)) := rfl
  simp only [h1, h2, Option.bind_some, keysOf_ents, e0]
  rw [if_pos ⟨hs, by simp [ents]; exact hm, hl⟩]

theorem wordBytes_len (x : Nat) : (wordBytes x).length = 4 := rfl
theorem opened_seal (l : List UInt8) : opened (l ++ wordBytes (crcOf l)) = some l := by
  unfold opened
  rw [List.length_append, wordBytes_len, Nat.add_sub_cancel, List.drop_left, List.take_left, if_pos ⟨by omega, rfl⟩]
/-- Catalog.Load: of a table without segments -/
theorem k23e {B : Nat} {σ : Heap} {p : Nat} {m : Ents} (h : CatG B σ p m) (hB : B ≤ σ.size) (k : ByteArray) (hk : 1 ≤ k.size ∧ k.size ≤ 32) (hm : mfind k m 0 = none) (hlen : m.length < 16) {v : Value} {l : List UInt8} {n : Nat} (hb : BSl σ v l) (hl : l.length < 549755813888) (hn : 1 ≤ n ∧ n ≤ 8) (ho : opened l = some (putNum n ++ putNum 0)) :
    wp (Call 23 #[.pointer (some ⟨p, 0, none⟩), .string k, v] σ) fun r => r.1 = .int .i64 0 ∧ CStep B σ r.2 ∧ ∃ t c, CatG B r.2 p (m ++ [(k, t, c)]) ∧ row? r.2 t = some (tabRow n) := by
  refine wp_mono (s23e h.toCat k hk hm hlen hb hl hn ho) ?_
  rintro ⟨_, σ'⟩ ⟨rfl, t, c, b, σ1, g, q1, q2, q3, rfl⟩
  have ha := h.add (t := t) q1 q2 g hm
  exact ⟨rfl, (g.cstep hB).trans (.setMap (g.map q2) ha.2), t, c, ha.1, by rw [row?_kill_ne (map_ne_row (g.map q2) q3)]; exact q3⟩
theorem mfind_same {k : ByteArray} {t c : Nat} {m : Ents} : mfind k ((k, t, c) :: m) 0 = some (0, t) := by simp [mfind]

def tT : ByteArray := bs [116]
def tU : ByteArray := bs [117]
def tV : ByteArray := bs [118]
theorem tU_ne : tU ≠ tT := fun h => absurd (bs_inj.1 h) (by decide)
theorem tV_ne : tV ≠ tT := fun h => absurd (bs_inj.1 h) (by decide)
theorem tV_ne' : tV ≠ tU := fun h => absurd (bs_inj.1 h) (by decide)
theorem s20 (σ : Heap) : wp (Call 20 #[] σ) fun r => r.1 = .bool true ∧ Grows σ r.2 := by
  refine wp_call (args := []) rfl Tryz.func20 rfl (Nat.le_of_ble_eq_true rfl) 20 ?_
  have eT : (⟨#[116]⟩ : ByteArray) = tT := rfl
  have eU : (⟨#[117]⟩ : ByteArray) = tU := rfl
  have eV : (⟨#[118]⟩ : ByteArray) = tV := rfl
  have zT : tT.size = 1 := rfl
  have zU : tU.size = 1 := rfl
  simp -implicitDefEqProofs (disch := first | decide | omega | assumption | exact Nat.le_of_ble_eq_true rfl | (simp only [Array.size_push, size_set, Array.size_setIfInBounds]; omega)) only [↓pB, qB, ↓reduceIte, Nat.reduceLT, Nat.reduceEqDiff, Int.reducePow, Int.reduceMul, Int.reduceAdd, Int.reduceSub, Int.reduceMod, Int.reduceLT, Nat.reduceAdd, Nat.reduceMul, Int.reduceLE, Int.reduceToNat, Int.reduceEq, ↓p20, q20]
  refine wp_bindK (k22 σ) ?_
  rintro ⟨_, σ1⟩ ⟨p, rfl, hc, g1⟩
  simp only at hc g1
  have z1 : σ.size ≤ σ1.size := g1.1
  simp -implicitDefEqProofs (disch := first | decide | omega | assumption | exact Nat.le_of_ble_eq_true rfl | (simp only [Array.size_push, size_set, Array.size_setIfInBounds]; omega)) only [↓pB, qB, ↓reduceIte, Nat.reduceLT, Nat.reduceEqDiff, Int.reducePow, Int.reduceMul, Int.reduceAdd, Int.reduceSub, Int.reduceMod, Int.reduceLT, Nat.reduceAdd, Nat.reduceMul, Int.reduceLE, Int.reduceToNat, Int.reduceEq, ↓p20, q20, eT, eU, eV, Option.isNone_some]
  have c1 : createErr tT [] 1 = 0 := by rw [createErr, if_neg (by rw [zT]; omega), if_neg (by simp [mfind]), if_neg (by simp)]
  refine wp_bindK (k28 hc z1 tT (by rw [zT]; omega) 1) ?_
  rintro ⟨_, σ2⟩ ⟨rfl, st2, h2⟩
  rw [c1, if_pos rfl] at h2
  obtain ⟨t, c, hc2, ht2, _⟩ := h2
  simp only [List.nil_append] at hc2 ht2 st2
  have z2 := st2.size
  simp -implicitDefEqProofs (disch := first | decide | omega | assumption | exact Nat.le_of_ble_eq_true rfl | (simp only [Array.size_push, size_set, Array.size_setIfInBounds]; omega)) only [↓pB, qB, ↓reduceIte, Nat.reduceLT, Nat.reduceEqDiff, Int.reducePow, Int.reduceMul, Int.reduceAdd, Int.reduceSub, Int.reduceMod, Int.reduceLT, Nat.reduceAdd, Nat.reduceMul, Int.reduceLE, Int.reduceToNat, Int.reduceEq, ↓p20, q20, eT, eU, eV, c1]
  have c2 : createErr tT [(tT, t, c)] 1 = 7 := by rw [createErr, if_neg (by rw [zT]; omega), mfind_same]; rfl
  refine wp_bindK (k28 hc2 (by omega) tT (by rw [zT]; omega) 1) ?_
  rintro ⟨_, σ3⟩ ⟨rfl, st3, h3⟩
  rw [c2, if_neg (by decide)] at h3
  simp only at h3 st3
  have z3 := st3.size
  simp -implicitDefEqProofs (disch := first | decide | omega | assumption | exact Nat.le_of_ble_eq_true rfl | (simp only [Array.size_push, size_set, Array.size_setIfInBounds]; omega)) only [↓pB, qB, ↓reduceIte, Nat.reduceLT, Nat.reduceEqDiff, Int.reducePow, Int.reduceMul, Int.reduceAdd, Int.reduceSub, Int.reduceMod, Int.reduceLT, Nat.reduceAdd, Nat.reduceMul, Int.reduceLE, Int.reduceToNat, Int.reduceEq, ↓p20, q20, eT, eU, eV, c2]
  have ht3 := st3.rows _ _ ht2
  refine wp_bindK (s25e (n := 1) h3.toCat mfind_same ht3 (by decide)) ?_
  rintro ⟨_, σ4⟩ ⟨v, rfl, f4, g4⟩
  simp only at f4 g4
  have z4 := g4.1
  obtain ⟨a, cc, rfl⟩ := f4.bsl.slice
  simp -implicitDefEqProofs (disch := first | decide | omega | assumption | exact Nat.le_of_ble_eq_true rfl | (simp only [Array.size_push, size_set, Array.size_setIfInBounds]; omega)) only [↓pB, qB, ↓reduceIte, Nat.reduceLT, Nat.reduceEqDiff, Int.reducePow, Int.reduceMul, Int.reduceAdd, Int.reduceSub, Int.reduceMod, Int.reduceLT, Nat.reduceAdd, Nat.reduceMul, Int.reduceLE, Int.reduceToNat, Int.reduceEq, ↓p20, q20, eT, eU, eV]
  have hmU : mfind tU [(tT, t, c)] 0 = none := mfind_of_not (by simp [tU_ne])
  have l1 := putNum_len 1
  have l0 := putNum_len 0
  have hlen : ((putNum 1 ++ putNum 0) ++ wordBytes (crcOf (putNum 1 ++ putNum 0))).length < 549755813888 := by
    rw [List.length_append, List.length_append, wordBytes_len]; omega
  refine wp_bindK (k23e (n := 1) (h3.grows g4) (by omega) tU (by rw [zU]; omega) hmU (by simp) f4.bsl hlen (by decide) (opened_seal _)) ?_
  rintro ⟨_, σ5⟩ ⟨rfl, st5, t', c', h5, ht5⟩
  simp only [List.cons_append, List.nil_append] at st5 h5 ht5
  have z5 := st5.size
  simp -implicitDefEqProofs (disch := first | decide | omega | assumption | exact Nat.le_of_ble_eq_true rfl | (simp only [Array.size_push, size_set, Array.size_setIfInBounds]; omega)) only [↓pB, qB, ↓reduceIte, Nat.reduceLT, Nat.reduceEqDiff, Int.reducePow, Int.reduceMul, Int.reduceAdd, Int.reduceSub, Int.reduceMod, Int.reduceLT, Nat.reduceAdd, Nat.reduceMul, Int.reduceLE, Int.reduceToNat, Int.reduceEq, ↓p20, q20, eT, eU, eV]
  have hmV : mfind tV [(tT, t, c), (tU, t', c')] 0 = none := mfind_of_not (by simp [tV_ne, tV_ne'])
  refine wp_bindK (s26none h5.toCat hmV) ?_
  rintro _ rfl
  simp -implicitDefEqProofs (disch := first | decide | omega | assumption | exact Nat.le_of_ble_eq_true rfl | (simp only [Array.size_push, size_set, Array.size_setIfInBounds]; omega)) only [↓pB, qB, ↓reduceIte, Nat.reduceLT, Nat.reduceEqDiff, Int.reducePow, Int.reduceMul, Int.reduceAdd, Int.reduceSub, Int.reduceMod, Int.reduceLT, Nat.reduceAdd, Nat.reduceMul, Int.reduceLE, Int.reduceToNat, Int.reduceEq, ↓p20, q20, eT, eU, eV]
  refine wp_bindK (k24 h5 (by simp) ?_) ?_
  · intro x hx
    simp only [List.mem_cons, List.not_mem_nil, or_false] at hx
    rcases hx with rfl | rfl
    · show tT.size ≤ 1000; rw [zT]; omega
    · show tU.size ≤ 1000; rw [zU]; omega
  rintro _ rfl
  have hl2 : ((sortStr ([(tT, t, c), (tU, t', c')].map fun x => x.1.data.toList)).map encStr).length = 2 := by simp [sortStr]
  generalize (sortStr ([(tT, t, c), (tU, t', c')].map fun x => x.1.data.toList)).map encStr = vs at hl2 ⊢
  have hvs : vs ≠ [] := by rintro rfl; cases hl2
  have hg6 : Grows σ5 (σ5.push (some (.row ⟨vs.toArray, false⟩))) := (Grows.refl _).push _
  have hcat6 := h5.grows hg6
  unfold newRow1
  rw [if_neg hvs]
  simp -implicitDefEqProofs (disch := first | decide | omega | assumption | exact Nat.le_of_ble_eq_true rfl | (simp only [Array.size_push, size_set, Array.size_setIfInBounds]; omega)) only [↓pB, qB, ↓reduceIte, Nat.reduceLT, Nat.reduceEqDiff, Int.reducePow, Int.reduceMul, Int.reduceAdd, Int.reduceSub, Int.reduceMod, Int.reduceLT, Nat.reduceAdd, Nat.reduceMul, Int.reduceLE, Int.reduceToNat, Int.reduceEq, ↓p20, q20, eT, eU, eV, hl2]
  refine wp_bindK (s35 hcat6.toCat tT) ?_
  rw [mfind_same]
  rintro ⟨_, σ7⟩ ⟨rfl, b, c7, q1, q2, q3⟩
  simp only at q3
  simp -implicitDefEqProofs (disch := first | decide | omega | assumption | exact Nat.le_of_ble_eq_true rfl | (simp only [Array.size_push, size_set, Array.size_setIfInBounds]; omega)) only [↓pB, qB, ↓reduceIte, Nat.reduceLT, Nat.reduceEqDiff, Int.reducePow, Int.reduceMul, Int.reduceAdd, Int.reduceSub, Int.reduceMod, Int.reduceLT, Nat.reduceAdd, Nat.reduceMul, Int.reduceLE, Int.reduceToNat, Int.reduceEq, ↓p20, q20, eT, eU, eV]
  obtain ⟨b', c7', r0, r1, r2, _⟩ := hcat6.cat
  rw [q1] at r1
  have hb : b = b' := by simpa using r1
  subst hb
  subst q3
  have g5 := st5.grows ((st3.grows (st2.grows g1)).trans g4)
  exact ⟨trivial, (CStep.setMap q2 r0).grows (g5.trans hg6)⟩
end Go.Abs
