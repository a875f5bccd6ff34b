/-
  The contracts that are taken from the shelf hold.
-/
import Derived.Test.YthnkdbjeefemoaaGreatWp
import Derived.Test.YthnkdbjeefemoaaGreatIter
import Derived.Test.YthnkdbjeefemoaaGreatAbsMake
set_option linter.unusedVariables false
set_option linter.unusedSimpArgs false
namespace Go.Abs
open Go Go.RowKit Go.Proofs

theorem Ext.below {μ : Mu} {σ : Heap} {w w' : World} (hb : Below w.heap.size w w') : Ext μ σ w μ σ w' where
  same _ _ := rfl
  size := Nat.le_refl _
  hs := hb.size
  os := hb.os
  tape := hb.tape
  output := hb.output
  frame k hk _ := hb.block k hk
  own b e hw he _ := ⟨b, e, hw, he, rfl⟩
  old b e ha he _ := ⟨b, e, ha, he, rfl⟩

/-- a new slice of texts -/
theorem post_newRow1 {μ : Mu} {σ : Heap} {w w' : World} (hrel : Rel μ σ w) {vs : List Value} (hp : ∀ (μ : Mu), ∀ v ∈ vs, V μ v v) {t : TypeId} {v : Value} (hown : w'.ownsRow w.heap.size t 1 v vs.length vs) (hnil : v = .slice none 0 0 ↔ vs = []) (hb : Below w.heap.size w w') :
    Post μ σ w (newRow1 vs σ).1 (newRow1 vs σ).2 (.returned v) w' := by
  by_cases h0 : vs = []
  · rw [hnil.2 h0]
    subst h0
    exact ⟨_, μ, rfl, .sliceNil 0, hrel.same_world hb.block, .below hb⟩
  · unfold newRow1
    rw [if_neg h0]
    rcases hown.2 with ⟨rfl, _⟩ | ⟨g, cap, cur, rfl, hg, hw, hn, _, hsz, htk⟩
    · exact absurd (hnil.1 rfl) h0
    rw [Nat.mul_one] at hsz htk
    have hμ : μ σ.size = none := by
      cases hx : μ σ.size with
      | none => rfl
      | some e => exact absurd (hrel.dom _ _ hx) (Nat.lt_irrefl _)
    have hV : V (μ.set σ.size ⟨g, 0, 1, cap⟩) (.slice (some ⟨σ.size, 0, some 1⟩) vs.length 0) (.slice (some ⟨g, 0, none⟩) vs.length cap) := by
      have := V.slice (μ := μ.set σ.size ⟨g, 0, 1, cap⟩) σ.size 0 vs.length 0 ⟨g, 0, 1, cap⟩ cap set_same hn (by simp) (.inl rfl)
      simpa using this
    refine ⟨_, μ.set σ.size ⟨g, 0, 1, cap⟩, rfl, hV, ?_, ?_⟩
    · refine hrel.fill σ.size (.row ⟨vs.toArray, false⟩) ⟨g, 0, 1, cap⟩ hμ (by simp) (by simp) (by simp) ?_ ?_ ?_
      · intro b o hbs hbo
        rw [Array.getElem?_push, if_neg hbs] at hbo
        exact hbo
      · intro b e' hbs ha he'
        have hlt : b < σ.size := hrel.dom b e' he'
        have ha' : alive σ b := by
          obtain ⟨o, ho⟩ := ha
          rw [Array.getElem?_push, if_neg hbs] at ho
          exact ⟨o, ho⟩
        have := hrel.blk_lt ha' he'
        exact ⟨by show e'.blk ≠ g; omega, hb.block _ this⟩
      · refine ⟨cur, t, (0, 0), hw, hsz, ?_, ?_, ?_⟩
        · show 0 + vs.toArray.size ≤ cap
          simp; exact hn
        · intro i u hu
          have hu' : vs[i]? = some u := by simpa using hu
          rw [← htk] at hu'
          have hi : i < vs.length := by
            rcases Nat.lt_or_ge i vs.length with h1 | h1
            · exact h1
            · rw [List.getElem?_eq_none (by rw [List.length_take]; omega)] at hu'; cases hu'
          rw [List.getElem?_take, if_pos hi] at hu'
          refine ⟨u, ?_, hp _ u ?_⟩
          · show cur[0 + i]? = some u
            rw [Nat.zero_add]; simpa using hu'
          · rw [← htk]
            exact List.mem_of_getElem? (i := i) (by rw [List.getElem?_take, if_pos hi]; exact hu')
        · intro _ i hi h
          exact absurd h.2 (Nat.not_lt_zero _)
    · refine ⟨fun b hbl => by unfold Mu.set; rw [if_neg (by omega)], by simp, hb.size, hb.os, hb.tape, hb.output, fun k hk _ => hb.block k hk, ?_, ?_⟩
      · intro b e hw' he hlt
        by_cases hbs : b = σ.size
        · subst hbs
          rw [set_same] at he
          obtain rfl := Option.some.inj he
          exact absurd hlt (Nat.not_lt.2 hg)
        · unfold Mu.set at he
          rw [if_neg hbs] at he
          refine ⟨b, e, ?_, he, rfl⟩
          rcases hw' with ⟨r, hr, hro⟩ | ⟨m, hm⟩
          · refine .inl ⟨r, ?_, hro⟩
            rw [row?_eq, Array.getElem?_push, if_neg hbs] at hr
            exact row?_eq.2 hr
          · refine .inr ⟨m, ?_⟩
            rw [map?_eq, Array.getElem?_push, if_neg hbs] at hm
            exact map?_eq.2 hm
      · intro b e ha he hlt
        by_cases hbs : b = σ.size
        · subst hbs
          rw [set_same] at he
          obtain rfl := Option.some.inj he
          exact absurd hlt (Nat.not_lt.2 hg)
        · unfold Mu.set at he
          rw [if_neg hbs] at he
          refine ⟨b, e, ?_, he, rfl⟩
          obtain ⟨o, ho⟩ := ha
          rw [Array.getElem?_push, if_neg hbs] at ho
          exact ⟨o, ho⟩

set_option maxHeartbeats 1000000 in
theorem names_walk {H : Type} (q o b nn : Nat) (D0 : DataW H) (R : Value → Option (DataW H × List MemPlace)) (w : World) (hc : w.cell? ⟨q, o, none⟩ = some (.map (some b))) (hown : w.ownsMap Tryz.prog 9 R b nn D0) (hmax : Maps.size D0 ≤ maxLen) (hbytes : Maps.size D0 * 16 ≤ 140737488355328) :
    Calls Tryz.prog 24 #[.pointer (some ⟨q, o, none⟩)] w fun e w' => ∃ (v : Value) (ss : List (List UInt8)), e = .returned v ∧ ss.Perm (strKeys D0) ∧
      w'.ownsRow w.heap.size 9 1 v ss.length ((ss.mergeSort (fun x y => decide (x ≤ y))).map encStr) ∧ (v = .slice none 0 0 ↔ ss = []) ∧ Below w.heap.size w w' := by
  refine (callsIn_wide (n := 6)).1 ?_
  have hfK : Fence.wide.fn 88 := trivial
  have hfS : Fence.wide.fn 87 := trivial
  refine callsIn_of_wp Tryz.func24 rfl trivial ?_ rfl
  simp only [Tryz.ntmps24, List.size_toArray, List.length_cons, List.length_nil, Nat.reduceAdd, Nat.reduceSub, Array.replicate_succ, Array.replicate_zero, List.push_toArray, List.append_toArray, List.nil_append, List.cons_append]
  gi_wp2_with (first
    | (gi_at_call 88; refine (Tryz.maps_Keys_88 _ _).mono ?_; rintro e w' ⟨rfl, rfl⟩)
    | (gi_at_call 87; refine (Tryz.slices_Sorted_keys_87_88 b nn D0 R w hown hmax hbytes).mono ?_; rintro e w' ⟨v, ss, rfl, hS, hrow, hnil, hb⟩))
  go_ret
  exact ⟨v, ss, rfl, hS, ownsRow_base_a hrow (by simp), hnil, ((Below.refl _ w).alloc (Nat.le_refl _) _).trans (hb.mono (by simp))⟩

theorem keysOf_same : ∀ (l l' : List MapEntry), l'.map (·.key) = l.map (·.key) → keysOf l' = keysOf l
  | [], [], _ => rfl
  | [], _ :: _, h => by cases h
  | _ :: _, [], h => by cases h
  | a :: l, b :: l', h => by
    simp only [List.map_cons, List.cons.injEq] at h
    simp only [keysOf, h.1, keysOf_same l l' h.2]
theorem keysOf_mem : ∀ (l : List MapEntry) (ks : List (List UInt8)), keysOf l = some ks → ∀ x ∈ l, ∃ s : ByteArray, x.key = .string s ∧ s.data.toList ∈ ks
  | [], _, _, x, hx => by cases hx
  | a :: l, ks, h, x, hx => by
    simp only [keysOf] at h
    split at h
    · rename_i s l1 hk hl
      simp only [Option.some.injEq] at h
      subst h
      rcases List.mem_cons.1 hx with rfl | hx
      · exact ⟨s, hk, List.mem_cons_self⟩
      · obtain ⟨s', h1, h2⟩ := keysOf_mem l l1 hl x hx
        exact ⟨s', h1, List.mem_cons_of_mem _ h2⟩
    · cases h
def anyR : Value → Option (DataW Unit × List MemPlace) := fun _ => some (.lit (.bool false), [])
theorem keysOf_rg : ∀ (l : List MapEntry) (ks : List (List UInt8)), keysOf l = some ks → (∀ k ∈ ks, k.length ≤ 1000) → (l.map (WideElems.rg Tryz.prog 9 anyR)).map (fun p => Go.strOf p.1) = ks
  | [], ks, h, _ => by cases h; rfl
  | a :: l, ks, h, hs => by
    simp only [keysOf] at h
    split at h
    · rename_i s l1 hk hl
      simp only [Option.some.injEq] at h
      subst h
      have h1 : s.size ≤ maxLen := by
        have := hs _ List.mem_cons_self
        unfold maxLen
        have e : s.size = s.data.toList.length := rfl
        omega
      have h2 := WideMaps.keyOf_string_mk Tryz.underlying9 h1
      simp only [List.map_cons]
      rw [keysOf_rg l l1 hl fun k hk => hs k (List.mem_cons_of_mem _ hk)]
      have h3 : WideElems.rd Tryz.prog 9 anyR a = some (.string s.data.toList, .lit (.bool false)) := by
        unfold WideElems.rd
        simp only [hk, h2, Option.bind_some, anyR, Option.map_some]
      have h4 : WideElems.rg Tryz.prog 9 anyR a = (.string s.data.toList, .lit (.bool false)) := by
        unfold WideElems.rg
        simp only [h3, Option.getD_some]
      rw [h4]
      rfl
    · cases h
theorem list_map_eq {α β γ : Type} {f : α → γ} {g : β → γ} : ∀ {l : List α} {l' : List β}, l.length = l'.length → (∀ (i : Nat) x y, l[i]? = some x → l'[i]? = some y → f x = g y) → l.map f = l'.map g
  | [], [], _, _ => rfl
  | [], _ :: _, h, _ => by cases h
  | _ :: _, [], h, _ => by cases h
  | x :: l, y :: l', h, hh => by
    simp only [List.map_cons]
    rw [hh 0 x y rfl rfl, list_map_eq (by simpa using h) fun i a b ha hb => hh (i + 1) a b ha hb]

theorem names_ok {args : Array Value} {σ σ' : Heap} {r : Value} (h : primNames args σ = some (r, σ')) : CallOk Tryz.prog 24 args σ r σ' := by
  refine ⟨⟨_, Tryz.func24, rfl⟩, fun μ w args' hrel hargs => ?_⟩
  unfold primNames at h
  split at h
  rotate_left
  · cases h
  rename_i p hp
  split at h
  rotate_left
  · cases h
  rename_i b hb
  split at h
  rotate_left
  · cases h
  rename_i es c hes
  split at h
  rotate_left
  · cases h
  rename_i ks hks
  split at h
  rotate_left
  · cases h
  rename_i hst
  obtain ⟨hstamp, hsize, hlen⟩ := hst
  simp only [Option.some.injEq] at h
  obtain ⟨r0, hr0, hcell⟩ : ∃ r0, row? σ p = some r0 ∧ r0.cells[0]? = some (.map (some b)) := by
    cases hx : row? σ p with
    | none => rw [hx] at hb; cases hb
    | some r0 => rw [hx] at hb; exact ⟨r0, rfl, hb⟩
  obtain rfl : args = #[.pointer (some ⟨p, 0, none⟩)] := by
    apply Array.toList_inj.1; rw [hp]
  obtain ⟨y, rfl⟩ : ∃ y, args' = #[y] := by
    have h1 := hargs.1
    have h2 : args'.toList.length = 1 := by simpa using h1.symm
    obtain ⟨y, hy⟩ := List.length_eq_one_iff.1 h2
    exact ⟨y, Array.toList_inj.1 (by rw [hy])⟩
  have hy := hargs.2 0 (.pointer (some ⟨p, 0, none⟩)) y rfl rfl
  cases hy with
  | ptr _ _ e he =>
  obtain ⟨e', he', hrow⟩ := hrel.row p r0 hr0
  obtain rfl : e' = e := by rw [he] at he'; exact (Option.some.inj he').symm
  obtain ⟨cs, t, fr, k1, k2, k3, k4, k5⟩ := hrow.out
  obtain ⟨u, hu, hV⟩ := k4 0 _ hcell
  cases hV with
  | map _ e2 he2 =>
  obtain ⟨e3, he3, hmap⟩ := hrel.map b es c hes
  obtain rfl : e3 = e2 := by rw [he2] at he3; exact (Option.some.inj he3).symm
  obtain ⟨es', m1, m2, m3⟩ := hmap.out
  have hkeys : es'.toList.map (·.key) = es.toList.map (·.key) := list_map_eq (by simpa using m2.symm) fun i x y hx hy => ((m3 i y x (by simpa using hy) (by simpa using hx)).1)
  have hborn : es'.toList.map (·.born) = es.toList.map (·.born) := list_map_eq (by simpa using m2.symm) fun i x y hx hy => ((m3 i y x (by simpa using hy) (by simpa using hx)).2.1)
  have hks' : keysOf es'.toList = some ks := by rw [keysOf_same _ _ hkeys, hks]
  have hst' : MapKept.Stamped es' c := by
    refine ⟨fun x hx => ?_, by rw [hborn]; exact hstamp.2.1, by rw [hkeys]; exact hstamp.2.2⟩
    have : x.born ∈ es'.toList.map (·.born) := List.mem_map_of_mem hx
    rw [hborn] at this
    obtain ⟨z, hz, hz2⟩ := List.mem_map.1 this
    rw [← hz2]; exact hstamp.1 z hz
  have hown : w.ownsMap Tryz.prog 9 anyR e3.blk es'.size (.map ((es'.toList.map (WideElems.rg Tryz.prog 9 anyR)).foldr DataW.insert [])) := by
    refine ⟨es', c, m1, ⟨by unfold maxLen; omega, hst', fun x hx => ?_⟩, Nat.le_refl _, rfl⟩
    obtain ⟨s, h1, h2⟩ := keysOf_mem _ _ hks' x hx
    have h3 := hlen _ h2
    refine ⟨(.string s.data.toList, .lit (.bool false)), ?_⟩
    unfold WideElems.rd
    rw [h1, WideMaps.keyOf_string_mk Tryz.underlying9 (by unfold maxLen; have e : s.size = s.data.toList.length := rfl; omega)]
    rfl
  have hlenD : ((es'.toList.map (WideElems.rg Tryz.prog 9 anyR)).foldr DataW.insert []).length ≤ 1000 := by
    rw [DataW.length_sorted]; simp; omega
  have hperm : (Go.strKeys (.map ((es'.toList.map (WideElems.rg Tryz.prog 9 anyR)).foldr DataW.insert []) : DataW Unit)).Perm ks := by
    have := (WideShapes.sorted_perm (es'.toList.map (WideElems.rg Tryz.prog 9 anyR))).map (fun p => Go.strOf p.1)
    rw [keysOf_rg _ _ hks' hlen] at this
    exact this
  have hcellw : w.cell? ⟨e'.blk, e'.off + 0, none⟩ = some (.map (some e3.blk)) := by
    rw [Nat.add_zero] at hu ⊢
    simp [World.cell?, k1, hu]
  refine (names_walk _ _ _ _ _ _ _ hcellw hown ?_ ?_).mono ?_
  · show ((es'.toList.map (WideElems.rg Tryz.prog 9 anyR)).foldr DataW.insert []).length ≤ maxLen
    unfold maxLen; omega
  · show ((es'.toList.map (WideElems.rg Tryz.prog 9 anyR)).foldr DataW.insert []).length * 16 ≤ _
    omega
  · rintro e1 w' ⟨v, ss, rfl, hss, hrow', hnil, hb'⟩
    have hsort : ss.mergeSort (fun x y => decide (x ≤ y)) = sortStr ks := mergeSort_of_perm (hss.trans hperm)
    have hlss : ss.length = ((sortStr ks).map encStr).length := by rw [← hsort]; simp
    rw [hsort, hlss] at hrow'
    have := post_newRow1 hrel (vs := (sortStr ks).map encStr) (fun μ v hv => by
      obtain ⟨k, _, rfl⟩ := List.mem_map.1 hv
      exact .string _) hrow' (by
        rw [hnil, List.map_eq_nil_iff, ← hsort]
        constructor
        · rintro rfl; simp
        · intro h
          have := List.length_mergeSort (le := fun x y => decide (x ≤ y)) ss
          rw [h] at this
          exact List.eq_nil_of_length_eq_zero this.symm) hb'
    rw [h] at this
    exact this
end Go.Abs
