/-
  Slices of whatever elements: what they hold; made, appended to, cut.
-/
import Derived.Test.YthnkdbjeefemoaaGreatBytes
set_option linter.unusedVariables false
set_option linter.unusedSimpArgs false
namespace Go.Abs
open Go Go.RowKit Go.Proofs

/-- how elements lie in cells -/
structure Enc (α : Type) where
  z : Nat
  f : α → List Value
  len : ∀ x, (f x).length = z
  ok : ∀ x v, v ∈ f x → okCell v = true
  pos : 0 < z

theorem Enc.flat_len {α : Type} (E : Enc α) : ∀ l : List α, (l.flatMap E.f).length = l.length * E.z
  | [] => by simp
  | x :: l => by
    rw [List.flatMap_cons, List.length_append, E.len, E.flat_len l, List.length_cons, Nat.add_mul, Nat.one_mul, Nat.add_comm]
theorem Enc.flat_ok {α : Type} (E : Enc α) (l : List α) : (l.flatMap E.f).toArray.all okCell = true := by
  rw [Array.all_eq_true_iff_forall_mem]
  intro v hv
  simp only [List.mem_toArray, List.mem_flatMap] at hv
  obtain ⟨x, _, hx⟩ := hv
  exact E.ok x v hx
theorem Enc.flat_drop {α : Type} (E : Enc α) : ∀ (l : List α) (i : Nat), (l.flatMap E.f).drop (i * E.z) = (l.drop i).flatMap E.f
  | [], i => by simp
  | x :: l, 0 => by simp
  | x :: l, i + 1 => by
    rw [List.flatMap_cons, List.drop_succ_cons, ← E.flat_drop l i, List.drop_append, E.len,
      List.drop_eq_nil_of_le (by rw [E.len, Nat.add_mul, Nat.one_mul]; omega), List.nil_append, Nat.add_mul, Nat.one_mul, Nat.add_sub_cancel]
theorem Enc.flat_take {α : Type} (E : Enc α) : ∀ (l : List α) (i : Nat), (l.flatMap E.f).take (i * E.z) = (l.take i).flatMap E.f
  | [], i => by simp
  | x :: l, 0 => by simp
  | x :: l, i + 1 => by
    rw [List.flatMap_cons, List.take_succ_cons, List.flatMap_cons, ← E.flat_take l i, List.take_append, E.len,
      List.take_of_length_le (by rw [E.len, Nat.add_mul, Nat.one_mul]; omega), Nat.add_mul, Nat.one_mul, Nat.add_sub_cancel]
theorem Enc.flat_get {α : Type} (E : Enc α) {l : List α} {i k : Nat} {x : α} (h : l[i]? = some x) (hk : k < E.z) : (l.flatMap E.f)[i * E.z + k]? = (E.f x)[k]? := by
  have hi : i < l.length := by
    rcases Nat.lt_or_ge i l.length with h1 | h1
    · exact h1
    · rw [List.getElem?_eq_none h1] at h; cases h
  rw [← List.getElem?_drop, E.flat_drop, List.drop_eq_getElem_cons hi, List.flatMap_cons, List.getElem?_append_left (by rw [E.len]; exact hk)]
  rw [List.getElem?_eq_getElem hi] at h
  cases h; rfl

/-- a slice, and what it holds -/
inductive Sl {α : Type} (E : Enc α) (σ : Heap) : Value → List α → Prop
  | nil (c : Nat) : Sl E σ (.slice none 0 c) []
  | row {b o c n : Nat} {pre cs post : List Value} {l : List α} {ro : Bool} (h : row? σ b = some ⟨(pre ++ l.flatMap E.f ++ post).toArray, ro⟩) (ho : pre.length = o) (hn : n = l.length) : Sl E σ (.slice (some ⟨b, o, some E.z⟩) n c) l
theorem Sl.slice {α : Type} {E : Enc α} {σ : Heap} {v : Value} {l : List α} (h : Sl E σ v l) : ∃ a c, v = .slice a l.length c := by
  cases h with
  | nil c => exact ⟨_, c, rfl⟩
  | row h ho hn => exact ⟨_, _, by rw [hn]⟩
theorem Sl.len {α : Type} {E : Enc α} {σ : Heap} {a : Option Addr} {n c : Nat} {l : List α} (h : Sl E σ (.slice a n c) l) : l.length = n := by
  obtain ⟨a', c', e⟩ := h.slice
  cases e; rfl
theorem Sl.grows {α : Type} {E : Enc α} {σ σ' : Heap} (g : Grows σ σ') {v : Value} {l : List α} (h : Sl E σ v l) : Sl E σ' v l := by
  cases h with
  | nil c => exact .nil c
  | row h ho hn => exact .row (cs := []) (g.row h) ho hn
theorem Sl.form {α : Type} {E : Enc α} {σ : Heap} {x : Addr} {n c : Nat} {l : List α} (h : Sl E σ (.slice (some x) n c) l) : ∃ b o, x = ⟨b, o, some E.z⟩ := by
  cases h with
  | row h ho hn => exact ⟨_, _, rfl⟩
theorem Sl.none_len {α : Type} {E : Enc α} {σ : Heap} {n c : Nat} {l : List α} (h : Sl E σ (.slice none n c) l) : l = [] ∧ n = 0 := by
  cases h with
  | nil c => exact ⟨rfl, rfl⟩
/-- an element's cells -/
theorem Sl.cells {α : Type} {E : Enc α} {σ : Heap} {a : Option Addr} {n c : Nat} {l : List α} (h : Sl E σ (.slice a n c) l) {i : Nat} (hi : i < n) :
    ∃ b o x r, a = some ⟨b, o, some E.z⟩ ∧ l[i]? = some x ∧ row? σ b = some r ∧ o + (i + 1) * E.z ≤ r.cells.size ∧ ∀ k, k < E.z → r.cells[o + i * E.z + k]? = (E.f x)[k]? := by
  have hl := h.len
  cases h with
  | nil c => omega
  | @row b o c n pre cs post l ro h ho hn =>
    have hil : i < l.length := by omega
    refine ⟨b, o, l[i], _, rfl, List.getElem?_eq_getElem hil, h, ?_, fun k hk => ?_⟩
    · simp only [List.size_toArray, List.length_append, E.flat_len]
      have : (i + 1) * E.z ≤ l.length * E.z := Nat.mul_le_mul_right _ hil
      omega
    · have h2 : i * E.z + k < (l.flatMap E.f).length := by
        rw [E.flat_len]
        have : (i + 1) * E.z ≤ l.length * E.z := Nat.mul_le_mul_right _ hil
        rw [Nat.add_mul] at this
        omega
      simp only [List.getElem?_toArray]
      rw [List.append_assoc, List.getElem?_append_right (by omega), List.getElem?_append_left (by omega), show o + i * E.z + k - pre.length = i * E.z + k by omega]
      exact E.flat_get (List.getElem?_eq_getElem hil) hk
/-- an element in one cell -/
theorem Sl.at1 {α : Type} {E : Enc α} {σ : Heap} {a : Option Addr} {n c : Nat} {l : List α} (h : Sl E σ (.slice a n c) l) (h1 : E.z = 1) {i : Nat} (hi : i < n) :
    ∃ b o x, a = some ⟨b, o, some 1⟩ ∧ l[i]? = some x ∧ cellAt (row? σ b) (o + i) = (E.f x)[0]? := by
  obtain ⟨b, o, x, r, rfl, hx, hr, hs, hc⟩ := h.cells hi
  refine ⟨b, o, x, by rw [h1], hx, ?_⟩
  have := hc 0 (by omega)
  rw [h1, Nat.mul_one, Nat.add_zero] at this
  rw [hr, cellAt_some]; exact this
/-- an element in several cells -/
theorem Sl.atN {α : Type} {E : Enc α} {σ : Heap} {a : Option Addr} {n c : Nat} {l : List α} (h : Sl E σ (.slice a n c) l) {i : Nat} (hi : i < n) :
    ∃ b o x, a = some ⟨b, o, some E.z⟩ ∧ l[i]? = some x ∧ aggAt (row? σ b) (o + i * E.z) E.z = some (.agg (E.f x).toArray) := by
  obtain ⟨b, o, x, r, rfl, hx, hr, hs, hc⟩ := h.cells hi
  refine ⟨b, o, x, rfl, hx, ?_⟩
  rw [Nat.add_mul, Nat.one_mul] at hs
  rw [hr, aggAt_some (by omega)]
  congr 2
  apply Array.ext_getElem?
  intro k
  rw [Array.getElem?_extract]
  have hlen := E.len x
  split
  · rename_i hk
    rw [hc k (by omega)]
    simp
  · rename_i hk
    rw [List.getElem?_toArray, List.getElem?_eq_none (by omega)]

/-- a slice in a row of its own -/
inductive FS {α : Type} (E : Enc α) (B : Nat) (σ : Heap) : Value → List α → Prop
  | nil : FS E B σ (.slice none 0 0) []
  | row {b c n : Nat} {l : List α} (hb : B ≤ b) (h : row? σ b = some ⟨(l.flatMap E.f).toArray, false⟩) (hn : n = l.length) (hc : c = 0 ∨ c = n + 1) : FS E B σ (.slice (some ⟨b, 0, some E.z⟩) n c) l
theorem FS.sl {α : Type} {E : Enc α} {B : Nat} {σ : Heap} {v : Value} {l : List α} (h : FS E B σ v l) : Sl E σ v l := by
  cases h with
  | nil => exact .nil 0
  | row hb h hn hc => exact .row (pre := []) (cs := []) (post := []) (by simpa using h) rfl hn
theorem FS.mono {α : Type} {E : Enc α} {B B' : Nat} (hB : B' ≤ B) {σ : Heap} {v : Value} {l : List α} (h : FS E B σ v l) : FS E B' σ v l := by
  cases h with
  | nil => exact .nil
  | row hb h hn hc => exact .row (by omega) h hn hc
theorem FS.grows {α : Type} {E : Enc α} {B : Nat} {σ σ' : Heap} (g : Grows σ σ') {v : Value} {l : List α} (h : FS E B σ v l) : FS E B σ' v l := by
  cases h with
  | nil => exact .nil
  | row hb h hn hc => exact .row hb (g.row h) hn hc
theorem FS.own {α : Type} {E : Enc α} {B : Nat} {σ : Heap} {v : Value} {l : List α} (h : FS E B σ v l) {a : Addr} {n c : Nat} (e : v = .slice (some a) n c) : B ≤ a.block ∧ a.block < σ.size := by
  cases h with
  | nil => cases e
  | row hb h hn hc => cases e; exact ⟨hb, row?_lt h⟩

/-- what is appended -/
theorem Sl.src {α : Type} {E : Enc α} {σ : Heap} {v : Value} {l : List α} (h : Sl E σ v l) : ∃ a n c, v = .slice a n c ∧ srcCells v E.z σ = some (l.length, (l.flatMap E.f).toArray) := by
  cases h with
  | nil c => exact ⟨_, _, c, rfl, rfl⟩
  | @row b o c n pre cs post l ro h ho hn =>
    refine ⟨_, _, _, rfl, ?_⟩
    have hfl := E.flat_len l
    subst hn
    have : rdCells σ b o (l.length * E.z) = some (l.flatMap E.f).toArray := by
      unfold rdCells
      rw [h]
      simp only
      rw [if_pos (by simp only [List.size_toArray, List.length_append, hfl]; omega)]
      congr 1
      simp only [List.extract_toArray, List.extract_eq_take_drop]
      rw [List.append_assoc, List.drop_append, List.drop_eq_nil_of_le (by omega), List.nil_append, show o - pre.length = 0 by omega, List.drop_zero,
        List.take_append, List.take_of_length_le (by rw [hfl]; omega), hfl, show o + l.length * E.z - o - l.length * E.z = 0 by omega, List.take_zero, List.append_nil]
    simp only [srcCells, this]

/-- facts of a slice type -/
structure Ty {α : Type} (E : Enc α) (t : TypeId) where
  e : TypeId
  i : TypeInfo
  zv : Value
  under : Tryz.prog.underlying t = some (.slice e)
  info : Tryz.prog.info? e = some i
  size : i.size = E.z
  bytes : i.bytes ≤ 64
  zero : i.zero = some zv
  zlen : zv.cells.size = E.z

theorem app {α : Type} {E : Enc α} {t : TypeId} (T : Ty E t) {B : Nat} {σ : Heap} {s x : Value} {l l' : List α} (hs : FS E B σ s l) (hB : B ≤ σ.size) (hx : Sl E σ x l') (hl : l.length + l'.length < 1099511627776) :
    ∃ v σ', aAppend Tryz.prog t s x σ = some (v, σ') ∧ FS E B σ' v (l ++ l') ∧ σ.size ≤ σ'.size ∧ (∀ b, b < σ.size → (∀ a n c, s = .slice (some a) n c → a.block ≠ b) → σ'[b]? = σ[b]?) := by
  obtain ⟨a, n, c, rfl, hsrc⟩ := hx.src
  have hpos := E.pos
  unfold aAppend
  simp only [T.under, T.info, T.size, hsrc, T.zero]
  have hfl := E.flat_len l'
  rw [if_pos ⟨T.zlen, hpos, by simp [hfl], E.flat_ok l'⟩]
  have hby := T.bytes
  have hm : ∀ k, k < 1099511627776 → k * T.i.bytes ≤ 140737488355328 := fun k hk => by
    have := Nat.mul_le_mul (Nat.le_of_lt hk) hby
    omega
  cases hs with
  | nil =>
    by_cases h0 : l'.length = 0
    · obtain rfl : l' = [] := List.eq_nil_of_length_eq_zero h0
      exact ⟨_, σ, rfl, .nil, Nat.le_refl _, fun _ _ _ => rfl⟩
    · simp only [h0, if_false]
      simp only [List.length_nil, Nat.zero_add] at hl
      rw [if_pos ⟨hm _ (by omega), by omega⟩]
      refine ⟨_, _, rfl, ?_, by simp, fun b hb _ => by rw [Array.getElem?_push, if_neg (by omega)]⟩
      exact .row hB row?_push_eq rfl (.inl rfl)
  | @row b c0 n0 l hb h hn hc =>
    subst hn
    simp only [h]
    by_cases h0 : l'.length = 0
    · obtain rfl : l' = [] := List.eq_nil_of_length_eq_zero h0
      refine ⟨_, σ, rfl, ?_, Nat.le_refl _, fun _ _ _ => rfl⟩
      rw [List.append_nil]
      exact .row hb h rfl hc
    · simp only [h0, if_false]
      have hbl := row?_lt h
      have hfl0 := E.flat_len l
      rw [if_pos ⟨by simp [hfl0], trivial, hm _ (by omega), by omega⟩]
      have hx2 : (l.flatMap E.f).toArray.extract 0 (0 + l.length * E.z) ++ (l'.flatMap E.f).toArray = ((l ++ l').flatMap E.f).toArray := by
        rw [List.flatMap_append, List.extract_toArray, List.extract_eq_take_drop, List.drop_zero, List.take_of_length_le (by omega), List.append_toArray]
      have hlen : (l ++ l').length = l.length + l'.length := List.length_append
      rcases hc with rfl | rfl
      · rw [if_neg (by omega), if_pos ⟨rfl, trivial⟩]
        refine ⟨_, _, rfl, ?_, by simp, fun k hk hne => ?_⟩
        · rw [hx2]
          refine .row hB ?_ hlen.symm (.inl rfl)
          have := @row?_push_eq (σ.setIfInBounds b none) ⟨((l ++ l').flatMap E.f).toArray, false⟩
          rwa [Array.size_setIfInBounds] at this
        · have hkb : b ≠ k := hne _ _ _ rfl
          rw [Array.getElem?_push, Array.size_setIfInBounds, if_neg (by omega), Array.getElem?_setIfInBounds_ne hkb]
      · rw [if_pos ⟨by omega, by omega⟩]
        refine ⟨_, _, rfl, ?_, by simp, fun k hk _ => by rw [Array.getElem?_push, if_neg (by omega)]⟩
        rw [hx2]
        exact .row hB row?_push_eq hlen.symm (.inl rfl)
/-- append of one element -/
theorem app1 {α : Type} {E : Enc α} {t : TypeId} (T : Ty E t) {B : Nat} {σ : Heap} {s : Value} {l : List α} (hs : FS E B σ s l) (hB : B ≤ σ.size) (y : α) (hl : l.length < 1099511627775) {z : Nat} (hz : z = E.z) {cs : Array Value} (hcs : cs = (E.f y).toArray) :
    ∃ v σ', aAppend Tryz.prog t s (.slice (some ⟨σ.size, 0, some z⟩) 1 2) (σ.push (some (.row ⟨cs, false⟩))) = some (v, σ') ∧ FS E B σ' v (l ++ [y]) ∧ σ.size ≤ σ'.size ∧ (∀ b, b < σ.size → (∀ a n c, s = .slice (some a) n c → a.block ≠ b) → σ'[b]? = σ[b]?) := by
  subst hz hcs
  have g : Grows σ (σ.push (some (.row ⟨(E.f y).toArray, false⟩))) := (Grows.refl σ).push _
  have hx : Sl E (σ.push (some (.row ⟨(E.f y).toArray, false⟩))) (.slice (some ⟨σ.size, 0, some E.z⟩) 1 2) [y] := .row (pre := []) (cs := []) (post := []) (by simpa using row?_push_eq) rfl rfl
  obtain ⟨v, σ', h1, h2, h3, h4⟩ := app T (hs.grows g) (Nat.le_trans hB g.1) hx (by simp; omega)
  exact ⟨v, σ', h1, h2, Nat.le_trans g.1 h3, fun b hb hne => by rw [h4 b (Nat.lt_of_lt_of_le hb g.1) hne]; exact g.2 b hb⟩
/-- its own row alone: nothing elder has turned -/
theorem app_grows {α : Type} {E : Enc α} {B : Nat} {σ0 σ σ' : Heap} {s : Value} {l : List α} (hs : FS E B σ s l) (g0 : Grows σ0 σ) (hle : σ0.size ≤ B) (h3 : σ.size ≤ σ'.size) (h4 : ∀ b, b < σ.size → (∀ a n c, s = .slice (some a) n c → a.block ≠ b) → σ'[b]? = σ[b]?) : Grows σ0 σ' :=
  ⟨Nat.le_trans g0.1 h3, fun b hb => by
    rw [h4 b (Nat.lt_of_lt_of_le hb g0.1) (fun a n c e => by have := (hs.own e).1; omega)]
    exact g0.2 b hb⟩
end Go.Abs
