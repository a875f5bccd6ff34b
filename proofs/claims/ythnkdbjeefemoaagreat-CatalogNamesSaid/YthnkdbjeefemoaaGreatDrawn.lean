/-
  Regions that draw their order, step by step in one order.
-/
import Derived.Test.YthnkdbjeefemoaaGreatEval
set_option linter.unusedVariables false
set_option linter.unusedSimpArgs false
namespace Go.Abs
open Go Go.RowKit

inductive DS where
  | pure (i : Nat)
  | read (i : Nat) (msk : List Nat)
  | make (i slot : Nat)
  | eff (i : Nat) (msk : List Nat) (chk : List (Nat × List Nat))
def mslots (P : Program) (ops : Array Oper) (pre : Array Nat) (i : Nat) : List Nat :=
  ((List.range ops.size).filter fun j => decide (clsAt P ops j = .make) && !isBefore pre j i).map fun j => slotOf P ops j
def mkDS (P : Program) (ops : Array Oper) (pre : Array Nat) (i : Nat) : DS :=
  match clsAt P ops i with
  | .pure => .pure i
  | .read => .read i (mslots P ops pre i)
  | .make => .make i (slotOf P ops i)
  | .eff => .eff i (mslots P ops pre i) (((List.range ops.size).filter fun j => decide (clsAt P ops j = .read) && !isBefore pre j i).map fun j => (j, mslots P ops pre j))
def compile (P : Program) (ops : Array Oper) : Option (Nat × List DS) :=
  if ordOk P ops (Region.before ops) (eager P ops (Region.before ops)) then some (nMake P ops, (eager P ops (Region.before ops)).map (mkDS P ops (Region.before ops))) else none

abbrev LogF := Nat → Option (List Value × Value)
def lupd (log : LogF) (i : Nat) (e : List Value × Value) : LogF := fun j => if j = i then some e else log j
def chkL (P : Program) (op : Op) (e : Option (List Value × Value)) (τ : Heap) : Bool :=
  match e with
  | some (vs, v) => chkRead P op vs τ v
  | none => true
def slotK {β : Type} (x : Option (Option AObj)) (y : Option β) : Option β :=
  match x with
  | some none => y
  | _ => none
def offs (base : Nat) (l : List Nat) : List Nat := l.map fun s => base + s
def chkAll (P : Program) (ops : Array Oper) (base : Nat) (log : LogF) (τ : Heap) : List (Nat × List Nat) → Bool
  | [] => true
  | c :: cs => chkL P (opAt ops c.1).op (log c.1) (mask τ (offs base c.2)) && chkAll P ops base log τ cs

section
variable {α : Type} (P : Program) (call : CallFn) (m : Nat) (ops : Array Oper) (base : Nat)
def kDr : List DS → Env → Heap → LogF → (Env → Heap → Option α) → Option α
  | [], ρ, σ, _, K => K ρ σ
  | .pure i :: ss, ρ, σ, log, K =>
    kOps P call m ops [opAt ops i] ρ σ fun ρ' σ' => kDr ss ρ' σ' log K
  | .read i msk :: ss, ρ, σ, log, K =>
    guardK m ops ρ (opAt ops i) (bindK (aRead P (opAt ops i).op ((opAt ops i).op.operands.toList.map (evE ρ)) (mask σ (offs base msk))) fun v =>
      kDr ss (updO m ρ (opAt ops i).dst v) σ (lupd log i ((opAt ops i).op.operands.toList.map (evE ρ), v)) K) (kDr ss (updO m ρ (opAt ops i).dst undef) σ log K)
  | .make i slot :: ss, ρ, σ, log, K =>
    guardK m ops ρ (opAt ops i) (bindK (aMake P (opAt ops i).op (evE ρ)) fun mk =>
      slotK σ[base + slot]? (kDr ss (updO m ρ (opAt ops i).dst (mk.2 (base + slot))) (σ.setIfInBounds (base + slot) (some mk.1)) log K)) (kDr ss (updO m ρ (opAt ops i).dst undef) σ log K)
  | .eff i msk chk :: ss, ρ, σ, log, K =>
    guardK m ops ρ (opAt ops i) (bindK (aEff P call (opAt ops i).op (evE ρ) (mask σ (offs base msk))) fun r =>
      ifK (decide (σ.size ≤ r.2.size)) (ifK (chkAll P ops base log (unmask σ r.2 (offs base msk)) chk) (kDr ss (updO m ρ (opAt ops i).dst r.1) (unmask σ r.2 (offs base msk)) log K) none) none)
      (kDr ss (updO m ρ (opAt ops i).dst undef) σ log K)
end

variable {α : Type} {P : Program} {call : CallFn} {ops : Array Oper} {pre : Array Nat} {base : Nat}
theorem masks_offs (i : Nat) : masks P ops pre base i = offs base (mslots P ops pre i) := by
  simp only [masks, offs, mslots, List.map_map]; rfl
theorem chkReads_all {log : Array (Option (List Value × Value))} (i : Nat) (hlog : ∀ j, log.getD j none ≠ none → clsAt P ops j = .read) (τ : Heap) : ∀ (l : List Nat),
    chkReads P ops pre base i log τ l = chkAll P ops base (fun j => log.getD j none) τ ((l.filter fun j => decide (clsAt P ops j = .read) && !isBefore pre j i).map fun j => (j, mslots P ops pre j))
  | [] => rfl
  | j :: js => by
    rw [chkReads, chkReads_all i hlog τ js]
    cases h : log.getD j none with
    | none =>
      simp only [Bool.true_and]
      rw [List.filter_cons]
      by_cases hq : (decide (clsAt P ops j = .read) && !isBefore pre j i) = true
      · rw [if_pos hq, List.map_cons, chkAll]
        simp only [h, chkL, Bool.true_and]
      · rw [if_neg hq]
    | some e =>
      obtain ⟨vs, v⟩ := e
      have hc := hlog j (by rw [h]; simp)
      simp only
      rw [List.filter_cons]
      cases hb : isBefore pre j i with
      | true => simp [hc]
      | false =>
        simp only [hc, decide_true, Bool.true_and, Bool.not_false, if_true, List.map_cons, chkAll, h, chkL, Bool.false_or, masks_offs]

theorem kDr_eq : ∀ (l : List Nat) (s : DSt) (K : Env → Heap → Option α), (∀ j, s.log.getD j none ≠ none → clsAt P ops j = .read) → s.log.size = ops.size → (∀ i ∈ l, i < ops.size) →
    kDr P call s.T.size ops base (l.map (mkDS P ops pre)) (ofT s.T) s.σ (fun j => s.log.getD j none) K = (dSteps P call ops pre base l s).bind fun f => K (ofT f.T) f.σ
  | [], s, K, _, _, _ => rfl
  | i :: is, s, K, hlog, hsz, hl => by
    have ih : ∀ (s' : DSt), s'.T.size = s.T.size → s'.log = s.log → kDr P call s.T.size ops base (is.map (mkDS P ops pre)) (ofT s'.T) s'.σ (fun j => s.log.getD j none) K = (dSteps P call ops pre base is s').bind fun f => K (ofT f.T) f.σ := by
      intro s' h1 h2
      rw [← h1, ← h2]
      exact kDr_eq is s' K (by rw [h2]; exact hlog) (by rw [h2]; exact hsz) (fun i h => hl i (List.mem_cons_of_mem _ h))
    have hi : i < ops.size := hl i (List.mem_cons_self ..)
    rw [List.map_cons]
    simp only [dSteps, dStep]
    have hskip := ih { s with T := putT s.T (opAt ops i).dst undef } (putT_size _ _ _) rfl
    cases hc : clsAt P ops i with
    | pure =>
      rw [show mkDS P ops pre i = .pure i from by unfold mkDS; rw [hc]]
      have hc' : cls P (opAt ops i).op = .pure := hc
      simp only [kDr, kOps, kOp, hc']
      rw [guardK_eq, evE_ofT]
      cases aWanted ops s.T (opAt ops i) with
      | none => rfl
      | some b =>
        cases b with
        | false => simp only [updO_ofT]; exact hskip
        | true =>
          simp only
          cases aPureOp P (opAt ops i).op (ev s.T) with
          | none => rfl
          | some v =>
            simp only [bindK_some, updO_ofT, Option.map_some]
            exact ih { s with T := putT s.T (opAt ops i).dst v } (putT_size _ _ _) rfl
    | read =>
      rw [show mkDS P ops pre i = .read i (mslots P ops pre i) from by unfold mkDS; rw [hc]]
      simp only [kDr]
      rw [guardK_eq, evE_ofT, ← masks_offs]
      cases aWanted ops s.T (opAt ops i) with
      | none => rfl
      | some b =>
        cases b with
        | false => simp only [updO_ofT]; exact hskip
        | true =>
          simp only
          cases aRead P (opAt ops i).op ((opAt ops i).op.operands.toList.map (ev s.T)) (mask s.σ (masks P ops pre base i)) with
          | none => rfl
          | some v =>
            simp only [bindK_some, updO_ofT, Option.map_some]
            have h1 := kDr_eq is { s with T := putT s.T (opAt ops i).dst v, log := s.log.setIfInBounds i (some ((opAt ops i).op.operands.toList.map (ev s.T), v)) } K (by
                intro j hj
                simp only [Array.getD_eq_getD_getElem?, Array.getElem?_setIfInBounds] at hj
                by_cases h : i = j
                · rw [← h]; exact hc
                · rw [if_neg h] at hj
                  exact hlog j (by simpa [Array.getD_eq_getD_getElem?] using hj)) (by simpa using hsz) (fun i h => hl i (List.mem_cons_of_mem _ h))
            rw [← h1]
            have h2 : lupd (fun j => s.log.getD j none) i ((opAt ops i).op.operands.toList.map (ev s.T), v) = fun j => (s.log.setIfInBounds i (some ((opAt ops i).op.operands.toList.map (ev s.T), v))).getD j none := by
              funext j
              simp only [lupd, Array.getD_eq_getD_getElem?, Array.getElem?_setIfInBounds]
              by_cases h : i = j
              · subst h; simp [hsz, hi]
              · simp [h, Ne.symm h]
            rw [h2]
            simp only [putT_size]
    | make =>
      rw [show mkDS P ops pre i = .make i (slotOf P ops i) from by unfold mkDS; rw [hc]]
      simp only [kDr]
      rw [guardK_eq, evE_ofT]
      cases aWanted ops s.T (opAt ops i) with
      | none => rfl
      | some b =>
        cases b with
        | false => simp only [updO_ofT]; exact hskip
        | true =>
          simp only
          cases aMake P (opAt ops i).op (ev s.T) with
          | none => rfl
          | some mk =>
            simp only [bindK_some, updO_ofT]
            cases s.σ[base + slotOf P ops i]? with
            | none => rfl
            | some o =>
              cases o with
              | some _ => rfl
              | none =>
                simp only [slotK]
                exact ih { s with T := putT s.T (opAt ops i).dst (mk.2 (base + slotOf P ops i)), σ := s.σ.setIfInBounds (base + slotOf P ops i) (some mk.1) } (putT_size _ _ _) rfl
    | eff =>
      rw [show mkDS P ops pre i = .eff i (mslots P ops pre i) (((List.range ops.size).filter fun j => decide (clsAt P ops j = .read) && !isBefore pre j i).map fun j => (j, mslots P ops pre j)) from by unfold mkDS; rw [hc]]
      simp only [kDr]
      rw [guardK_eq, evE_ofT, ← masks_offs]
      cases aWanted ops s.T (opAt ops i) with
      | none => rfl
      | some b =>
        cases b with
        | false => simp only [updO_ofT]; exact hskip
        | true =>
          simp only
          cases aEff P call (opAt ops i).op (ev s.T) (mask s.σ (masks P ops pre base i)) with
          | none => rfl
          | some r =>
            obtain ⟨v, τ⟩ := r
            simp only [bindK_some, updO_ofT]
            rw [← chkReads_all i hlog]
            by_cases h1 : s.σ.size ≤ τ.size
            · cases h2 : chkReads P ops pre base i s.log (unmask s.σ τ (masks P ops pre base i)) (List.range ops.size) with
              | true =>
                simp only [h1, decide_true, ifK_true, and_self, if_true]
                exact ih { s with T := putT s.T (opAt ops i).dst v, σ := unmask s.σ τ (masks P ops pre base i) } (putT_size _ _ _) rfl
              | false => simp [h1, ifK]
            · simp [h1, ifK]

theorem aDrawn_kDr {k : Nat} {l : List DS} (h : compile P ops = some (k, l)) (T : Array Value) (σ : Heap) (K : Env → Heap → Option α) :
    ((aDrawn P call ops T σ).bind fun r => K (ofT r.1) r.2) = kDr P call T.size ops σ.size l (ofT T) (reserve σ k) (fun _ => none) K := by
  unfold compile at h
  split at h
  · rename_i ho
    simp only [Option.some.injEq, Prod.mk.injEq] at h
    obtain ⟨rfl, rfl⟩ := h
    unfold aDrawn
    rw [if_pos ho]
    have hlt : ∀ i ∈ eager P ops (Region.before ops), i < ops.size := by
      intro i hi
      simp only [eager, List.mem_flatMap, List.mem_append, List.mem_filter, List.mem_range] at hi
      obtain ⟨k, _, h | h⟩ := hi <;> exact h.1
    have := kDr_eq (P := P) (call := call) (ops := ops) (pre := Region.before ops) (base := σ.size) (eager P ops (Region.before ops)) ⟨T, reserve σ (nMake P ops), Array.replicate ops.size none⟩ K
      (by intro j hj; exfalso; apply hj; simp [Array.getD_eq_getD_getElem?, Array.getElem?_replicate]; split <;> rfl) (by simp) hlt
    have h2 : (fun j => (Array.replicate ops.size (none : Option (List Value × Value))).getD j none) = fun _ => none := by
      funext j
      simp [Array.getD_eq_getD_getElem?, Array.getElem?_replicate]
      split <;> rfl
    rw [h2] at this
    rw [this]
    cases dSteps P call ops (Region.before ops) σ.size (eager P ops (Region.before ops)) ⟨T, reserve σ (nMake P ops), Array.replicate ops.size none⟩ <;> rfl
  · cases h

/-! Steps for simp -/
section
variable (P : Program) (call : CallFn) (m : Nat) (ops : Array Oper) (base : Nat)
def contD (ss : List DS) (log : LogF) (K : Env → Heap → Option α) : Env → Heap → Option α := fun ρ σ => kDr P call m ops base ss ρ σ log K
def dRd (o : Oper) (i : Nat) (msk : List Nat) (ss : List DS) (ρ : Env) (σ : Heap) (log : LogF) (K : Env → Heap → Option α) : Option α :=
  guardK m ops ρ o (bindK (aRead P o.op (o.op.operands.toList.map (evE ρ)) (mask σ (offs base msk))) fun v =>
      kDr P call m ops base ss (updO m ρ o.dst v) σ (lupd log i (o.op.operands.toList.map (evE ρ), v)) K) (kDr P call m ops base ss (updO m ρ o.dst undef) σ log K)
def dMk (o : Oper) (slot : Nat) (ss : List DS) (ρ : Env) (σ : Heap) (log : LogF) (K : Env → Heap → Option α) : Option α :=
  guardK m ops ρ o (bindK (aMake P o.op (evE ρ)) fun mk =>
      slotK σ[base + slot]? (kDr P call m ops base ss (updO m ρ o.dst (mk.2 (base + slot))) (σ.setIfInBounds (base + slot) (some mk.1)) log K)) (kDr P call m ops base ss (updO m ρ o.dst undef) σ log K)
def dEf (o : Oper) (msk : List Nat) (chk : List (Nat × List Nat)) (ss : List DS) (ρ : Env) (σ : Heap) (log : LogF) (K : Env → Heap → Option α) : Option α :=
  guardK m ops ρ o (bindK (aEff P call o.op (evE ρ) (mask σ (offs base msk))) fun r =>
      ifK (decide (σ.size ≤ r.2.size)) (ifK (chkAll P ops base log (unmask σ r.2 (offs base msk)) chk) (kDr P call m ops base ss (updO m ρ o.dst r.1) (unmask σ r.2 (offs base msk)) log K) none) none)
      (kDr P call m ops base ss (updO m ρ o.dst undef) σ log K)
def cRd (i : Nat) (vs : List Value) (ss : List DS) (ρ : Env) (d : Option Tmp) (σ : Heap) (log : LogF) (K : Env → Heap → Option α) (v : Value) : Option α :=
  kDr P call m ops base ss (updO m ρ d v) σ (lupd log i (vs, v)) K
def cMk (slot : Nat) (ss : List DS) (ρ : Env) (d : Option Tmp) (σ : Heap) (log : LogF) (K : Env → Heap → Option α) (mk : AObj × (Nat → Value)) : Option α :=
  slotK σ[base + slot]? (kDr P call m ops base ss (updO m ρ d (mk.2 (base + slot))) (σ.setIfInBounds (base + slot) (some mk.1)) log K)
def cEf (msk : List Nat) (chk : List (Nat × List Nat)) (ss : List DS) (ρ : Env) (d : Option Tmp) (σ : Heap) (log : LogF) (K : Env → Heap → Option α) (r : Value × Heap) : Option α :=
  ifK (decide (σ.size ≤ r.2.size)) (ifK (chkAll P ops base log (unmask σ r.2 (offs base msk)) chk) (kDr P call m ops base ss (updO m ρ d r.1) (unmask σ r.2 (offs base msk)) log K) none) none
end
/-- by the value of the test that an operation hangs on -/
def guardV {β : Type} (v : Value) (want : Bool) (x y : Option β) : Option β :=
  match v with
  | .bool b => ifK (b == want) x y
  | .tuple vs => ifK (decide (vs.size = 0)) y none
  | _ => none
def guardD {β : Type} (m : Nat) (d : Option Tmp) (want : Bool) (ρ : Env) (x y : Option β) : Option β :=
  match d with
  | some d => ifK (decide (d < m)) (guardV (ρ d) want x y) none
  | none => none
theorem guardV_bool {β : Type} {b want : Bool} {x y : Option β} : guardV (.bool b) want x y = ifK (b == want) x y := rfl
theorem guardV_undef {β : Type} {want : Bool} {x y : Option β} : guardV undef want x y = y := rfl
theorem guardD_some {β : Type} {m d : Nat} (h : d < m) {want : Bool} {ρ : Env} {x y : Option β} : guardD m (some d) want ρ x y = guardV (ρ d) want x y := by simp [guardD, h, ifK]
@[congr] theorem guardV_congr {β : Type} {v w : Value} {b : Bool} {x y : Option β} (h : v = w) : guardV v b x y = guardV w b x y := by rw [h]
@[congr] theorem guardD_congr {β : Type} {m : Nat} {d e : Option Tmp} {b : Bool} {ρ : Env} {x y : Option β} (h : d = e) : guardD m d b ρ x y = guardD m e b ρ x y := by rw [h]
theorem guardK_D {β : Type} {m : Nat} {ops : Array Oper} {ρ : Env} {d : Option Tmp} {op : Op} {ty : TypeId} {pos : String} {af : Array Edge} {j : Nat} {w : Bool} {x y : Option β} :
    guardK m ops ρ ⟨d, op, ty, pos, af, some (j, w)⟩ x y = guardD m ((ops[j]?).bind fun o => o.dst) w ρ x y := by
  unfold guardK guardD
  simp only
  cases (ops[j]?).bind fun o => o.dst with
  | none => rfl
  | some d =>
    simp only [ifK]
    cases decide (d < m) with
    | false => rfl
    | true => cases ρ d <;> rfl
/-- ways that are not taken yet -/
def oHold (P : Program) (call : CallFn) (m : Nat) (ops : Array Oper) (os : List Oper) (ρ : Env) (σ : Heap) (K : Env → Heap → Option α) : Option α := kOps P call m ops os ρ σ K
def dHold (P : Program) (call : CallFn) (m : Nat) (ops : Array Oper) (base : Nat) (ss : List DS) (ρ : Env) (σ : Heap) (log : LogF) (K : Env → Heap → Option α) : Option α := kDr P call m ops base ss ρ σ log K

section
variable {m : Nat} {ρ : Env} {σ : Heap} {log : LogF} {K : Env → Heap → Option α} {ss : List DS} {i j slot : Nat} {w : Bool} {msk : List Nat} {chk : List (Nat × List Nat)} {d : Option Tmp} {op : Op} {ty : TypeId} {pos : String} {af : Array Edge}
theorem D_nil : kDr P call m ops base [] ρ σ log K = K ρ σ := rfl
theorem D_pure : kDr P call m ops base (.pure i :: ss) ρ σ log K = kOps P call m ops [opAt ops i] ρ σ (contD P call m ops base ss log K) := rfl
theorem D_cont : contD P call m ops base ss log K ρ σ = kDr P call m ops base ss ρ σ log K := rfl
theorem D_read : kDr P call m ops base (.read i msk :: ss) ρ σ log K = dRd P call m ops base (opAt ops i) i msk ss ρ σ log K := rfl
theorem D_make : kDr P call m ops base (.make i slot :: ss) ρ σ log K = dMk P call m ops base (opAt ops i) slot ss ρ σ log K := rfl
theorem D_eff : kDr P call m ops base (.eff i msk chk :: ss) ρ σ log K = dEf P call m ops base (opAt ops i) msk chk ss ρ σ log K := rfl
theorem opAt_zero {o : Oper} {l : List Oper} : opAt (List.toArray (o :: l)) 0 = o := rfl
theorem opAt_succ {o : Oper} {l : List Oper} {n : Nat} : opAt (List.toArray (o :: l)) (n + 1) = opAt l.toArray n := by simp [opAt]
theorem D_load {t : TypeId} {x : Operand} : dRd P call m ops base ⟨d, .load t x, ty, pos, af, none⟩ i msk ss ρ σ log K = bindK (aLoad P t (evE ρ x) (mask σ (offs base msk))) (cRd P call m ops base i [evE ρ x] ss ρ d σ log K) := rfl
theorem D_lookup {t : TypeId} {x y : Operand} {b : Bool} : dRd P call m ops base ⟨d, .lookup t x y b, ty, pos, af, none⟩ i msk ss ρ σ log K = bindK (aLookup P t (evE ρ x) (evE ρ y) b (mask σ (offs base msk))) (cRd P call m ops base i [evE ρ x, evE ρ y] ss ρ d σ log K) := rfl
theorem D_mk : dMk P call m ops base ⟨d, op, ty, pos, af, none⟩ slot ss ρ σ log K = bindK (aMake P op (evE ρ)) (cMk P call m ops base slot ss ρ d σ log K) := rfl
theorem D_ef : dEf P call m ops base ⟨d, op, ty, pos, af, none⟩ msk chk ss ρ σ log K = bindK (aEff P call op (evE ρ) (mask σ (offs base msk))) (cEf P call m ops base msk chk ss ρ d σ log K) := rfl
theorem G_ops {os : List Oper} : kOps P call m ops (⟨d, op, ty, pos, af, some (j, w)⟩ :: os) ρ σ K = guardD m ((ops[j]?).bind fun o => o.dst) w ρ (oHold P call m ops (⟨d, op, ty, pos, af, none⟩ :: os) ρ σ K) (oHold P call m ops os (updO m ρ d undef) σ K) := by
  rw [← guardK_D (op := op) (ty := ty) (pos := pos) (af := af) (d := d)]
  rfl
theorem G_rd : dRd P call m ops base ⟨d, op, ty, pos, af, some (j, w)⟩ i msk ss ρ σ log K = guardD m ((ops[j]?).bind fun o => o.dst) w ρ (dRd P call m ops base ⟨d, op, ty, pos, af, none⟩ i msk ss ρ σ log K) (dHold P call m ops base ss (updO m ρ d undef) σ log K) := by
  rw [← guardK_D (op := op) (ty := ty) (pos := pos) (af := af) (d := d)]
  rfl
theorem G_mk : dMk P call m ops base ⟨d, op, ty, pos, af, some (j, w)⟩ slot ss ρ σ log K = guardD m ((ops[j]?).bind fun o => o.dst) w ρ (dMk P call m ops base ⟨d, op, ty, pos, af, none⟩ slot ss ρ σ log K) (dHold P call m ops base ss (updO m ρ d undef) σ log K) := by
  rw [← guardK_D (op := op) (ty := ty) (pos := pos) (af := af) (d := d)]
  rfl
theorem G_ef : dEf P call m ops base ⟨d, op, ty, pos, af, some (j, w)⟩ msk chk ss ρ σ log K = guardD m ((ops[j]?).bind fun o => o.dst) w ρ (dEf P call m ops base ⟨d, op, ty, pos, af, none⟩ msk chk ss ρ σ log K) (dHold P call m ops base ss (updO m ρ d undef) σ log K) := by
  rw [← guardK_D (op := op) (ty := ty) (pos := pos) (af := af) (d := d)]
  rfl
theorem H_o {os : List Oper} : oHold P call m ops os ρ σ K = kOps P call m ops os ρ σ K := rfl
theorem H_d : dHold P call m ops base ss ρ σ log K = kDr P call m ops base ss ρ σ log K := rfl
theorem H_o_true {os : List Oper} {x : Option α} : ifK true (oHold P call m ops os ρ σ K) x = kOps P call m ops os ρ σ K := rfl
theorem H_o_false {os : List Oper} {x : Option α} : ifK false x (oHold P call m ops os ρ σ K) = kOps P call m ops os ρ σ K := rfl
theorem H_d_false {x : Option α} : ifK false x (dHold P call m ops base ss ρ σ log K) = kDr P call m ops base ss ρ σ log K := rfl
theorem H_rd_true {o : Oper} {x : Option α} : ifK true (dRd P call m ops base o i msk ss ρ σ log K) x = dRd P call m ops base o i msk ss ρ σ log K := rfl
theorem H_mk_true {o : Oper} {x : Option α} : ifK true (dMk P call m ops base o slot ss ρ σ log K) x = dMk P call m ops base o slot ss ρ σ log K := rfl
theorem H_ef_true {o : Oper} {x : Option α} : ifK true (dEf P call m ops base o msk chk ss ρ σ log K) x = dEf P call m ops base o msk chk ss ρ σ log K := rfl
theorem C_rd {vs : List Value} {v : Value} : bindK (some v) (cRd P call m ops base i vs ss ρ d σ log K) = kDr P call m ops base ss (updO m ρ d v) σ (lupd log i (vs, v)) K := rfl
theorem C_rd' {vs : List Value} {v : Value} : cRd P call m ops base i vs ss ρ d σ log K v = kDr P call m ops base ss (updO m ρ d v) σ (lupd log i (vs, v)) K := rfl
theorem C_mk {o : AObj} {f : Nat → Value} (h : σ[base + slot]? = some none) : bindK (some (o, f)) (cMk P call m ops base slot ss ρ d σ log K) = kDr P call m ops base ss (updO m ρ d (f (base + slot))) (σ.setIfInBounds (base + slot) (some o)) log K := by
  simp only [bindK_some, cMk, h, slotK]
theorem C_ef {v : Value} {τ : Heap} (h : σ.size ≤ τ.size) : bindK (some (v, τ)) (cEf P call m ops base msk [] ss ρ d σ log K) = kDr P call m ops base ss (updO m ρ d v) (unmask σ τ (offs base msk)) log K := by
  simp only [bindK_some, cEf, h, decide_true, ifK_true, chkAll]
theorem C_ef' {v : Value} {τ : Heap} (h : σ.size ≤ τ.size) : cEf P call m ops base msk [] ss ρ d σ log K (v, τ) = kDr P call m ops base ss (updO m ρ d v) (unmask σ τ (offs base msk)) log K := by
  simp only [cEf, h, decide_true, ifK_true, chkAll]
theorem C_ef_chk {v : Value} {τ : Heap} (h : σ.size ≤ τ.size) (hc : chkAll P ops base log (unmask σ τ (offs base msk)) chk = true) : cEf P call m ops base msk chk ss ρ d σ log K (v, τ) = kDr P call m ops base ss (updO m ρ d v) (unmask σ τ (offs base msk)) log K := by
  simp only [cEf, h, decide_true, ifK_true, hc]
theorem F_call {f : FuncId} {args : List Operand} {tys : Array TypeId} : aEff P call (.call { callee := .value (.func f), args := args.toArray, argTypes := tys }) (evE ρ) σ = call f (args.map (evE ρ)).toArray σ := by
  show call f (#[] ++ args.toArray.map (evE ρ) ++ #[]) σ = _
  simp
theorem F_store {t : TypeId} {a v : Operand} : aEff P call (.store t a v) (evE ρ) σ = (aStore P t (evE ρ a) (evE ρ v) σ).map fun σ' => (undef, σ') := rfl
theorem mask_nil : mask σ [] = σ := rfl
theorem unmask_nil {τ : Heap} : unmask σ τ [] = τ := rfl
theorem offs_nil : offs base [] = [] := rfl
theorem offs_cons {s : Nat} {l : List Nat} : offs base (s :: l) = (base + s) :: offs base l := rfl
theorem reserve_zero : reserve σ 0 = σ := rfl
theorem reserve_one : reserve σ 1 = σ.push none := rfl
theorem reserve_two : reserve σ 2 = (σ.push none).push none := rfl
theorem lupd_same {e : List Value × Value} : lupd log i e i = some e := by simp [lupd]
theorem lupd_ne {e : List Value × Value} (h : j ≠ i) : lupd log i e j = log j := by simp [lupd, h]
theorem fill_one {o : AObj} : (σ.push none).setIfInBounds σ.size (some o) = σ.push (some o) := by
  apply Array.ext_getElem?
  intro i
  rw [Array.getElem?_setIfInBounds, Array.getElem?_push, Array.getElem?_push]
  by_cases h : σ.size = i
  · simp [h]
  · rw [if_neg h, if_neg (Ne.symm h), if_neg (Ne.symm h)]
theorem free_one : (σ.push none)[σ.size]? = some none := by simp
end
theorem C_mk0 {o : AObj} {f : Nat → Value} {m : Nat} {ρ : Env} {σ : Heap} {log : LogF} {K : Env → Heap → Option α} {ss : List DS} {d : Option Tmp} :
    bindK (some (o, f)) (cMk P call m ops σ.size 0 ss ρ d (σ.push none) log K) = kDr P call m ops σ.size ss (updO m ρ d (f σ.size)) (σ.push (some o)) log K := by
  rw [C_mk (by simp), Nat.add_zero, fill_one]
/-- a region of a function's text -/
def findReg : Code → Nat → Option (Array Oper)
  | .region id ops _, r => if id = r then some ops else none
  | .seq a b, r => (findReg a r).orElse fun _ => findReg b r
  | .cond _ a b, r => (findReg a r).orElse fun _ => findReg b r
  | .block _ a, r => findReg a r
  | .loop a, r => findReg a r
  | .scope a, r => findReg a r
  | _, _ => none
def regOps (fn : Func) (r : Nat) : Array Oper :=
  match fn.body with
  | some c => (findReg c r).getD #[]
  | none => #[]
/-- variables, as a table of m holds them -/
def frz (m : Nat) (ρ : Env) : Env := ofT (toT m ρ)
theorem V_frz {m t : Nat} {ρ : Env} (h : t < m) : frz m ρ t = ρ t := by simp [frz, ofT, toT, h]
theorem E_drawn {keep : Keep} {n m k id : Nat} {l : List DS} (h : compile P ops = some (k, l)) {ρ : Env} {σ : Heap} {K : AExit → Env → Heap → Option α} :
    kCode P call keep n m (.region id ops true) none ρ σ K = kDr P call m ops σ.size l (frz m ρ) (reserve σ k) (fun _ => none) (K .normal) := by
  have hm : (toT m ρ).size = m := by simp [toT]
  have := aDrawn_kDr (call := call) h (toT m ρ) σ (K .normal)
  rw [hm] at this
  unfold frz
  rw [← this]
  rfl
end Go.Abs
