/-
  From a told call to the model's call.
-/
import Derived.Test.YthnkdbjeefemoaaGreatPrimOk
import Derived.Below
import Derived.KernelRfl
set_option linter.unusedVariables false
set_option linter.unusedSimpArgs false
namespace Go.Abs
open Go Go.RowKit Go.Proofs

theorem zeroB : (Tryz.prog.types.all fun i => match i.zero with | some z => z.cells.all plainZ | none => true) = true := by kernel_rfl
theorem namesB : (Tryz.prog.funcs.all fun fn => !(fn.name == "runtime.NumGoroutine")) = true := by kernel_rfl
theorem mixedB : Tryz.prog.follows .mixedOrders = true := by kernel_rfl
theorem zeroOk : ZeroOk Tryz.prog := by
  intro t i z hi hz
  unfold tinfo at hi
  split at hi
  · rename_i hlt
    have h1 : Tryz.prog.types[t]? = some i := by
      have : Tryz.prog.info? t = if t < Tryz.prog.types.size then Tryz.prog.types[t]? else Made.infoAt Tryz.prog.toTables Made.depth t := rfl
      rw [this, if_pos hlt] at hi
      exact hi
    have := Array.all_eq_true_iff_forall_mem.1 zeroB i (Array.mem_of_getElem? h1)
    rw [hz] at this
    exact this
  · cases hi
theorem good : Good Tryz.prog where
  zero := zeroOk
  names := by
    intro f fn hf
    have := Array.all_eq_true_iff_forall_mem.1 namesB fn (Array.mem_of_getElem? hf)
    simpa using this
  mixed := mixedB
theorem prims : PrimsOk Tryz.prog primT := by
  intro f p h args σ r σ' hr
  unfold primT at h
  split at h
  · rename_i hf
    subst hf
    obtain rfl := Option.some.inj h
    exact names_ok hr
  · cases h

theorem calls_of_wp {f : FuncId} {args args' : Array Value} {σ : Heap} (h : wp (Call f args σ) fun r => r.1 = .bool true) (hro : ∀ b, ¬ wr σ b) {μ : Mu} {w : World} (hrel : Rel μ σ w) (ha : VA μ args args') :
    Calls Tryz.prog f args' w fun e w' => e = .returned (.bool true) ∧ Below w.heap.size w w' := by
  obtain ⟨⟨r, σ'⟩, h1, rfl⟩ := h
  obtain ⟨n, hn⟩ := lim_aFunc h1
  have hc := (aFunc_sound good prims n _ _ _ _ _ hn).calls μ w args' hrel ha
  refine hc.mono ?_
  rintro e w' ⟨v, μ', rfl, hv, hr, hx⟩
  refine ⟨?_, hx.os, hx.tape, hx.output, hx.hs, fun k hk => hx.frame k hk fun b e hb => absurd hb (hro b)⟩
  cases hv
  rfl
/-- nothing at all in memory -/
theorem rel_empty (w : World) : Rel (fun _ => none) #[] w where
  dom := by intro b e h; cases h
  row := by intro b r h; simp [row?] at h
  map := by intro b es c h; simp [map?] at h
  sep := by intro b b' e e' _ _ _ h; cases h
theorem wr_empty (b : Nat) : ¬ wr #[] b := by
  rintro (⟨r, h, _⟩ | ⟨m, h⟩)
  · simp [row?] at h
  · simp [map?] at h
end Go.Abs
