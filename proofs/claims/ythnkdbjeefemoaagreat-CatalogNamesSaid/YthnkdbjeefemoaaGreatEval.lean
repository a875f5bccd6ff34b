/-
  Steps for simp: code, operations.
-/
import Derived.Test.YthnkdbjeefemoaaGreatLim
set_option linter.unusedVariables false
set_option linter.unusedSimpArgs false
namespace Go.Abs
open Go Go.RowKit

attribute [congr] bindK_congr ifK_congr

/-- by a value that is a test -/
def condK {β : Type} (v : Value) (x y : Option β) : Option β :=
  match v with
  | .bool t => ifK t x y
  | _ => none
@[congr] theorem condK_congr {β : Type} {v w : Value} {x y : Option β} (h : v = w) : condK v x y = condK w x y := by rw [h]
theorem ifK_not {β : Type} {b : Bool} {x y : Option β} : ifK (!b) x y = ifK b y x := by cases b <;> rfl
theorem condK_bool {β : Type} (t : Bool) (x y : Option β) : condK (.bool t) x y = ifK t x y := rfl

def nilChk (v : Value) : Option Value :=
  match v with
  | .pointer (some a) => some (.pointer (some a))
  | .func (.func f) p q => some (.func (.func f) p q)
  | _ => none
theorem nilChk_ptr {a : Addr} : nilChk (.pointer (some a)) = some (.pointer (some a)) := rfl
theorem nilChk_func {f : FuncId} {p q : Array Value} : nilChk (.func (.func f) p q) = some (.func (.func f) p q) := rfl
def pickV (c x y : Value) : Option Value :=
  match c with
  | .bool t => some (if t then x else y)
  | _ => none
theorem pickV_true {x y : Value} : pickV (.bool true) x y = some x := rfl
theorem pickV_false {x y : Value} : pickV (.bool false) x y = some y := rfl
def extr (v : Value) (i : Nat) : Option Value :=
  match v with
  | .tuple vs => vs[i]?
  | _ => none
theorem extr_zero {l : List Value} {v : Value} : extr (.tuple (List.toArray (v :: l))) 0 = some v := by simp [extr]
theorem extr_one {l : List Value} {v w : Value} : extr (.tuple (List.toArray (v :: w :: l))) 1 = some w := by simp [extr]
theorem extr_two {l : List Value} {v w x : Value} : extr (.tuple (List.toArray (v :: w :: x :: l))) 2 = some x := by simp [extr]

section
variable {α : Type} (P : Program) (call : CallFn) (keep : Keep) (n m : Nat)

/-- what follows an operation -/
def contK (ops : Array Oper) (os : List Oper) (ρ : Env) (d : Option Tmp) (σ : Heap) (K : Env → Heap → Option α) (v : Value) : Option α := kOps P call m ops os (updO m ρ d v) σ K
def contS (ops : Array Oper) (os : List Oper) (ρ : Env) (d : Option Tmp) (K : Env → Heap → Option α) (σ : Heap) : Option α := kOps P call m ops os (updO m ρ d undef) σ K
def contR (ops : Array Oper) (os : List Oper) (ρ : Env) (d : Option Tmp) (K : Env → Heap → Option α) (r : Value × Heap) : Option α := kOps P call m ops os (updO m ρ d r.1) r.2 K
def contM (ops : Array Oper) (os : List Oper) (ρ : Env) (d : Option Tmp) (σ : Heap) (K : Env → Heap → Option α) (r : AObj × (Nat → Value)) : Option α := kOps P call m ops os (updO m ρ d (r.2 σ.size)) (σ.push (some r.1)) K
/-- a way that is not taken yet -/
def kHold (c : Code) (ρ : Env) (σ : Heap) (K : AExit → Env → Heap → Option α) : Option α := kCode P call keep n m c none ρ σ K
def seqK (b : Code) (K : AExit → Env → Heap → Option α) : AExit → Env → Heap → Option α
  | .normal, ρ, σ => kCode P call keep n m b none ρ σ K
  | e, ρ, σ => K e ρ σ
def blkK (id : Nat) (K : AExit → Env → Heap → Option α) : AExit → Env → Heap → Option α
  | .exit i, ρ, σ => ifK (decide (i = id)) (K .normal ρ σ) (K (.exit i) ρ σ)
  | e, ρ, σ => K e ρ σ
def endK : AExit → Env → Heap → Option (AExit × Env × Heap) := fun e ρ σ => some (e, ρ, σ)
def loopK (c : Code) (L L' : List Nat) (ρ : Env) (σ : Heap) (K : AExit → Env → Heap → Option α) : Option α :=
  bindK (loopE m (fun ρ σ => kCode P call keep n m c none ρ σ endK) L n ρ σ) fun r => K r.1 (restrictE m L' r.2.1) r.2.2
def retK (fn : Func) : AExit → Env → Heap → Option (Value × Heap)
  | .normal, ρ, σ => kResults P fn ρ σ fn.results.toList []
  | .ret, ρ, σ => kResults P fn ρ σ fn.results.toList []
  | _, _, _ => none
end

section
variable {α : Type} {P : Program} {call : CallFn} {keep : Keep} {n m : Nat} {ρ : Env} {σ : Heap}

/-! Code -/
theorem E_body {fn : Func} {c : Code} (h : fn.body = some c) {args : List Value} : kBody P call keep n fn args σ = kCode P call keep n fn.ntmps c none (argEnv args fn.ntmps) σ (retK P fn) := by
  unfold kBody
  rw [h]
  simp only
  congr 1
  funext e ρ σ'
  cases e <;> rfl
theorem E_skip {K : AExit → Env → Heap → Option α} : kCode P call keep n m .skip none ρ σ K = K .normal ρ σ := rfl
theorem E_ret {K : AExit → Env → Heap → Option α} : kCode P call keep n m .ret none ρ σ K = K .ret ρ σ := rfl
theorem E_exit {i : Nat} {K : AExit → Env → Heap → Option α} : kCode P call keep n m (.exit i) none ρ σ K = K (.exit i) ρ σ := rfl
theorem E_seq {a b : Code} {K : AExit → Env → Heap → Option α} : kCode P call keep n m (.seq a b) none ρ σ K = kCode P call keep n m a none ρ σ (seqK P call keep n m b K) := by
  simp only [kCode]
  congr 1
  funext e ρ σ
  cases e <;> rfl
theorem E_block {i : Nat} {a : Code} {K : AExit → Env → Heap → Option α} : kCode P call keep n m (.block i a) none ρ σ K = kCode P call keep n m a none ρ σ (blkK i K) := by
  simp only [kCode]
  congr 1
  funext e ρ σ
  cases e <;> rfl
theorem E_cond {c : Operand} {x y : Code} {K : AExit → Env → Heap → Option α} : kCode P call keep n m (.cond c x y) none ρ σ K = condK (evE ρ c) (kHold P call keep n m x ρ σ K) (kHold P call keep n m y ρ σ K) := by
  simp only [kCode]
  unfold condK kHold
  cases evE ρ c <;> rfl
theorem E_region {id : Nat} {ops : List Oper} {K : AExit → Env → Heap → Option α} : kCode P call keep n m (.region id ops.toArray false) none ρ σ K = kOps P call m ops.toArray ops ρ σ (K .normal) := by
  simp [kCode]
theorem E_loop {c : Code} {L L' : List Nat} {K : AExit → Env → Heap → Option α} (h : keep (firstRegion c) = some (L, L')) : kCode P call keep n m (.loop c) none ρ σ K = loopK P call keep n m c L L' ρ σ K := by
  simp only [kCode, h, loopK]
  rfl
theorem K_seq {b : Code} {K : AExit → Env → Heap → Option α} : seqK P call keep n m b K .normal ρ σ = kCode P call keep n m b none ρ σ K := rfl
theorem K_seq_exit {b : Code} {i : Nat} {K : AExit → Env → Heap → Option α} : seqK P call keep n m b K (.exit i) ρ σ = K (.exit i) ρ σ := rfl
theorem K_seq_ret {b : Code} {K : AExit → Env → Heap → Option α} : seqK P call keep n m b K .ret ρ σ = K .ret ρ σ := rfl
theorem K_blk {i : Nat} {K : AExit → Env → Heap → Option α} : blkK i K .normal ρ σ = K .normal ρ σ := rfl
theorem K_blk_exit {i : Nat} {K : AExit → Env → Heap → Option α} : blkK i K (.exit i) ρ σ = K .normal ρ σ := by simp [blkK, ifK]
theorem K_blk_exit_ne {i j : Nat} (h : j ≠ i) {K : AExit → Env → Heap → Option α} : blkK i K (.exit j) ρ σ = K (.exit j) ρ σ := by simp [blkK, ifK, h]
theorem K_blk_ret {i : Nat} {K : AExit → Env → Heap → Option α} : blkK i K .ret ρ σ = K .ret ρ σ := rfl
theorem K_ret {fn : Func} : retK P fn .ret ρ σ = kResults P fn ρ σ fn.results.toList [] := rfl
theorem K_ret_normal {fn : Func} : retK P fn .normal ρ σ = kResults P fn ρ σ fn.results.toList [] := rfl
theorem K_end {e : AExit} : endK e ρ σ = some (e, ρ, σ) := rfl

theorem R_one {fn : Func} {v : Value} : kResults P fn ρ σ [] [v] = some (v, σ) := rfl
theorem R_none {fn : Func} : kResults P fn ρ σ [] [] = some (.tuple #[], σ) := rfl
theorem R_two {fn : Func} {v w : Value} : kResults P fn ρ σ [] [v, w] = some (.tuple #[v, w], σ) := rfl
theorem R_three {fn : Func} {v w x : Value} : kResults P fn ρ σ [] [v, w, x] = some (.tuple #[v, w, x], σ) := rfl
theorem R_tmp {fn : Func} {t : Nat} {rs : List ResultVar} {vs : List Value} : kResults P fn ρ σ (.tmp t :: rs) vs = kResults P fn ρ σ rs (vs ++ [ρ t]) := rfl
theorem K_retA {fn : Func} {rs : List ResultVar} (h : fn.results = rs.toArray) : retK P fn .ret ρ σ = kResults P fn ρ σ rs [] := by rw [K_ret, h]
theorem K_retB {fn : Func} {rs : List ResultVar} (h : fn.results = rs.toArray) : retK P fn .normal ρ σ = kResults P fn ρ σ rs [] := by rw [K_ret_normal, h]

/-! Variables -/
theorem V_same {d : Nat} {v : Value} (h : d < m) : upd m ρ d v d = v := by simp [upd, h]
theorem V_ne {d t : Nat} {v : Value} (h : t ≠ d) : upd m ρ d v t = ρ t := by simp [upd, h]
theorem V_some {d : Nat} {v : Value} : updO m ρ (some d) v = upd m ρ d v := rfl
theorem V_none {v : Value} : updO m ρ none v = ρ := rfl
theorem V_tmp {t : Nat} : evE ρ (.tmp t) = ρ t := rfl
theorem V_const {v : Value} (h : plainV v = true) : evE ρ (.const v) = v := by simp [evE, h]
theorem V_int {k : IntKind} {a : Int} : evE ρ (.const (.int k a)) = .int k a := rfl
theorem V_bool {b : Bool} : evE ρ (.const (.bool b)) = .bool b := rfl
theorem V_string {b : ByteArray} : evE ρ (.const (.string b)) = .string b := rfl
theorem V_nilptr : evE ρ (.const (.pointer none)) = .pointer none := rfl
theorem V_nilslice : evE ρ (.const (.slice none 0 0)) = .slice none 0 0 := rfl
theorem V_nilmap : evE ρ (.const (.map none)) = .map none := rfl
theorem V_func {f : FuncId} : evE ρ (.func f) = .func (.func f) #[] #[] := rfl
theorem V_arg {args : List Value} {m t : Nat} : argEnv args m t = (args[t]?).getD undef := rfl

/-! Operations -/
section
variable {ops : Array Oper} {os : List Oper} {d : Option Tmp} {ty : TypeId} {pos : String} {af : Array Edge} {K : Env → Heap → Option α}
theorem O_nil : kOps P call m ops [] ρ σ K = K ρ σ := rfl
theorem O_move {x : Operand} : kOps P call m ops (⟨d, .move x, ty, pos, af, none⟩ :: os) ρ σ K = bindK (some (evE ρ x)) (contK P call m ops os ρ d σ K) := rfl
theorem O_assign {x : Operand} : kOps P call m ops (⟨d, .assign x, ty, pos, af, none⟩ :: os) ρ σ K = bindK (some (evE ρ x)) (contK P call m ops os ρ d σ K) := rfl
theorem O_bin {b : BinOp} {t t' : TypeId} {x y : Operand} : kOps P call m ops (⟨d, .binOp b t x y t', ty, pos, af, none⟩ :: os) ρ σ K = bindK (aBin P b t (evE ρ x) (evE ρ y)) (contK P call m ops os ρ d σ K) := rfl
theorem O_un {u : UnOp} {t : TypeId} {x : Operand} : kOps P call m ops (⟨d, .unOp u t x, ty, pos, af, none⟩ :: os) ρ σ K = bindK (aUn u (evE ρ x)) (contK P call m ops os ρ d σ K) := rfl
theorem O_load {t : TypeId} {x : Operand} : kOps P call m ops (⟨d, .load t x, ty, pos, af, none⟩ :: os) ρ σ K = bindK (aLoad P t (evE ρ x) σ) (contK P call m ops os ρ d σ K) := rfl
theorem O_store {t : TypeId} {a v : Operand} : kOps P call m ops (⟨d, .store t a v, ty, pos, af, none⟩ :: os) ρ σ K = bindK (aStore P t (evE ρ a) (evE ρ v) σ) (contS P call m ops os ρ d K) := by
  show bindK ((aStore P t (evE ρ a) (evE ρ v) σ).map fun σ' => (undef, σ')) _ = _
  cases aStore P t (evE ρ a) (evE ρ v) σ <;> rfl
theorem O_pick {c x y : Operand} : kOps P call m ops (⟨d, .pick c x y, ty, pos, af, none⟩ :: os) ρ σ K = bindK (pickV (evE ρ c) (evE ρ x) (evE ρ y)) (contK P call m ops os ρ d σ K) := rfl
theorem O_fieldAddr {t : TypeId} {x : Operand} {f : Nat} : kOps P call m ops (⟨d, .fieldAddr t x f, ty, pos, af, none⟩ :: os) ρ σ K = bindK (aFieldAddr P t (evE ρ x) f) (contK P call m ops os ρ d σ K) := rfl
theorem O_field {t : TypeId} {x : Operand} {f : Nat} : kOps P call m ops (⟨d, .field t x f, ty, pos, af, none⟩ :: os) ρ σ K = bindK (aField P t (evE ρ x) f) (contK P call m ops os ρ d σ K) := rfl
theorem O_indexAddr {t : TypeId} {x i : Operand} : kOps P call m ops (⟨d, .indexAddr t x i, ty, pos, af, none⟩ :: os) ρ σ K = bindK (aIndexAddr P t (evE ρ x) (evE ρ i)) (contK P call m ops os ρ d σ K) := rfl
theorem O_index {t : TypeId} {x i : Operand} : kOps P call m ops (⟨d, .index t x i, ty, pos, af, none⟩ :: os) ρ σ K = bindK (aIndex P t (evE ρ x) (evE ρ i)) (contK P call m ops os ρ d σ K) := rfl
theorem O_slice {t : TypeId} {x : Operand} {lo hi mx : Option Operand} : kOps P call m ops (⟨d, .slice t x lo hi mx, ty, pos, af, none⟩ :: os) ρ σ K = bindK (aSlice P t (evE ρ x) (lo.map (evE ρ)) (hi.map (evE ρ)) (mx.map (evE ρ))) (contK P call m ops os ρ d σ K) := rfl
theorem O_nilCheck {x : Operand} : kOps P call m ops (⟨d, .nilCheck x, ty, pos, af, none⟩ :: os) ρ σ K = bindK (nilChk (evE ρ x)) (contK P call m ops os ρ d σ K) := rfl
theorem O_extract {x : Operand} {i : Nat} : kOps P call m ops (⟨d, .extract x i, ty, pos, af, none⟩ :: os) ρ σ K = bindK (extr (evE ρ x) i) (contK P call m ops os ρ d σ K) := rfl
theorem O_build {t : TypeId} {parts : Array (Nat × Operand)} : kOps P call m ops (⟨d, .build t parts, ty, pos, af, none⟩ :: os) ρ σ K = bindK (aBuild P t (parts.toList.map fun p => (p.1, evE ρ p.2))) (contK P call m ops os ρ d σ K) := rfl
theorem O_conv_int {s t : TypeId} {x : Operand} {k k' : IntKind} (hs : P.underlying s = some (.int k)) (ht : P.underlying t = some (.int k')) :
    kOps P call m ops (⟨d, .convert s t x, ty, pos, af, none⟩ :: os) ρ σ K = bindK (aConv P s t (evE ρ x)) (contK P call m ops os ρ d σ K) := by
  have : cls P (.convert s t x) = .pure := by simp [cls, hs, ht]
  simp only [kOps, guardK, kOp, this]; rfl
theorem O_len_slice {t e : TypeId} {x : Operand} (h : P.underlying t = some (.slice e)) :
    kOps P call m ops (⟨d, .call { callee := .builtin .len, args := #[x], argTypes := #[t] }, ty, pos, af, none⟩ :: os) ρ σ K = bindK (aBuiltin P .len #[t] #[evE ρ x]) (contK P call m ops os ρ d σ K) := by
  have : cls P (.call { callee := .builtin .len, args := #[x], argTypes := #[t] }) = .pure := by simp [cls, h]
  simp only [kOps, guardK, kOp, this]
  show bindK (aBuiltin P .len #[t] (#[x].map (evE ρ))) _ = _
  simp
  rfl
theorem O_len_string {t : TypeId} {x : Operand} (h : P.underlying t = some .string) :
    kOps P call m ops (⟨d, .call { callee := .builtin .len, args := #[x], argTypes := #[t] }, ty, pos, af, none⟩ :: os) ρ σ K = bindK (aBuiltin P .len #[t] #[evE ρ x]) (contK P call m ops os ρ d σ K) := by
  have : cls P (.call { callee := .builtin .len, args := #[x], argTypes := #[t] }) = .pure := by simp [cls, h]
  simp only [kOps, guardK, kOp, this]
  show bindK (aBuiltin P .len #[t] (#[x].map (evE ρ))) _ = _
  simp
  rfl
theorem O_call {f : FuncId} {args : List Operand} {tys : Array TypeId} : kOps P call m ops (⟨d, .call { callee := .value (.func f), args := args.toArray, argTypes := tys }, ty, pos, af, none⟩ :: os) ρ σ K =
    bindK (call f (args.map (evE ρ)).toArray σ) (contR P call m ops os ρ d K) := by
  show bindK (call f (#[] ++ args.toArray.map (evE ρ) ++ #[]) σ) _ = _
  simp
  rfl
theorem O_append {s x : Operand} {tys : Array TypeId} : kOps P call m ops (⟨d, .call { callee := .builtin .append, args := #[s, x], argTypes := tys }, ty, pos, af, none⟩ :: os) ρ σ K =
    bindK (aEff P call (.call { callee := .builtin .append, args := #[s, x], argTypes := tys }) (evE ρ) σ) (contR P call m ops os ρ d K) := rfl
theorem O_alloc {t : TypeId} : kOps P call m ops (⟨d, .alloc t, ty, pos, af, none⟩ :: os) ρ σ K = bindK (aMake P (.alloc t) (evE ρ)) (contM P call m ops os ρ d σ K) := rfl
theorem O_box {t : TypeId} {x : Operand} : kOps P call m ops (⟨d, .box t x, ty, pos, af, none⟩ :: os) ρ σ K = bindK (aMake P (.box t x) (evE ρ)) (contM P call m ops os ρ d σ K) := rfl
theorem O_makeMap {t : TypeId} {x : Option Operand} : kOps P call m ops (⟨d, .makeMap t x, ty, pos, af, none⟩ :: os) ρ σ K = bindK (aMake P (.makeMap t x) (evE ρ)) (contM P call m ops os ρ d σ K) := rfl
theorem O_lookup {t : TypeId} {x y : Operand} {b : Bool} : kOps P call m ops (⟨d, .lookup t x y b, ty, pos, af, none⟩ :: os) ρ σ K = bindK (aLookup P t (evE ρ x) (evE ρ y) b σ) (contK P call m ops os ρ d σ K) := rfl
theorem O_mapUpdate {t : TypeId} {x k v : Operand} : kOps P call m ops (⟨d, .mapUpdate t x k v, ty, pos, af, none⟩ :: os) ρ σ K = bindK (aMapUpdate P t (evE ρ x) (evE ρ k) (evE ρ v) σ) (contS P call m ops os ρ d K) := by
  show bindK ((aMapUpdate P t (evE ρ x) (evE ρ k) (evE ρ v) σ).map fun σ' => (undef, σ')) _ = _
  cases aMapUpdate P t (evE ρ x) (evE ρ k) (evE ρ v) σ <;> rfl
theorem O_buildSlice {t : TypeId} {l : Nat} {parts : Array (Nat × Operand)} : kOps P call m ops (⟨d, .buildSlice t l parts, ty, pos, af, none⟩ :: os) ρ σ K = bindK (aMake P (.buildSlice t l parts) (evE ρ)) (contM P call m ops os ρ d σ K) := rfl
theorem O_makeSlice {t : TypeId} {l c : Operand} : kOps P call m ops (⟨d, .makeSlice t l c, ty, pos, af, none⟩ :: os) ρ σ K = bindK (aMake P (.makeSlice t l c) (evE ρ)) (contM P call m ops os ρ d σ K) := rfl
end

section
variable {ops : Array Oper} {os : List Oper} {d : Option Tmp} {K : Env → Heap → Option α} {K' : AExit → Env → Heap → Option α} {c : Code} {x : Option α}
theorem N_k {v : Value} : bindK (some v) (contK P call m ops os ρ d σ K) = kOps P call m ops os (updO m ρ d v) σ K := rfl
theorem N_s : bindK (some σ) (contS P call m ops os ρ d K) = kOps P call m ops os (updO m ρ d undef) σ K := rfl
theorem N_r {v : Value} : bindK (some (v, σ)) (contR P call m ops os ρ d K) = kOps P call m ops os (updO m ρ d v) σ K := rfl
theorem N_r' {r : Value × Heap} : bindK (some r) (contR P call m ops os ρ d K) = kOps P call m ops os (updO m ρ d r.1) r.2 K := rfl
theorem N_m {o : AObj} {f : Nat → Value} : bindK (some (o, f)) (contM P call m ops os ρ d σ K) = kOps P call m ops os (updO m ρ d (f σ.size)) (σ.push (some o)) K := rfl
theorem N_ck {v : Value} : contK P call m ops os ρ d σ K v = kOps P call m ops os (updO m ρ d v) σ K := rfl
theorem N_cs : contS P call m ops os ρ d K σ = kOps P call m ops os (updO m ρ d undef) σ K := rfl
theorem N_cr {v : Value} : contR P call m ops os ρ d K (v, σ) = kOps P call m ops os (updO m ρ d v) σ K := rfl
theorem N_true : ifK true (kHold P call keep n m c ρ σ K') x = kCode P call keep n m c none ρ σ K' := rfl
theorem N_false : ifK false x (kHold P call keep n m c ρ σ K') = kCode P call keep n m c none ρ σ K' := rfl
theorem N_hold : kHold P call keep n m c ρ σ K' = kCode P call keep n m c none ρ σ K' := rfl
end

/-! Numbers -/
section
variable {t : TypeId} {k k' : IntKind} {a b : Int}
theorem B_add : aBin P .add t (.int k a) (.int k b) = some (.int k (k.wrap (a + b))) := by simp [aBin, binOp, Op.intArith]; rfl
theorem B_sub : aBin P .sub t (.int k a) (.int k b) = some (.int k (k.wrap (a - b))) := by simp [aBin, binOp, Op.intArith]; rfl
theorem B_mul : aBin P .mul t (.int k a) (.int k b) = some (.int k (k.wrap (a * b))) := by simp [aBin, binOp, Op.intArith]; rfl
theorem B_quo (h : b ≠ 0) : aBin P .quo t (.int k a) (.int k b) = some (.int k (k.wrap (a.tdiv b))) := by simp [aBin, binOp, Op.intDiv, h]; rfl
theorem B_rem (h : b ≠ 0) : aBin P .rem t (.int k a) (.int k b) = some (.int k (a.tmod b)) := by simp [aBin, binOp, Op.intDiv, h]; rfl
theorem B_and : aBin P .and t (.int k a) (.int k b) = some (.int k (k.wrap (BitVec.ofInt k.bits a &&& BitVec.ofInt k.bits b).toNat)) := by simp [aBin, binOp, Op.intBits]; rfl
theorem B_or : aBin P .or t (.int k a) (.int k b) = some (.int k (k.wrap (BitVec.ofInt k.bits a ||| BitVec.ofInt k.bits b).toNat)) := by simp [aBin, binOp, Op.intBits]; rfl
theorem B_xor : aBin P .xor t (.int k a) (.int k b) = some (.int k (k.wrap (BitVec.ofInt k.bits a ^^^ BitVec.ofInt k.bits b).toNat)) := by simp [aBin, binOp, Op.intBits]; rfl
theorem B_shl (h : 0 ≤ b) : aBin P .shl t (.int k a) (.int k' b) = some (.int k (k.wrap (a * 2 ^ min b.toNat k.bits))) := by simp [aBin, binOp, Op.shift, Int.not_lt.2 h]; rfl
theorem B_shr (h : 0 ≤ b) : aBin P .shr t (.int k a) (.int k' b) = some (.int k (a.fdiv (2 ^ min b.toNat k.bits))) := by simp [aBin, binOp, Op.shift, Int.not_lt.2 h]; rfl
theorem B_eql : aBin P .eql t (.int k a) (.int k b) = some (.bool (decide (a = b))) := by simp [aBin, binOp, Op.intCmp]; rfl
theorem B_neq : aBin P .neq t (.int k a) (.int k b) = some (.bool (decide (a ≠ b))) := by
  simp [aBin, binOp, Op.intCmp, bne]; rfl
theorem B_lss : aBin P .lss t (.int k a) (.int k b) = some (.bool (decide (a < b))) := by simp [aBin, binOp, Op.intCmp]; rfl
theorem B_leq : aBin P .leq t (.int k a) (.int k b) = some (.bool (decide (a ≤ b))) := by simp [aBin, binOp, Op.intCmp]; rfl
theorem B_gtr : aBin P .gtr t (.int k a) (.int k b) = some (.bool (decide (b < a))) := by simp [aBin, binOp, Op.intCmp]; rfl
theorem B_geq : aBin P .geq t (.int k a) (.int k b) = some (.bool (decide (b ≤ a))) := by simp [aBin, binOp, Op.intCmp]; rfl
theorem U_not {b : Bool} : aUn .not (.bool b) = some (.bool (!b)) := rfl
theorem C_int {s t : TypeId} {k k' : IntKind} {n : Int} {k'' : IntKind} (hs : P.underlying s = some (.int k'')) (ht : P.underlying t = some (.int k')) : aConv P s t (.int k n) = some (.int k' (k'.wrap n)) := by simp [aConv, hs, ht]
end
end
end Go.Abs
