/-
  Operations at the program's types. Printed by wip/gen.py.
-/
import Derived.Test.YthnkdbjeefemoaaGreatOps
import Derived.Test.YthnkdbjeefemoaaGreatFill
import Derived.KernelRfl
import Derived.Test.YthnkdbjeefemoaaGreatWp
set_option linter.unusedVariables false
namespace Go.Abs
open Go Go.RowKit Go.Proofs
theorem inf_3 : Tryz.prog.info? 3 = some Tryz.t3 := info_of_type Tryz.type3
theorem inf_4 : Tryz.prog.info? 4 = some Tryz.t4 := info_of_type Tryz.type4
theorem inf_5 : Tryz.prog.info? 5 = some Tryz.t5 := info_of_type Tryz.type5
theorem inf_9 : Tryz.prog.info? 9 = some Tryz.t9 := info_of_type Tryz.type9
theorem inf_22 : Tryz.prog.info? 22 = some Tryz.t22 := info_of_type Tryz.type22
theorem inf_27 : Tryz.prog.info? 27 = some Tryz.t27 := info_of_type Tryz.type27
theorem inf_29 : Tryz.prog.info? 29 = some Tryz.t29 := info_of_type Tryz.type29
theorem inf_33 : Tryz.prog.info? 33 = some Tryz.t33 := info_of_type Tryz.type33
theorem inf_45 : Tryz.prog.info? 45 = some Tryz.t45 := info_of_type Tryz.type45
theorem inf_51 : Tryz.prog.info? 51 = some Tryz.t51 := info_of_type Tryz.type51
theorem inf_53 : Tryz.prog.info? 53 = some Tryz.t53 := info_of_type Tryz.type53
theorem inf_59 : Tryz.prog.info? 59 = some Tryz.t59 := info_of_type Tryz.type59
theorem inf_60 : Tryz.prog.info? 60 = some Tryz.t60 := info_of_type Tryz.type60
theorem inf_62 : Tryz.prog.info? 62 = some Tryz.t62 := info_of_type Tryz.type62
theorem inf_65 : Tryz.prog.info? 65 = some Tryz.t65 := info_of_type Tryz.type65
theorem inf_69 : Tryz.prog.info? 69 = some Tryz.t69 := info_of_type Tryz.type69
theorem inf_78 : Tryz.prog.info? 78 = some Tryz.t78 := info_of_type Tryz.type78
theorem inf_82 : Tryz.prog.info? 82 = some Tryz.t82 := info_of_type Tryz.type82
theorem inf_93 : Tryz.prog.info? 93 = some Tryz.t93 := info_of_type Tryz.type93
theorem inf_106 : Tryz.prog.info? 106 = some Tryz.t106 := info_of_type Tryz.type106
theorem inf_109 : Tryz.prog.info? 109 = some Tryz.t109 := info_of_type Tryz.type109
theorem inf_114 : Tryz.prog.info? 114 = some Tryz.t114 := info_of_type Tryz.type114
theorem inf_115 : Tryz.prog.info? 115 = some Tryz.t115 := info_of_type Tryz.type115
theorem inf_117 : Tryz.prog.info? 117 = some Tryz.t117 := info_of_type Tryz.type117
theorem inf_122 : Tryz.prog.info? 122 = some Tryz.t122 := info_of_type Tryz.type122
theorem inf_124 : Tryz.prog.info? 124 = some Tryz.t124 := info_of_type Tryz.type124
theorem inf_130 : Tryz.prog.info? 130 = some Tryz.t130 := info_of_type Tryz.type130
theorem inf_136 : Tryz.prog.info? 136 = some Tryz.t136 := info_of_type Tryz.type136
theorem inf_140 : Tryz.prog.info? 140 = some Tryz.t140 := info_of_type Tryz.type140
theorem inf_142 : Tryz.prog.info? 142 = some Tryz.t142 := info_of_type Tryz.type142
theorem inf_192 : Tryz.prog.info? 192 = some Tryz.t192 := info_of_type Tryz.type192
theorem inf_288 : Tryz.prog.info? 288 = some Tryz.t288 := info_of_type Tryz.type288
theorem inf_294 : Tryz.prog.info? 294 = some Tryz.t294 := info_of_type Tryz.type294
theorem inf_296 : Tryz.prog.info? 296 = some Tryz.t296 := info_of_type Tryz.type296
theorem agg_3 : isAggT Tryz.prog 3 = some false := by simp only [isAggT, Tryz.underlying3]
theorem agg_4 : isAggT Tryz.prog 4 = some false := by simp only [isAggT, Tryz.underlying4]
theorem agg_5 : isAggT Tryz.prog 5 = some false := by simp only [isAggT, Tryz.underlying5]
theorem agg_9 : isAggT Tryz.prog 9 = some false := by simp only [isAggT, Tryz.underlying9]
theorem agg_22 : isAggT Tryz.prog 22 = some false := by simp only [isAggT, Tryz.underlying22]
theorem agg_27 : isAggT Tryz.prog 27 = some false := by simp only [isAggT, Tryz.underlying27]
theorem agg_29 : isAggT Tryz.prog 29 = some false := by simp only [isAggT, Tryz.underlying29]
theorem agg_33 : isAggT Tryz.prog 33 = some false := by simp only [isAggT, Tryz.underlying33]
theorem agg_45 : isAggT Tryz.prog 45 = some true := by simp only [isAggT, Tryz.underlying45]
theorem agg_51 : isAggT Tryz.prog 51 = some false := by simp only [isAggT, Tryz.underlying51]
theorem agg_53 : isAggT Tryz.prog 53 = some true := by simp only [isAggT, Tryz.underlying53]
theorem agg_59 : isAggT Tryz.prog 59 = some false := by simp only [isAggT, Tryz.underlying59]
theorem agg_60 : isAggT Tryz.prog 60 = some false := by simp only [isAggT, Tryz.underlying60]
theorem agg_62 : isAggT Tryz.prog 62 = some true := by simp only [isAggT, Tryz.underlying62]
theorem agg_65 : isAggT Tryz.prog 65 = some false := by simp only [isAggT, Tryz.underlying65]
theorem agg_69 : isAggT Tryz.prog 69 = some false := by simp only [isAggT, Tryz.underlying69]
theorem agg_78 : isAggT Tryz.prog 78 = some true := by simp only [isAggT, Tryz.underlying78]
theorem agg_82 : isAggT Tryz.prog 82 = some false := by simp only [isAggT, Tryz.underlying82]
theorem agg_93 : isAggT Tryz.prog 93 = some false := by simp only [isAggT, Tryz.underlying93]
theorem agg_106 : isAggT Tryz.prog 106 = some false := by simp only [isAggT, Tryz.underlying106]
theorem agg_109 : isAggT Tryz.prog 109 = some false := by simp only [isAggT, Tryz.underlying109]
theorem agg_114 : isAggT Tryz.prog 114 = some false := by simp only [isAggT, Tryz.underlying114]
theorem agg_115 : isAggT Tryz.prog 115 = some false := by simp only [isAggT, Tryz.underlying115]
theorem agg_117 : isAggT Tryz.prog 117 = some true := by simp only [isAggT, Tryz.underlying117]
theorem agg_122 : isAggT Tryz.prog 122 = some false := by simp only [isAggT, Tryz.underlying122]
theorem agg_124 : isAggT Tryz.prog 124 = some true := by simp only [isAggT, Tryz.underlying124]
theorem agg_130 : isAggT Tryz.prog 130 = some true := by simp only [isAggT, Tryz.underlying130]
theorem agg_136 : isAggT Tryz.prog 136 = some false := by simp only [isAggT, Tryz.underlying136]
theorem agg_140 : isAggT Tryz.prog 140 = some false := by simp only [isAggT, Tryz.underlying140]
theorem agg_142 : isAggT Tryz.prog 142 = some false := by simp only [isAggT, Tryz.underlying142]
theorem agg_192 : isAggT Tryz.prog 192 = some false := by simp only [isAggT, Tryz.underlying192]
theorem agg_288 : isAggT Tryz.prog 288 = some false := by simp only [isAggT, Tryz.underlying288]
theorem agg_294 : isAggT Tryz.prog 294 = some false := by simp only [isAggT, Tryz.underlying294]
theorem al_117 {ρ : Operand → Value} : aMake Tryz.prog (.alloc 117) ρ = some (.row ⟨(Tryz.t117.zero.getD undef).cells, false⟩, fun b => .pointer (some ⟨b, 0, none⟩)) := g_al (tinfo_of_type Tryz.type117) rfl
theorem al_130 {ρ : Operand → Value} : aMake Tryz.prog (.alloc 130) ρ = some (.row ⟨(Tryz.t130.zero.getD undef).cells, false⟩, fun b => .pointer (some ⟨b, 0, none⟩)) := g_al (tinfo_of_type Tryz.type130) rfl
theorem al_192 {ρ : Operand → Value} : aMake Tryz.prog (.alloc 192) ρ = some (.row ⟨(Tryz.t192.zero.getD undef).cells, false⟩, fun b => .pointer (some ⟨b, 0, none⟩)) := g_al (tinfo_of_type Tryz.type192) rfl
theorem al_22 {ρ : Operand → Value} : aMake Tryz.prog (.alloc 22) ρ = some (.row ⟨(Tryz.t22.zero.getD undef).cells, false⟩, fun b => .pointer (some ⟨b, 0, none⟩)) := g_al (tinfo_of_type Tryz.type22) rfl
theorem al_270 {ρ : Operand → Value} : aMake Tryz.prog (.alloc 270) ρ = some (.row ⟨(Tryz.t270.zero.getD undef).cells, false⟩, fun b => .pointer (some ⟨b, 0, none⟩)) := g_al (tinfo_of_type Tryz.type270) rfl
theorem al_288 {ρ : Operand → Value} : aMake Tryz.prog (.alloc 288) ρ = some (.row ⟨(Tryz.t288.zero.getD undef).cells, false⟩, fun b => .pointer (some ⟨b, 0, none⟩)) := g_al (tinfo_of_type Tryz.type288) rfl
theorem al_294 {ρ : Operand → Value} : aMake Tryz.prog (.alloc 294) ρ = some (.row ⟨(Tryz.t294.zero.getD undef).cells, false⟩, fun b => .pointer (some ⟨b, 0, none⟩)) := g_al (tinfo_of_type Tryz.type294) rfl
theorem al_296 {ρ : Operand → Value} : aMake Tryz.prog (.alloc 296) ρ = some (.row ⟨(Tryz.t296.zero.getD undef).cells, false⟩, fun b => .pointer (some ⟨b, 0, none⟩)) := g_al (tinfo_of_type Tryz.type296) rfl
theorem al_3 {ρ : Operand → Value} : aMake Tryz.prog (.alloc 3) ρ = some (.row ⟨(Tryz.t3.zero.getD undef).cells, false⟩, fun b => .pointer (some ⟨b, 0, none⟩)) := g_al (tinfo_of_type Tryz.type3) rfl
theorem al_45 {ρ : Operand → Value} : aMake Tryz.prog (.alloc 45) ρ = some (.row ⟨(Tryz.t45.zero.getD undef).cells, false⟩, fun b => .pointer (some ⟨b, 0, none⟩)) := g_al (tinfo_of_type Tryz.type45) rfl
theorem al_53 {ρ : Operand → Value} : aMake Tryz.prog (.alloc 53) ρ = some (.row ⟨(Tryz.t53.zero.getD undef).cells, false⟩, fun b => .pointer (some ⟨b, 0, none⟩)) := g_al (tinfo_of_type Tryz.type53) rfl
theorem al_60 {ρ : Operand → Value} : aMake Tryz.prog (.alloc 60) ρ = some (.row ⟨(Tryz.t60.zero.getD undef).cells, false⟩, fun b => .pointer (some ⟨b, 0, none⟩)) := g_al (tinfo_of_type Tryz.type60) rfl
theorem al_62 {ρ : Operand → Value} : aMake Tryz.prog (.alloc 62) ρ = some (.row ⟨(Tryz.t62.zero.getD undef).cells, false⟩, fun b => .pointer (some ⟨b, 0, none⟩)) := g_al (tinfo_of_type Tryz.type62) rfl
theorem al_76 {ρ : Operand → Value} : aMake Tryz.prog (.alloc 76) ρ = some (.row ⟨(Tryz.t76.zero.getD undef).cells, false⟩, fun b => .pointer (some ⟨b, 0, none⟩)) := g_al (tinfo_of_type Tryz.type76) rfl
theorem al_78 {ρ : Operand → Value} : aMake Tryz.prog (.alloc 78) ρ = some (.row ⟨(Tryz.t78.zero.getD undef).cells, false⟩, fun b => .pointer (some ⟨b, 0, none⟩)) := g_al (tinfo_of_type Tryz.type78) rfl
theorem ap_101x101 {call : CallFn} {s x : Operand} {ρ : Operand → Value} {σ : Heap} : aEff Tryz.prog call (.call { callee := .builtin .append, args := #[s, x], argTypes := #[101, 101] }) ρ σ = (match ρ x with | .slice a b c => aAppend Tryz.prog 101 (ρ s) (.slice a b c) σ | _ => none) := g_app Tryz.underlying101
theorem ap_109x109 {call : CallFn} {s x : Operand} {ρ : Operand → Value} {σ : Heap} : aEff Tryz.prog call (.call { callee := .builtin .append, args := #[s, x], argTypes := #[109, 109] }) ρ σ = (match ρ x with | .slice a b c => aAppend Tryz.prog 109 (ρ s) (.slice a b c) σ | _ => none) := g_app Tryz.underlying109
theorem ap_114x114 {call : CallFn} {s x : Operand} {ρ : Operand → Value} {σ : Heap} : aEff Tryz.prog call (.call { callee := .builtin .append, args := #[s, x], argTypes := #[114, 114] }) ρ σ = (match ρ x with | .slice a b c => aAppend Tryz.prog 114 (ρ s) (.slice a b c) σ | _ => none) := g_app Tryz.underlying114
theorem ap_115x115 {call : CallFn} {s x : Operand} {ρ : Operand → Value} {σ : Heap} : aEff Tryz.prog call (.call { callee := .builtin .append, args := #[s, x], argTypes := #[115, 115] }) ρ σ = (match ρ x with | .slice a b c => aAppend Tryz.prog 115 (ρ s) (.slice a b c) σ | _ => none) := g_app Tryz.underlying115
theorem ap_136x136 {call : CallFn} {s x : Operand} {ρ : Operand → Value} {σ : Heap} : aEff Tryz.prog call (.call { callee := .builtin .append, args := #[s, x], argTypes := #[136, 136] }) ρ σ = (match ρ x with | .slice a b c => aAppend Tryz.prog 136 (ρ s) (.slice a b c) σ | _ => none) := g_app Tryz.underlying136
theorem ap_22x22 {call : CallFn} {s x : Operand} {ρ : Operand → Value} {σ : Heap} : aEff Tryz.prog call (.call { callee := .builtin .append, args := #[s, x], argTypes := #[22, 22] }) ρ σ = (match ρ x with | .slice a b c => aAppend Tryz.prog 22 (ρ s) (.slice a b c) σ | _ => none) := g_app Tryz.underlying22
theorem ap_22x9 {call : CallFn} {s x : Operand} {ρ : Operand → Value} {σ : Heap} : aEff Tryz.prog call (.call { callee := .builtin .append, args := #[s, x], argTypes := #[22, 9] }) ρ σ = (match ρ x with | .string b => aAppend Tryz.prog 22 (ρ s) (.string b) σ | _ => none) := g_apps Tryz.underlying9
theorem ap_29x29 {call : CallFn} {s x : Operand} {ρ : Operand → Value} {σ : Heap} : aEff Tryz.prog call (.call { callee := .builtin .append, args := #[s, x], argTypes := #[29, 29] }) ρ σ = (match ρ x with | .slice a b c => aAppend Tryz.prog 29 (ρ s) (.slice a b c) σ | _ => none) := g_app Tryz.underlying29
theorem ap_33x33 {call : CallFn} {s x : Operand} {ρ : Operand → Value} {σ : Heap} : aEff Tryz.prog call (.call { callee := .builtin .append, args := #[s, x], argTypes := #[33, 33] }) ρ σ = (match ρ x with | .slice a b c => aAppend Tryz.prog 33 (ρ s) (.slice a b c) σ | _ => none) := g_app Tryz.underlying33
theorem ap_43x43 {call : CallFn} {s x : Operand} {ρ : Operand → Value} {σ : Heap} : aEff Tryz.prog call (.call { callee := .builtin .append, args := #[s, x], argTypes := #[43, 43] }) ρ σ = (match ρ x with | .slice a b c => aAppend Tryz.prog 43 (ρ s) (.slice a b c) σ | _ => none) := g_app Tryz.underlying43
theorem ap_51x51 {call : CallFn} {s x : Operand} {ρ : Operand → Value} {σ : Heap} : aEff Tryz.prog call (.call { callee := .builtin .append, args := #[s, x], argTypes := #[51, 51] }) ρ σ = (match ρ x with | .slice a b c => aAppend Tryz.prog 51 (ρ s) (.slice a b c) σ | _ => none) := g_app Tryz.underlying51
theorem ap_59x59 {call : CallFn} {s x : Operand} {ρ : Operand → Value} {σ : Heap} : aEff Tryz.prog call (.call { callee := .builtin .append, args := #[s, x], argTypes := #[59, 59] }) ρ σ = (match ρ x with | .slice a b c => aAppend Tryz.prog 59 (ρ s) (.slice a b c) σ | _ => none) := g_app Tryz.underlying59
theorem ap_60x60 {call : CallFn} {s x : Operand} {ρ : Operand → Value} {σ : Heap} : aEff Tryz.prog call (.call { callee := .builtin .append, args := #[s, x], argTypes := #[60, 60] }) ρ σ = (match ρ x with | .slice a b c => aAppend Tryz.prog 60 (ρ s) (.slice a b c) σ | _ => none) := g_app Tryz.underlying60
theorem ap_69x69 {call : CallFn} {s x : Operand} {ρ : Operand → Value} {σ : Heap} : aEff Tryz.prog call (.call { callee := .builtin .append, args := #[s, x], argTypes := #[69, 69] }) ρ σ = (match ρ x with | .slice a b c => aAppend Tryz.prog 69 (ρ s) (.slice a b c) σ | _ => none) := g_app Tryz.underlying69
theorem bd111 {parts : List (Nat × Value)} : aBuild Tryz.prog 111 parts = (fillK ([(0, 1), (1, 1)].toArray[·]?) #[(Value.int IntKind.i64 0), (Value.slice none 0 0)] parts).map .agg := g_bd (tinfo_of_type Tryz.type111) Tryz.underlying111 rfl (by simp [inf_109, inf_3] <;> decide)
theorem bd117 {parts : List (Nat × Value)} : aBuild Tryz.prog 117 parts = (fillK ([(0, 1), (1, 1), (2, 1)].toArray[·]?) #[(Value.int IntKind.i64 0), (Value.slice none 0 0), (Value.slice none 0 0)] parts).map .agg := g_bd (tinfo_of_type Tryz.type117) Tryz.underlying117 rfl (by simp [inf_114, inf_115, inf_3] <;> decide)
theorem bd130 {parts : List (Nat × Value)} : aBuild Tryz.prog 130 parts = (fillK ([(0, 1), (1, 1), (2, 1)].toArray[·]?) #[(Value.int IntKind.i64 0), (Value.slice none 0 0), (Value.slice none 0 0)] parts).map .agg := g_bd (tinfo_of_type Tryz.type130) Tryz.underlying130 rfl (by simp [inf_3, inf_60, inf_69] <;> decide)
theorem bd144 {parts : List (Nat × Value)} : aBuild Tryz.prog 144 parts = (fillK ([(0, 1)].toArray[·]?) #[(Value.map none)] parts).map .agg := g_bd (tinfo_of_type Tryz.type144) Tryz.underlying144 rfl (by simp [inf_142] <;> decide)
theorem bd154 {parts : List (Nat × Value)} : aBuild Tryz.prog 154 parts = (fillK ([(0, 1), (1, 1), (2, 1), (3, 1)].toArray[·]?) #[(Value.int IntKind.i64 0), (Value.slice none 0 0), (Value.slice none 0 0), (Value.int IntKind.i64 0)] parts).map .agg := g_bd (tinfo_of_type Tryz.type154) Tryz.underlying154 rfl (by simp [inf_136, inf_3, inf_51] <;> decide)
theorem bd167 {parts : List (Nat × Value)} : aBuild Tryz.prog 167 parts = (fillK ([(0, 1), (1, 1), (2, 1)].toArray[·]?) #[(Value.slice none 0 0), (Value.int IntKind.i64 0), (Value.int IntKind.i64 0)] parts).map .agg := g_bd (tinfo_of_type Tryz.type167) Tryz.underlying167 rfl (by simp [inf_22, inf_27, inf_3] <;> decide)
theorem bd169 {parts : List (Nat × Value)} : aBuild Tryz.prog 169 parts = (fillK ([(0, 1), (1, 1), (2, 1), (3, 1), (4, 1), (5, 1), (6, 1)].toArray[·]?) #[(Value.int IntKind.i64 0), (Value.slice none 0 0), (Value.slice none 0 0), (Value.slice none 0 0), (Value.pointer none), (Value.slice none 0 0), (Value.slice none 0 0)] parts).map .agg := g_bd (tinfo_of_type Tryz.type169) Tryz.underlying169 rfl (by simp [inf_29, inf_3, inf_51, inf_59, inf_60, inf_93] <;> decide)
theorem bd175 {parts : List (Nat × Value)} : aBuild Tryz.prog 175 parts = (fillK ([(0, 1)].toArray[·]?) #[(Value.slice none 0 0)] parts).map .agg := g_bd (tinfo_of_type Tryz.type175) Tryz.underlying175 rfl (by simp [inf_29] <;> decide)
theorem bd53 {parts : List (Nat × Value)} : aBuild Tryz.prog 53 parts = (fillK ([(0, 1), (1, 1), (2, 1), (3, 1)].toArray[·]?) #[(Value.string { data := #[] }), (Value.int IntKind.i64 0), (Value.slice none 0 0), (Value.slice none 0 0)] parts).map .agg := g_bd (tinfo_of_type Tryz.type53) Tryz.underlying53 rfl (by simp [inf_3, inf_33, inf_51, inf_9] <;> decide)
theorem bd62 {parts : List (Nat × Value)} : aBuild Tryz.prog 62 parts = (fillK ([(0, 1), (1, 1), (2, 1), (3, 1)].toArray[·]?) #[(Value.int IntKind.i64 0), (Value.int IntKind.i64 0), (Value.int IntKind.i64 0), (Value.slice none 0 0)] parts).map .agg := g_bd (tinfo_of_type Tryz.type62) Tryz.underlying62 rfl (by simp [inf_3, inf_60] <;> decide)
theorem bd78 {parts : List (Nat × Value)} : aBuild Tryz.prog 78 parts = (fillK ([(0, 1), (1, 1)].toArray[·]?) #[(Value.bool false), (Value.string { data := #[] })] parts).map .agg := g_bd (tinfo_of_type Tryz.type78) Tryz.underlying78 rfl (by simp [inf_4, inf_9] <;> decide)
theorem be_4 {x y : Bool} : aBin Tryz.prog .eql 4 (.bool x) (.bool y) = some (.bool (x == y)) := g_bool_eq Tryz.underlying4
theorem bn_4 {x y : Bool} : aBin Tryz.prog .neq 4 (.bool x) (.bool y) = some (.bool (!(x == y))) := g_bool_ne Tryz.underlying4
theorem bs100n1 {x0 : Operand} {ρ : Operand → Value} : aMake Tryz.prog (.buildSlice 100 1 #[(0, x0)]) ρ = okRow (fillK (fun j => some (j * 1, 1)) #[(Value.slice none 0 0)] [(0, ρ x0)]) 1 1 := (g_bs Tryz.underlying100 (tinfo_of_type Tryz.type33) rfl rfl (by decide)).trans (by rw [show repeatCells _ _ = #[(Value.slice none 0 0)] from by kernel_rfl]; rfl)
theorem bs100n2 {x0 x1 : Operand} {ρ : Operand → Value} : aMake Tryz.prog (.buildSlice 100 2 #[(0, x0), (1, x1)]) ρ = okRow (fillK (fun j => some (j * 1, 1)) #[(Value.slice none 0 0), (Value.slice none 0 0)] [(0, ρ x0), (1, ρ x1)]) 1 2 := (g_bs Tryz.underlying100 (tinfo_of_type Tryz.type33) rfl rfl (by decide)).trans (by rw [show repeatCells _ _ = #[(Value.slice none 0 0), (Value.slice none 0 0)] from by kernel_rfl]; rfl)
theorem bs101n1 {x0 : Operand} {ρ : Operand → Value} : aMake Tryz.prog (.buildSlice 101 1 #[(0, x0)]) ρ = okRow (fillK (fun j => some (j * 4, 4)) #[(Value.int IntKind.i64 0), (Value.int IntKind.i64 0), (Value.int IntKind.i64 0), (Value.slice none 0 0)] [(0, ρ x0)]) 4 1 := (g_bs Tryz.underlying101 (tinfo_of_type Tryz.type62) rfl rfl (by decide)).trans (by rw [show repeatCells _ _ = #[(Value.int IntKind.i64 0), (Value.int IntKind.i64 0), (Value.int IntKind.i64 0), (Value.slice none 0 0)] from by kernel_rfl]; rfl)
theorem bs109n1 {x0 : Operand} {ρ : Operand → Value} : aMake Tryz.prog (.buildSlice 109 1 #[(0, x0)]) ρ = okRow (fillK (fun j => some (j * 3, 3)) #[(Value.int IntKind.i64 0), (Value.slice none 0 0), (Value.slice none 0 0)] [(0, ρ x0)]) 3 1 := (g_bs Tryz.underlying109 (tinfo_of_type Tryz.type117) rfl rfl (by decide)).trans (by rw [show repeatCells _ _ = #[(Value.int IntKind.i64 0), (Value.slice none 0 0), (Value.slice none 0 0)] from by kernel_rfl]; rfl)
theorem bs114n1 {x0 : Operand} {ρ : Operand → Value} : aMake Tryz.prog (.buildSlice 114 1 #[(0, x0)]) ρ = okRow (fillK (fun j => some (j * 3, 3)) #[(Value.int IntKind.i64 0), (Value.slice none 0 0), (Value.slice none 0 0)] [(0, ρ x0)]) 3 1 := (g_bs Tryz.underlying114 (tinfo_of_type Tryz.type130) rfl rfl (by decide)).trans (by rw [show repeatCells _ _ = #[(Value.int IntKind.i64 0), (Value.slice none 0 0), (Value.slice none 0 0)] from by kernel_rfl]; rfl)
theorem bs115n1 {x0 : Operand} {ρ : Operand → Value} : aMake Tryz.prog (.buildSlice 115 1 #[(0, x0)]) ρ = okRow (fillK (fun j => some (j * 1, 1)) #[(Value.pointer none)] [(0, ρ x0)]) 1 1 := (g_bs Tryz.underlying115 (tinfo_of_type Tryz.type82) rfl rfl (by decide)).trans (by rw [show repeatCells _ _ = #[(Value.pointer none)] from by kernel_rfl]; rfl)
theorem bs136n0 {ρ : Operand → Value} : aMake Tryz.prog (.buildSlice 136 0 #[]) ρ = okRow (fillK (fun j => some (j * 1, 1)) #[] []) 1 0 := (g_bs Tryz.underlying136 (tinfo_of_type Tryz.type106) rfl rfl (by decide)).trans (by rw [show repeatCells _ _ = #[] from by kernel_rfl]; rfl)
theorem bs136n1 {x0 : Operand} {ρ : Operand → Value} : aMake Tryz.prog (.buildSlice 136 1 #[(0, x0)]) ρ = okRow (fillK (fun j => some (j * 1, 1)) #[(Value.pointer none)] [(0, ρ x0)]) 1 1 := (g_bs Tryz.underlying136 (tinfo_of_type Tryz.type106) rfl rfl (by decide)).trans (by rw [show repeatCells _ _ = #[(Value.pointer none)] from by kernel_rfl]; rfl)
theorem bs22n0 {ρ : Operand → Value} : aMake Tryz.prog (.buildSlice 22 0 #[]) ρ = okRow (fillK (fun j => some (j * 1, 1)) #[] []) 1 0 := (g_bs Tryz.underlying22 (tinfo_of_type Tryz.type5) rfl rfl (by decide)).trans (by rw [show repeatCells _ _ = #[] from by kernel_rfl]; rfl)
theorem bs22n1 {x0 : Operand} {ρ : Operand → Value} : aMake Tryz.prog (.buildSlice 22 1 #[(0, x0)]) ρ = okRow (fillK (fun j => some (j * 1, 1)) #[(Value.int IntKind.u8 0)] [(0, ρ x0)]) 1 1 := (g_bs Tryz.underlying22 (tinfo_of_type Tryz.type5) rfl rfl (by decide)).trans (by rw [show repeatCells _ _ = #[(Value.int IntKind.u8 0)] from by kernel_rfl]; rfl)
theorem bs22n2 {x0 x1 : Operand} {ρ : Operand → Value} : aMake Tryz.prog (.buildSlice 22 2 #[(0, x0), (1, x1)]) ρ = okRow (fillK (fun j => some (j * 1, 1)) #[(Value.int IntKind.u8 0), (Value.int IntKind.u8 0)] [(0, ρ x0), (1, ρ x1)]) 1 2 := (g_bs Tryz.underlying22 (tinfo_of_type Tryz.type5) rfl rfl (by decide)).trans (by rw [show repeatCells _ _ = #[(Value.int IntKind.u8 0), (Value.int IntKind.u8 0)] from by kernel_rfl]; rfl)
theorem bs22n4 {x0 x1 x2 x3 : Operand} {ρ : Operand → Value} : aMake Tryz.prog (.buildSlice 22 4 #[(0, x0), (1, x1), (2, x2), (3, x3)]) ρ = okRow (fillK (fun j => some (j * 1, 1)) #[(Value.int IntKind.u8 0), (Value.int IntKind.u8 0), (Value.int IntKind.u8 0), (Value.int IntKind.u8 0)] [(0, ρ x0), (1, ρ x1), (2, ρ x2), (3, ρ x3)]) 1 4 := (g_bs Tryz.underlying22 (tinfo_of_type Tryz.type5) rfl rfl (by decide)).trans (by rw [show repeatCells _ _ = #[(Value.int IntKind.u8 0), (Value.int IntKind.u8 0), (Value.int IntKind.u8 0), (Value.int IntKind.u8 0)] from by kernel_rfl]; rfl)
theorem bs22n5 {x0 x1 x2 x3 x4 : Operand} {ρ : Operand → Value} : aMake Tryz.prog (.buildSlice 22 5 #[(0, x0), (1, x1), (2, x2), (3, x3), (4, x4)]) ρ = okRow (fillK (fun j => some (j * 1, 1)) #[(Value.int IntKind.u8 0), (Value.int IntKind.u8 0), (Value.int IntKind.u8 0), (Value.int IntKind.u8 0), (Value.int IntKind.u8 0)] [(0, ρ x0), (1, ρ x1), (2, ρ x2), (3, ρ x3), (4, ρ x4)]) 1 5 := (g_bs Tryz.underlying22 (tinfo_of_type Tryz.type5) rfl rfl (by decide)).trans (by rw [show repeatCells _ _ = #[(Value.int IntKind.u8 0), (Value.int IntKind.u8 0), (Value.int IntKind.u8 0), (Value.int IntKind.u8 0), (Value.int IntKind.u8 0)] from by kernel_rfl]; rfl)
theorem bs29n0 {ρ : Operand → Value} : aMake Tryz.prog (.buildSlice 29 0 #[]) ρ = okRow (fillK (fun j => some (j * 1, 1)) #[] []) 1 0 := (g_bs Tryz.underlying29 (tinfo_of_type Tryz.type9) rfl rfl (by decide)).trans (by rw [show repeatCells _ _ = #[] from by kernel_rfl]; rfl)
theorem bs29n1 {x0 : Operand} {ρ : Operand → Value} : aMake Tryz.prog (.buildSlice 29 1 #[(0, x0)]) ρ = okRow (fillK (fun j => some (j * 1, 1)) #[(Value.string { data := #[] })] [(0, ρ x0)]) 1 1 := (g_bs Tryz.underlying29 (tinfo_of_type Tryz.type9) rfl rfl (by decide)).trans (by rw [show repeatCells _ _ = #[(Value.string { data := #[] })] from by kernel_rfl]; rfl)
theorem bs33n0 {ρ : Operand → Value} : aMake Tryz.prog (.buildSlice 33 0 #[]) ρ = okRow (fillK (fun j => some (j * 1, 1)) #[] []) 1 0 := (g_bs Tryz.underlying33 (tinfo_of_type Tryz.type59) rfl rfl (by decide)).trans (by rw [show repeatCells _ _ = #[] from by kernel_rfl]; rfl)
theorem bs33n1 {x0 : Operand} {ρ : Operand → Value} : aMake Tryz.prog (.buildSlice 33 1 #[(0, x0)]) ρ = okRow (fillK (fun j => some (j * 1, 1)) #[(Value.slice none 0 0)] [(0, ρ x0)]) 1 1 := (g_bs Tryz.underlying33 (tinfo_of_type Tryz.type59) rfl rfl (by decide)).trans (by rw [show repeatCells _ _ = #[(Value.slice none 0 0)] from by kernel_rfl]; rfl)
theorem bs33n2 {x0 x1 : Operand} {ρ : Operand → Value} : aMake Tryz.prog (.buildSlice 33 2 #[(0, x0), (1, x1)]) ρ = okRow (fillK (fun j => some (j * 1, 1)) #[(Value.slice none 0 0), (Value.slice none 0 0)] [(0, ρ x0), (1, ρ x1)]) 1 2 := (g_bs Tryz.underlying33 (tinfo_of_type Tryz.type59) rfl rfl (by decide)).trans (by rw [show repeatCells _ _ = #[(Value.slice none 0 0), (Value.slice none 0 0)] from by kernel_rfl]; rfl)
theorem bs43n0 {ρ : Operand → Value} : aMake Tryz.prog (.buildSlice 43 0 #[]) ρ = okRow (fillK (fun j => some (j * 4, 4)) #[] []) 4 0 := (g_bs Tryz.underlying43 (tinfo_of_type Tryz.type53) rfl rfl (by decide)).trans (by rw [show repeatCells _ _ = #[] from by kernel_rfl]; rfl)
theorem bs43n1 {x0 : Operand} {ρ : Operand → Value} : aMake Tryz.prog (.buildSlice 43 1 #[(0, x0)]) ρ = okRow (fillK (fun j => some (j * 4, 4)) #[(Value.string { data := #[] }), (Value.int IntKind.i64 0), (Value.slice none 0 0), (Value.slice none 0 0)] [(0, ρ x0)]) 4 1 := (g_bs Tryz.underlying43 (tinfo_of_type Tryz.type53) rfl rfl (by decide)).trans (by rw [show repeatCells _ _ = #[(Value.string { data := #[] }), (Value.int IntKind.i64 0), (Value.slice none 0 0), (Value.slice none 0 0)] from by kernel_rfl]; rfl)
theorem bs51n0 {ρ : Operand → Value} : aMake Tryz.prog (.buildSlice 51 0 #[]) ρ = okRow (fillK (fun j => some (j * 1, 1)) #[] []) 1 0 := (g_bs Tryz.underlying51 (tinfo_of_type Tryz.type22) rfl rfl (by decide)).trans (by rw [show repeatCells _ _ = #[] from by kernel_rfl]; rfl)
theorem bs51n1 {x0 : Operand} {ρ : Operand → Value} : aMake Tryz.prog (.buildSlice 51 1 #[(0, x0)]) ρ = okRow (fillK (fun j => some (j * 1, 1)) #[(Value.slice none 0 0)] [(0, ρ x0)]) 1 1 := (g_bs Tryz.underlying51 (tinfo_of_type Tryz.type22) rfl rfl (by decide)).trans (by rw [show repeatCells _ _ = #[(Value.slice none 0 0)] from by kernel_rfl]; rfl)
theorem bs51n2 {x0 x1 : Operand} {ρ : Operand → Value} : aMake Tryz.prog (.buildSlice 51 2 #[(0, x0), (1, x1)]) ρ = okRow (fillK (fun j => some (j * 1, 1)) #[(Value.slice none 0 0), (Value.slice none 0 0)] [(0, ρ x0), (1, ρ x1)]) 1 2 := (g_bs Tryz.underlying51 (tinfo_of_type Tryz.type22) rfl rfl (by decide)).trans (by rw [show repeatCells _ _ = #[(Value.slice none 0 0), (Value.slice none 0 0)] from by kernel_rfl]; rfl)
theorem bs51n3 {x0 x1 x2 : Operand} {ρ : Operand → Value} : aMake Tryz.prog (.buildSlice 51 3 #[(0, x0), (1, x1), (2, x2)]) ρ = okRow (fillK (fun j => some (j * 1, 1)) #[(Value.slice none 0 0), (Value.slice none 0 0), (Value.slice none 0 0)] [(0, ρ x0), (1, ρ x1), (2, ρ x2)]) 1 3 := (g_bs Tryz.underlying51 (tinfo_of_type Tryz.type22) rfl rfl (by decide)).trans (by rw [show repeatCells _ _ = #[(Value.slice none 0 0), (Value.slice none 0 0), (Value.slice none 0 0)] from by kernel_rfl]; rfl)
theorem bs51n4 {x0 x1 x2 x3 : Operand} {ρ : Operand → Value} : aMake Tryz.prog (.buildSlice 51 4 #[(0, x0), (1, x1), (2, x2), (3, x3)]) ρ = okRow (fillK (fun j => some (j * 1, 1)) #[(Value.slice none 0 0), (Value.slice none 0 0), (Value.slice none 0 0), (Value.slice none 0 0)] [(0, ρ x0), (1, ρ x1), (2, ρ x2), (3, ρ x3)]) 1 4 := (g_bs Tryz.underlying51 (tinfo_of_type Tryz.type22) rfl rfl (by decide)).trans (by rw [show repeatCells _ _ = #[(Value.slice none 0 0), (Value.slice none 0 0), (Value.slice none 0 0), (Value.slice none 0 0)] from by kernel_rfl]; rfl)
theorem bs59n0 {ρ : Operand → Value} : aMake Tryz.prog (.buildSlice 59 0 #[]) ρ = okRow (fillK (fun j => some (j * 2, 2)) #[] []) 2 0 := (g_bs Tryz.underlying59 (tinfo_of_type Tryz.type78) rfl rfl (by decide)).trans (by rw [show repeatCells _ _ = #[] from by kernel_rfl]; rfl)
theorem bs59n1 {x0 : Operand} {ρ : Operand → Value} : aMake Tryz.prog (.buildSlice 59 1 #[(0, x0)]) ρ = okRow (fillK (fun j => some (j * 2, 2)) #[(Value.bool false), (Value.string { data := #[] })] [(0, ρ x0)]) 2 1 := (g_bs Tryz.underlying59 (tinfo_of_type Tryz.type78) rfl rfl (by decide)).trans (by rw [show repeatCells _ _ = #[(Value.bool false), (Value.string { data := #[] })] from by kernel_rfl]; rfl)
theorem bs59n2 {x0 x1 : Operand} {ρ : Operand → Value} : aMake Tryz.prog (.buildSlice 59 2 #[(0, x0), (1, x1)]) ρ = okRow (fillK (fun j => some (j * 2, 2)) #[(Value.bool false), (Value.string { data := #[] }), (Value.bool false), (Value.string { data := #[] })] [(0, ρ x0), (1, ρ x1)]) 2 2 := (g_bs Tryz.underlying59 (tinfo_of_type Tryz.type78) rfl rfl (by decide)).trans (by rw [show repeatCells _ _ = #[(Value.bool false), (Value.string { data := #[] }), (Value.bool false), (Value.string { data := #[] })] from by kernel_rfl]; rfl)
theorem bs60n0 {ρ : Operand → Value} : aMake Tryz.prog (.buildSlice 60 0 #[]) ρ = okRow (fillK (fun j => some (j * 1, 1)) #[] []) 1 0 := (g_bs Tryz.underlying60 (tinfo_of_type Tryz.type3) rfl rfl (by decide)).trans (by rw [show repeatCells _ _ = #[] from by kernel_rfl]; rfl)
theorem bs60n1 {x0 : Operand} {ρ : Operand → Value} : aMake Tryz.prog (.buildSlice 60 1 #[(0, x0)]) ρ = okRow (fillK (fun j => some (j * 1, 1)) #[(Value.int IntKind.i64 0)] [(0, ρ x0)]) 1 1 := (g_bs Tryz.underlying60 (tinfo_of_type Tryz.type3) rfl rfl (by decide)).trans (by rw [show repeatCells _ _ = #[(Value.int IntKind.i64 0)] from by kernel_rfl]; rfl)
theorem bs69n1 {x0 : Operand} {ρ : Operand → Value} : aMake Tryz.prog (.buildSlice 69 1 #[(0, x0)]) ρ = okRow (fillK (fun j => some (j * 1, 1)) #[(Value.bool false)] [(0, ρ x0)]) 1 1 := (g_bs Tryz.underlying69 (tinfo_of_type Tryz.type4) rfl rfl (by decide)).trans (by rw [show repeatCells _ _ = #[(Value.bool false)] from by kernel_rfl]; rfl)
theorem cv_140x5 {k : IntKind} {n : Int} : aConv Tryz.prog 140 5 (.int k n) = some (.int .u8 (IntKind.u8.wrap n)) := C_int Tryz.underlying140 Tryz.underlying5
theorem cv_203x140 {k : IntKind} {n : Int} : aConv Tryz.prog 203 140 (.int k n) = some (.int .u32 (IntKind.u32.wrap n)) := C_int Tryz.underlying203 Tryz.underlying140
theorem cv_203x3 {k : IntKind} {n : Int} : aConv Tryz.prog 203 3 (.int k n) = some (.int .i64 (IntKind.i64.wrap n)) := C_int Tryz.underlying203 Tryz.underlying3
theorem cv_269x5 {k : IntKind} {n : Int} : aConv Tryz.prog 269 5 (.int k n) = some (.int .u8 (IntKind.u8.wrap n)) := C_int Tryz.underlying269 Tryz.underlying5
theorem cv_3x140 {k : IntKind} {n : Int} : aConv Tryz.prog 3 140 (.int k n) = some (.int .u32 (IntKind.u32.wrap n)) := C_int Tryz.underlying3 Tryz.underlying140
theorem cv_3x203 {k : IntKind} {n : Int} : aConv Tryz.prog 3 203 (.int k n) = some (.int .u64 (IntKind.u64.wrap n)) := C_int Tryz.underlying3 Tryz.underlying203
theorem cv_3x269 {k : IntKind} {n : Int} : aConv Tryz.prog 3 269 (.int k n) = some (.int .u64 (IntKind.u64.wrap n)) := C_int Tryz.underlying3 Tryz.underlying269
theorem cv_3x288 {k : IntKind} {n : Int} : aConv Tryz.prog 3 288 (.int k n) = some (.int .u64 (IntKind.u64.wrap n)) := C_int Tryz.underlying3 Tryz.underlying288
theorem cv_3x5 {k : IntKind} {n : Int} : aConv Tryz.prog 3 5 (.int k n) = some (.int .u8 (IntKind.u8.wrap n)) := C_int Tryz.underlying3 Tryz.underlying5
theorem cv_5x140 {k : IntKind} {n : Int} : aConv Tryz.prog 5 140 (.int k n) = some (.int .u32 (IntKind.u32.wrap n)) := C_int Tryz.underlying5 Tryz.underlying140
theorem cv_5x3 {k : IntKind} {n : Int} : aConv Tryz.prog 5 3 (.int k n) = some (.int .i64 (IntKind.i64.wrap n)) := C_int Tryz.underlying5 Tryz.underlying3
theorem cv_87x3 {k : IntKind} {n : Int} : aConv Tryz.prog 87 3 (.int k n) = some (.int .i64 (IntKind.i64.wrap n)) := C_int Tryz.underlying87 Tryz.underlying3
theorem fa_111x0 {b o : Nat} : aFieldAddr Tryz.prog 111 (.pointer (some ⟨b, o, none⟩)) 0 = some (.pointer (some ⟨b, o + 0, none⟩)) := g_fa Tryz.underlying111 rfl inf_3 (by decide) rfl
theorem fa_111x1 {b o : Nat} : aFieldAddr Tryz.prog 111 (.pointer (some ⟨b, o, none⟩)) 1 = some (.pointer (some ⟨b, o + 1, none⟩)) := g_fa Tryz.underlying111 rfl inf_109 (by decide) rfl
theorem fa_117x0 {b o : Nat} : aFieldAddr Tryz.prog 117 (.pointer (some ⟨b, o, none⟩)) 0 = some (.pointer (some ⟨b, o + 0, none⟩)) := g_fa Tryz.underlying117 rfl inf_3 (by decide) rfl
theorem fa_117x1 {b o : Nat} : aFieldAddr Tryz.prog 117 (.pointer (some ⟨b, o, none⟩)) 1 = some (.pointer (some ⟨b, o + 1, none⟩)) := g_fa Tryz.underlying117 rfl inf_114 (by decide) rfl
theorem fa_117x2 {b o : Nat} : aFieldAddr Tryz.prog 117 (.pointer (some ⟨b, o, none⟩)) 2 = some (.pointer (some ⟨b, o + 2, none⟩)) := g_fa Tryz.underlying117 rfl inf_115 (by decide) rfl
theorem fa_124x0 {b o : Nat} : aFieldAddr Tryz.prog 124 (.pointer (some ⟨b, o, none⟩)) 0 = some (.pointer (some ⟨b, o + 0, none⟩)) := g_fa Tryz.underlying124 rfl inf_3 (by decide) rfl
theorem fa_124x1 {b o : Nat} : aFieldAddr Tryz.prog 124 (.pointer (some ⟨b, o, none⟩)) 1 = some (.pointer (some ⟨b, o + 1, none⟩)) := g_fa Tryz.underlying124 rfl inf_3 (by decide) rfl
theorem fa_124x2 {b o : Nat} : aFieldAddr Tryz.prog 124 (.pointer (some ⟨b, o, none⟩)) 2 = some (.pointer (some ⟨b, o + 2, none⟩)) := g_fa Tryz.underlying124 rfl inf_9 (by decide) rfl
theorem fa_124x3 {b o : Nat} : aFieldAddr Tryz.prog 124 (.pointer (some ⟨b, o, none⟩)) 3 = some (.pointer (some ⟨b, o + 3, none⟩)) := g_fa Tryz.underlying124 rfl inf_3 (by decide) rfl
theorem fa_124x4 {b o : Nat} : aFieldAddr Tryz.prog 124 (.pointer (some ⟨b, o, none⟩)) 4 = some (.pointer (some ⟨b, o + 4, none⟩)) := g_fa Tryz.underlying124 rfl inf_3 (by decide) rfl
theorem fa_124x5 {b o : Nat} : aFieldAddr Tryz.prog 124 (.pointer (some ⟨b, o, none⟩)) 5 = some (.pointer (some ⟨b, o + 5, none⟩)) := g_fa Tryz.underlying124 rfl inf_122 (by decide) rfl
theorem fa_130x0 {b o : Nat} : aFieldAddr Tryz.prog 130 (.pointer (some ⟨b, o, none⟩)) 0 = some (.pointer (some ⟨b, o + 0, none⟩)) := g_fa Tryz.underlying130 rfl inf_3 (by decide) rfl
theorem fa_130x1 {b o : Nat} : aFieldAddr Tryz.prog 130 (.pointer (some ⟨b, o, none⟩)) 1 = some (.pointer (some ⟨b, o + 1, none⟩)) := g_fa Tryz.underlying130 rfl inf_60 (by decide) rfl
theorem fa_130x2 {b o : Nat} : aFieldAddr Tryz.prog 130 (.pointer (some ⟨b, o, none⟩)) 2 = some (.pointer (some ⟨b, o + 2, none⟩)) := g_fa Tryz.underlying130 rfl inf_69 (by decide) rfl
theorem fa_144x0 {b o : Nat} : aFieldAddr Tryz.prog 144 (.pointer (some ⟨b, o, none⟩)) 0 = some (.pointer (some ⟨b, o + 0, none⟩)) := g_fa Tryz.underlying144 rfl inf_142 (by decide) rfl
theorem fa_154x0 {b o : Nat} : aFieldAddr Tryz.prog 154 (.pointer (some ⟨b, o, none⟩)) 0 = some (.pointer (some ⟨b, o + 0, none⟩)) := g_fa Tryz.underlying154 rfl inf_3 (by decide) rfl
theorem fa_154x1 {b o : Nat} : aFieldAddr Tryz.prog 154 (.pointer (some ⟨b, o, none⟩)) 1 = some (.pointer (some ⟨b, o + 1, none⟩)) := g_fa Tryz.underlying154 rfl inf_136 (by decide) rfl
theorem fa_154x2 {b o : Nat} : aFieldAddr Tryz.prog 154 (.pointer (some ⟨b, o, none⟩)) 2 = some (.pointer (some ⟨b, o + 2, none⟩)) := g_fa Tryz.underlying154 rfl inf_51 (by decide) rfl
theorem fa_154x3 {b o : Nat} : aFieldAddr Tryz.prog 154 (.pointer (some ⟨b, o, none⟩)) 3 = some (.pointer (some ⟨b, o + 3, none⟩)) := g_fa Tryz.underlying154 rfl inf_3 (by decide) rfl
theorem fa_167x0 {b o : Nat} : aFieldAddr Tryz.prog 167 (.pointer (some ⟨b, o, none⟩)) 0 = some (.pointer (some ⟨b, o + 0, none⟩)) := g_fa Tryz.underlying167 rfl inf_22 (by decide) rfl
theorem fa_167x1 {b o : Nat} : aFieldAddr Tryz.prog 167 (.pointer (some ⟨b, o, none⟩)) 1 = some (.pointer (some ⟨b, o + 1, none⟩)) := g_fa Tryz.underlying167 rfl inf_3 (by decide) rfl
theorem fa_167x2 {b o : Nat} : aFieldAddr Tryz.prog 167 (.pointer (some ⟨b, o, none⟩)) 2 = some (.pointer (some ⟨b, o + 2, none⟩)) := g_fa Tryz.underlying167 rfl inf_27 (by decide) rfl
theorem fa_169x0 {b o : Nat} : aFieldAddr Tryz.prog 169 (.pointer (some ⟨b, o, none⟩)) 0 = some (.pointer (some ⟨b, o + 0, none⟩)) := g_fa Tryz.underlying169 rfl inf_3 (by decide) rfl
theorem fa_169x1 {b o : Nat} : aFieldAddr Tryz.prog 169 (.pointer (some ⟨b, o, none⟩)) 1 = some (.pointer (some ⟨b, o + 1, none⟩)) := g_fa Tryz.underlying169 rfl inf_59 (by decide) rfl
theorem fa_169x2 {b o : Nat} : aFieldAddr Tryz.prog 169 (.pointer (some ⟨b, o, none⟩)) 2 = some (.pointer (some ⟨b, o + 2, none⟩)) := g_fa Tryz.underlying169 rfl inf_51 (by decide) rfl
theorem fa_169x3 {b o : Nat} : aFieldAddr Tryz.prog 169 (.pointer (some ⟨b, o, none⟩)) 3 = some (.pointer (some ⟨b, o + 3, none⟩)) := g_fa Tryz.underlying169 rfl inf_29 (by decide) rfl
theorem fa_169x4 {b o : Nat} : aFieldAddr Tryz.prog 169 (.pointer (some ⟨b, o, none⟩)) 4 = some (.pointer (some ⟨b, o + 4, none⟩)) := g_fa Tryz.underlying169 rfl inf_93 (by decide) rfl
theorem fa_169x5 {b o : Nat} : aFieldAddr Tryz.prog 169 (.pointer (some ⟨b, o, none⟩)) 5 = some (.pointer (some ⟨b, o + 5, none⟩)) := g_fa Tryz.underlying169 rfl inf_60 (by decide) rfl
theorem fa_169x6 {b o : Nat} : aFieldAddr Tryz.prog 169 (.pointer (some ⟨b, o, none⟩)) 6 = some (.pointer (some ⟨b, o + 6, none⟩)) := g_fa Tryz.underlying169 rfl inf_60 (by decide) rfl
theorem fa_175x0 {b o : Nat} : aFieldAddr Tryz.prog 175 (.pointer (some ⟨b, o, none⟩)) 0 = some (.pointer (some ⟨b, o + 0, none⟩)) := g_fa Tryz.underlying175 rfl inf_29 (by decide) rfl
theorem fa_45x0 {b o : Nat} : aFieldAddr Tryz.prog 45 (.pointer (some ⟨b, o, none⟩)) 0 = some (.pointer (some ⟨b, o + 0, none⟩)) := g_fa Tryz.underlying45 rfl inf_3 (by decide) rfl
theorem fa_45x1 {b o : Nat} : aFieldAddr Tryz.prog 45 (.pointer (some ⟨b, o, none⟩)) 1 = some (.pointer (some ⟨b, o + 1, none⟩)) := g_fa Tryz.underlying45 rfl inf_9 (by decide) rfl
theorem fa_45x2 {b o : Nat} : aFieldAddr Tryz.prog 45 (.pointer (some ⟨b, o, none⟩)) 2 = some (.pointer (some ⟨b, o + 2, none⟩)) := g_fa Tryz.underlying45 rfl inf_9 (by decide) rfl
theorem fa_45x3 {b o : Nat} : aFieldAddr Tryz.prog 45 (.pointer (some ⟨b, o, none⟩)) 3 = some (.pointer (some ⟨b, o + 3, none⟩)) := g_fa Tryz.underlying45 rfl inf_3 (by decide) rfl
theorem fa_45x4 {b o : Nat} : aFieldAddr Tryz.prog 45 (.pointer (some ⟨b, o, none⟩)) 4 = some (.pointer (some ⟨b, o + 4, none⟩)) := g_fa Tryz.underlying45 rfl inf_33 (by decide) rfl
theorem fa_45x5 {b o : Nat} : aFieldAddr Tryz.prog 45 (.pointer (some ⟨b, o, none⟩)) 5 = some (.pointer (some ⟨b, o + 5, none⟩)) := g_fa Tryz.underlying45 rfl inf_4 (by decide) rfl
theorem fa_53x0 {b o : Nat} : aFieldAddr Tryz.prog 53 (.pointer (some ⟨b, o, none⟩)) 0 = some (.pointer (some ⟨b, o + 0, none⟩)) := g_fa Tryz.underlying53 rfl inf_9 (by decide) rfl
theorem fa_53x1 {b o : Nat} : aFieldAddr Tryz.prog 53 (.pointer (some ⟨b, o, none⟩)) 1 = some (.pointer (some ⟨b, o + 1, none⟩)) := g_fa Tryz.underlying53 rfl inf_3 (by decide) rfl
theorem fa_53x2 {b o : Nat} : aFieldAddr Tryz.prog 53 (.pointer (some ⟨b, o, none⟩)) 2 = some (.pointer (some ⟨b, o + 2, none⟩)) := g_fa Tryz.underlying53 rfl inf_33 (by decide) rfl
theorem fa_53x3 {b o : Nat} : aFieldAddr Tryz.prog 53 (.pointer (some ⟨b, o, none⟩)) 3 = some (.pointer (some ⟨b, o + 3, none⟩)) := g_fa Tryz.underlying53 rfl inf_51 (by decide) rfl
theorem fa_62x0 {b o : Nat} : aFieldAddr Tryz.prog 62 (.pointer (some ⟨b, o, none⟩)) 0 = some (.pointer (some ⟨b, o + 0, none⟩)) := g_fa Tryz.underlying62 rfl inf_3 (by decide) rfl
theorem fa_62x1 {b o : Nat} : aFieldAddr Tryz.prog 62 (.pointer (some ⟨b, o, none⟩)) 1 = some (.pointer (some ⟨b, o + 1, none⟩)) := g_fa Tryz.underlying62 rfl inf_3 (by decide) rfl
theorem fa_62x2 {b o : Nat} : aFieldAddr Tryz.prog 62 (.pointer (some ⟨b, o, none⟩)) 2 = some (.pointer (some ⟨b, o + 2, none⟩)) := g_fa Tryz.underlying62 rfl inf_3 (by decide) rfl
theorem fa_62x3 {b o : Nat} : aFieldAddr Tryz.prog 62 (.pointer (some ⟨b, o, none⟩)) 3 = some (.pointer (some ⟨b, o + 3, none⟩)) := g_fa Tryz.underlying62 rfl inf_60 (by decide) rfl
theorem fa_78x0 {b o : Nat} : aFieldAddr Tryz.prog 78 (.pointer (some ⟨b, o, none⟩)) 0 = some (.pointer (some ⟨b, o + 0, none⟩)) := g_fa Tryz.underlying78 rfl inf_4 (by decide) rfl
theorem fa_78x1 {b o : Nat} : aFieldAddr Tryz.prog 78 (.pointer (some ⟨b, o, none⟩)) 1 = some (.pointer (some ⟨b, o + 1, none⟩)) := g_fa Tryz.underlying78 rfl inf_9 (by decide) rfl
theorem fd_78x0 {cs : Array Value} : aField Tryz.prog 78 (.agg cs) 0 = cs[0]? := g_fd Tryz.underlying78 rfl agg_4 rfl
theorem fd_78x1 {cs : Array Value} : aField Tryz.prog 78 (.agg cs) 1 = cs[1]? := g_fd Tryz.underlying78 rfl agg_9 rfl
theorem ia_100 {b o len c z : Nat} {k : IntKind} {j : Int} : aIndexAddr Tryz.prog 100 (.slice (some ⟨b, o, some z⟩) len c) (.int k j) = idxAddr b o 1 len j := g_ia Tryz.underlying100 inf_33 rfl
theorem ia_101 {b o len c z : Nat} {k : IntKind} {j : Int} : aIndexAddr Tryz.prog 101 (.slice (some ⟨b, o, some z⟩) len c) (.int k j) = idxAddr b o 4 len j := g_ia Tryz.underlying101 inf_62 rfl
theorem ia_109 {b o len c z : Nat} {k : IntKind} {j : Int} : aIndexAddr Tryz.prog 109 (.slice (some ⟨b, o, some z⟩) len c) (.int k j) = idxAddr b o 3 len j := g_ia Tryz.underlying109 inf_117 rfl
theorem ia_114 {b o len c z : Nat} {k : IntKind} {j : Int} : aIndexAddr Tryz.prog 114 (.slice (some ⟨b, o, some z⟩) len c) (.int k j) = idxAddr b o 3 len j := g_ia Tryz.underlying114 inf_130 rfl
theorem ia_115 {b o len c z : Nat} {k : IntKind} {j : Int} : aIndexAddr Tryz.prog 115 (.slice (some ⟨b, o, some z⟩) len c) (.int k j) = idxAddr b o 1 len j := g_ia Tryz.underlying115 inf_82 rfl
theorem ia_122 {b o len c z : Nat} {k : IntKind} {j : Int} : aIndexAddr Tryz.prog 122 (.slice (some ⟨b, o, some z⟩) len c) (.int k j) = idxAddr b o 6 len j := g_ia Tryz.underlying122 inf_124 rfl
theorem ia_136 {b o len c z : Nat} {k : IntKind} {j : Int} : aIndexAddr Tryz.prog 136 (.slice (some ⟨b, o, some z⟩) len c) (.int k j) = idxAddr b o 1 len j := g_ia Tryz.underlying136 inf_106 rfl
theorem ia_22 {b o len c z : Nat} {k : IntKind} {j : Int} : aIndexAddr Tryz.prog 22 (.slice (some ⟨b, o, some z⟩) len c) (.int k j) = idxAddr b o 1 len j := g_ia Tryz.underlying22 inf_5 rfl
theorem ia_270 {b o : Nat} {k : IntKind} {j : Int} : aIndexAddr Tryz.prog 270 (.pointer (some ⟨b, o, none⟩)) (.int k j) = idxAddr b o 1 256 j := g_iaa Tryz.underlying270 inf_140 rfl
theorem ia_29 {b o len c z : Nat} {k : IntKind} {j : Int} : aIndexAddr Tryz.prog 29 (.slice (some ⟨b, o, some z⟩) len c) (.int k j) = idxAddr b o 1 len j := g_ia Tryz.underlying29 inf_9 rfl
theorem ia_33 {b o len c z : Nat} {k : IntKind} {j : Int} : aIndexAddr Tryz.prog 33 (.slice (some ⟨b, o, some z⟩) len c) (.int k j) = idxAddr b o 1 len j := g_ia Tryz.underlying33 inf_59 rfl
theorem ia_41 {b o len c z : Nat} {k : IntKind} {j : Int} : aIndexAddr Tryz.prog 41 (.slice (some ⟨b, o, some z⟩) len c) (.int k j) = idxAddr b o 6 len j := g_ia Tryz.underlying41 inf_45 rfl
theorem ia_43 {b o len c z : Nat} {k : IntKind} {j : Int} : aIndexAddr Tryz.prog 43 (.slice (some ⟨b, o, some z⟩) len c) (.int k j) = idxAddr b o 4 len j := g_ia Tryz.underlying43 inf_53 rfl
theorem ia_51 {b o len c z : Nat} {k : IntKind} {j : Int} : aIndexAddr Tryz.prog 51 (.slice (some ⟨b, o, some z⟩) len c) (.int k j) = idxAddr b o 1 len j := g_ia Tryz.underlying51 inf_22 rfl
theorem ia_59 {b o len c z : Nat} {k : IntKind} {j : Int} : aIndexAddr Tryz.prog 59 (.slice (some ⟨b, o, some z⟩) len c) (.int k j) = idxAddr b o 2 len j := g_ia Tryz.underlying59 inf_78 rfl
theorem ia_60 {b o len c z : Nat} {k : IntKind} {j : Int} : aIndexAddr Tryz.prog 60 (.slice (some ⟨b, o, some z⟩) len c) (.int k j) = idxAddr b o 1 len j := g_ia Tryz.underlying60 inf_3 rfl
theorem ia_69 {b o len c z : Nat} {k : IntKind} {j : Int} : aIndexAddr Tryz.prog 69 (.slice (some ⟨b, o, some z⟩) len c) (.int k j) = idxAddr b o 1 len j := g_ia Tryz.underlying69 inf_4 rfl
theorem ia_76 {b o : Nat} {k : IntKind} {j : Int} : aIndexAddr Tryz.prog 76 (.pointer (some ⟨b, o, none⟩)) (.int k j) = idxAddr b o 1 4 j := g_iaa Tryz.underlying76 inf_65 rfl
theorem ix_9 {s : ByteArray} {k : IntKind} {j : Int} : aIndex Tryz.prog 9 (.string s) (.int k j) = if h : 0 ≤ j ∧ j.toNat < s.size then some (.int .u8 (s[j.toNat]'h.2).toNat) else none := g_ixs Tryz.underlying9
theorem ld_106 {b o : Nat} {σ : Heap} : aLoad Tryz.prog 106 (.pointer (some ⟨b, o, none⟩)) σ = cellAt (row? σ b) o := g_ld agg_106
theorem ld_109 {b o : Nat} {σ : Heap} : aLoad Tryz.prog 109 (.pointer (some ⟨b, o, none⟩)) σ = cellAt (row? σ b) o := g_ld agg_109
theorem ld_114 {b o : Nat} {σ : Heap} : aLoad Tryz.prog 114 (.pointer (some ⟨b, o, none⟩)) σ = cellAt (row? σ b) o := g_ld agg_114
theorem ld_115 {b o : Nat} {σ : Heap} : aLoad Tryz.prog 115 (.pointer (some ⟨b, o, none⟩)) σ = cellAt (row? σ b) o := g_ld agg_115
theorem ld_117 {b o : Nat} {σ : Heap} : aLoad Tryz.prog 117 (.pointer (some ⟨b, o, none⟩)) σ = aggAt (row? σ b) o 3 := g_lda agg_117 inf_117 rfl
theorem ld_122 {b o : Nat} {σ : Heap} : aLoad Tryz.prog 122 (.pointer (some ⟨b, o, none⟩)) σ = cellAt (row? σ b) o := g_ld agg_122
theorem ld_124 {b o : Nat} {σ : Heap} : aLoad Tryz.prog 124 (.pointer (some ⟨b, o, none⟩)) σ = aggAt (row? σ b) o 6 := g_lda agg_124 inf_124 rfl
theorem ld_130 {b o : Nat} {σ : Heap} : aLoad Tryz.prog 130 (.pointer (some ⟨b, o, none⟩)) σ = aggAt (row? σ b) o 3 := g_lda agg_130 inf_130 rfl
theorem ld_136 {b o : Nat} {σ : Heap} : aLoad Tryz.prog 136 (.pointer (some ⟨b, o, none⟩)) σ = cellAt (row? σ b) o := g_ld agg_136
theorem ld_140 {b o : Nat} {σ : Heap} : aLoad Tryz.prog 140 (.pointer (some ⟨b, o, none⟩)) σ = cellAt (row? σ b) o := g_ld agg_140
theorem ld_142 {b o : Nat} {σ : Heap} : aLoad Tryz.prog 142 (.pointer (some ⟨b, o, none⟩)) σ = cellAt (row? σ b) o := g_ld agg_142
theorem ld_192 {b o : Nat} {σ : Heap} : aLoad Tryz.prog 192 (.pointer (some ⟨b, o, none⟩)) σ = cellAt (row? σ b) o := g_ld agg_192
theorem ld_22 {b o : Nat} {σ : Heap} : aLoad Tryz.prog 22 (.pointer (some ⟨b, o, none⟩)) σ = cellAt (row? σ b) o := g_ld agg_22
theorem ld_27 {b o : Nat} {σ : Heap} : aLoad Tryz.prog 27 (.pointer (some ⟨b, o, none⟩)) σ = cellAt (row? σ b) o := g_ld agg_27
theorem ld_288 {b o : Nat} {σ : Heap} : aLoad Tryz.prog 288 (.pointer (some ⟨b, o, none⟩)) σ = cellAt (row? σ b) o := g_ld agg_288
theorem ld_29 {b o : Nat} {σ : Heap} : aLoad Tryz.prog 29 (.pointer (some ⟨b, o, none⟩)) σ = cellAt (row? σ b) o := g_ld agg_29
theorem ld_294 {b o : Nat} {σ : Heap} : aLoad Tryz.prog 294 (.pointer (some ⟨b, o, none⟩)) σ = cellAt (row? σ b) o := g_ld agg_294
theorem ld_3 {b o : Nat} {σ : Heap} : aLoad Tryz.prog 3 (.pointer (some ⟨b, o, none⟩)) σ = cellAt (row? σ b) o := g_ld agg_3
theorem ld_33 {b o : Nat} {σ : Heap} : aLoad Tryz.prog 33 (.pointer (some ⟨b, o, none⟩)) σ = cellAt (row? σ b) o := g_ld agg_33
theorem ld_4 {b o : Nat} {σ : Heap} : aLoad Tryz.prog 4 (.pointer (some ⟨b, o, none⟩)) σ = cellAt (row? σ b) o := g_ld agg_4
theorem ld_45 {b o : Nat} {σ : Heap} : aLoad Tryz.prog 45 (.pointer (some ⟨b, o, none⟩)) σ = aggAt (row? σ b) o 6 := g_lda agg_45 inf_45 rfl
theorem ld_5 {b o : Nat} {σ : Heap} : aLoad Tryz.prog 5 (.pointer (some ⟨b, o, none⟩)) σ = cellAt (row? σ b) o := g_ld agg_5
theorem ld_51 {b o : Nat} {σ : Heap} : aLoad Tryz.prog 51 (.pointer (some ⟨b, o, none⟩)) σ = cellAt (row? σ b) o := g_ld agg_51
theorem ld_53 {b o : Nat} {σ : Heap} : aLoad Tryz.prog 53 (.pointer (some ⟨b, o, none⟩)) σ = aggAt (row? σ b) o 4 := g_lda agg_53 inf_53 rfl
theorem ld_59 {b o : Nat} {σ : Heap} : aLoad Tryz.prog 59 (.pointer (some ⟨b, o, none⟩)) σ = cellAt (row? σ b) o := g_ld agg_59
theorem ld_60 {b o : Nat} {σ : Heap} : aLoad Tryz.prog 60 (.pointer (some ⟨b, o, none⟩)) σ = cellAt (row? σ b) o := g_ld agg_60
theorem ld_62 {b o : Nat} {σ : Heap} : aLoad Tryz.prog 62 (.pointer (some ⟨b, o, none⟩)) σ = aggAt (row? σ b) o 4 := g_lda agg_62 inf_62 rfl
theorem ld_65 {b o : Nat} {σ : Heap} : aLoad Tryz.prog 65 (.pointer (some ⟨b, o, none⟩)) σ = cellAt (row? σ b) o := g_ld agg_65
theorem ld_69 {b o : Nat} {σ : Heap} : aLoad Tryz.prog 69 (.pointer (some ⟨b, o, none⟩)) σ = cellAt (row? σ b) o := g_ld agg_69
theorem ld_78 {b o : Nat} {σ : Heap} : aLoad Tryz.prog 78 (.pointer (some ⟨b, o, none⟩)) σ = aggAt (row? σ b) o 2 := g_lda agg_78 inf_78 rfl
theorem ld_82 {b o : Nat} {σ : Heap} : aLoad Tryz.prog 82 (.pointer (some ⟨b, o, none⟩)) σ = cellAt (row? σ b) o := g_ld agg_82
theorem ld_9 {b o : Nat} {σ : Heap} : aLoad Tryz.prog 9 (.pointer (some ⟨b, o, none⟩)) σ = cellAt (row? σ b) o := g_ld agg_9
theorem ld_93 {b o : Nat} {σ : Heap} : aLoad Tryz.prog 93 (.pointer (some ⟨b, o, none⟩)) σ = cellAt (row? σ b) o := g_ld agg_93
theorem ln_100 {a : Option Addr} {n c : Nat} : aBuiltin Tryz.prog .len #[100] #[.slice a n c] = some (.int .i64 n) := g_len Tryz.underlying100
theorem ln_101 {a : Option Addr} {n c : Nat} : aBuiltin Tryz.prog .len #[101] #[.slice a n c] = some (.int .i64 n) := g_len Tryz.underlying101
theorem ln_109 {a : Option Addr} {n c : Nat} : aBuiltin Tryz.prog .len #[109] #[.slice a n c] = some (.int .i64 n) := g_len Tryz.underlying109
theorem ln_114 {a : Option Addr} {n c : Nat} : aBuiltin Tryz.prog .len #[114] #[.slice a n c] = some (.int .i64 n) := g_len Tryz.underlying114
theorem ln_115 {a : Option Addr} {n c : Nat} : aBuiltin Tryz.prog .len #[115] #[.slice a n c] = some (.int .i64 n) := g_len Tryz.underlying115
theorem ln_122 {a : Option Addr} {n c : Nat} : aBuiltin Tryz.prog .len #[122] #[.slice a n c] = some (.int .i64 n) := g_len Tryz.underlying122
theorem ln_136 {a : Option Addr} {n c : Nat} : aBuiltin Tryz.prog .len #[136] #[.slice a n c] = some (.int .i64 n) := g_len Tryz.underlying136
theorem ln_22 {a : Option Addr} {n c : Nat} : aBuiltin Tryz.prog .len #[22] #[.slice a n c] = some (.int .i64 n) := g_len Tryz.underlying22
theorem ln_29 {a : Option Addr} {n c : Nat} : aBuiltin Tryz.prog .len #[29] #[.slice a n c] = some (.int .i64 n) := g_len Tryz.underlying29
theorem ln_33 {a : Option Addr} {n c : Nat} : aBuiltin Tryz.prog .len #[33] #[.slice a n c] = some (.int .i64 n) := g_len Tryz.underlying33
theorem ln_41 {a : Option Addr} {n c : Nat} : aBuiltin Tryz.prog .len #[41] #[.slice a n c] = some (.int .i64 n) := g_len Tryz.underlying41
theorem ln_43 {a : Option Addr} {n c : Nat} : aBuiltin Tryz.prog .len #[43] #[.slice a n c] = some (.int .i64 n) := g_len Tryz.underlying43
theorem ln_51 {a : Option Addr} {n c : Nat} : aBuiltin Tryz.prog .len #[51] #[.slice a n c] = some (.int .i64 n) := g_len Tryz.underlying51
theorem ln_59 {a : Option Addr} {n c : Nat} : aBuiltin Tryz.prog .len #[59] #[.slice a n c] = some (.int .i64 n) := g_len Tryz.underlying59
theorem ln_60 {a : Option Addr} {n c : Nat} : aBuiltin Tryz.prog .len #[60] #[.slice a n c] = some (.int .i64 n) := g_len Tryz.underlying60
theorem ln_69 {a : Option Addr} {n c : Nat} : aBuiltin Tryz.prog .len #[69] #[.slice a n c] = some (.int .i64 n) := g_len Tryz.underlying69
theorem ln_9 {s : ByteArray} : aBuiltin Tryz.prog .len #[9] #[.string s] = some (.int .i64 s.size) := g_lens Tryz.underlying9
theorem ms_22 {l c : Operand} {ρ : Operand → Value} : aMake Tryz.prog (.makeSlice 22 l c) ρ = mkSl 1 1 (Tryz.t5.zero.getD undef).cells (ρ l) (ρ c) := g_ms Tryz.underlying22 (tinfo_of_type Tryz.type5) rfl rfl
theorem ms_69 {l c : Operand} {ρ : Operand → Value} : aMake Tryz.prog (.makeSlice 69 l c) ρ = mkSl 1 1 (Tryz.t4.zero.getD undef).cells (ρ l) (ρ c) := g_ms Tryz.underlying69 (tinfo_of_type Tryz.type4) rfl rfl
theorem nb_136 {a : Option Addr} {x y x' y' : Nat} : aBin Tryz.prog .eql 136 (.slice a x y) (.slice none x' y') = some (.bool a.isNone) := g_nil_slice Tryz.underlying136
theorem nb_22 {a : Option Addr} {x y x' y' : Nat} : aBin Tryz.prog .eql 22 (.slice a x y) (.slice none x' y') = some (.bool a.isNone) := g_nil_slice Tryz.underlying22
theorem nb_29 {a : Option Addr} {x y x' y' : Nat} : aBin Tryz.prog .eql 29 (.slice a x y) (.slice none x' y') = some (.bool a.isNone) := g_nil_slice Tryz.underlying29
theorem nb_59 {a : Option Addr} {x y x' y' : Nat} : aBin Tryz.prog .eql 59 (.slice a x y) (.slice none x' y') = some (.bool a.isNone) := g_nil_slice Tryz.underlying59
theorem nn_106 {a : Option Addr} : aBin Tryz.prog .neq 106 (.pointer a) (.pointer none) = some (.bool a.isSome) := g_nnil_ptr Tryz.underlying106
theorem nn_25 {a : Option Addr} : aBin Tryz.prog .neq 25 (.pointer a) (.pointer none) = some (.bool a.isSome) := g_nnil_ptr Tryz.underlying25
theorem nn_82 {a : Option Addr} : aBin Tryz.prog .neq 82 (.pointer a) (.pointer none) = some (.bool a.isSome) := g_nnil_ptr Tryz.underlying82
theorem nn_93 {a : Option Addr} : aBin Tryz.prog .neq 93 (.pointer a) (.pointer none) = some (.bool a.isSome) := g_nnil_ptr Tryz.underlying93
theorem np_106 {a : Option Addr} : aBin Tryz.prog .eql 106 (.pointer a) (.pointer none) = some (.bool a.isNone) := g_nil_ptr Tryz.underlying106
theorem np_25 {a : Option Addr} : aBin Tryz.prog .eql 25 (.pointer a) (.pointer none) = some (.bool a.isNone) := g_nil_ptr Tryz.underlying25
theorem np_82 {a : Option Addr} : aBin Tryz.prog .eql 82 (.pointer a) (.pointer none) = some (.bool a.isNone) := g_nil_ptr Tryz.underlying82
theorem np_93 {a : Option Addr} : aBin Tryz.prog .eql 93 (.pointer a) (.pointer none) = some (.bool a.isNone) := g_nil_ptr Tryz.underlying93
theorem ocv_140x5 {α : Type} {call : CallFn} {m : Nat} {ρ : Env} {σ : Heap} {ops : Array Oper} {os : List Oper} {d : Option Tmp} {ty : TypeId} {pos : String} {af : Array Edge} {K : Env → Heap → Option α} {x : Operand} : kOps Tryz.prog call m ops (⟨d, .convert 140 5 x, ty, pos, af, none⟩ :: os) ρ σ K = bindK (aConv Tryz.prog 140 5 (evE ρ x)) (contK Tryz.prog call m ops os ρ d σ K) := O_conv_int Tryz.underlying140 Tryz.underlying5
theorem ocv_203x140 {α : Type} {call : CallFn} {m : Nat} {ρ : Env} {σ : Heap} {ops : Array Oper} {os : List Oper} {d : Option Tmp} {ty : TypeId} {pos : String} {af : Array Edge} {K : Env → Heap → Option α} {x : Operand} : kOps Tryz.prog call m ops (⟨d, .convert 203 140 x, ty, pos, af, none⟩ :: os) ρ σ K = bindK (aConv Tryz.prog 203 140 (evE ρ x)) (contK Tryz.prog call m ops os ρ d σ K) := O_conv_int Tryz.underlying203 Tryz.underlying140
theorem ocv_203x3 {α : Type} {call : CallFn} {m : Nat} {ρ : Env} {σ : Heap} {ops : Array Oper} {os : List Oper} {d : Option Tmp} {ty : TypeId} {pos : String} {af : Array Edge} {K : Env → Heap → Option α} {x : Operand} : kOps Tryz.prog call m ops (⟨d, .convert 203 3 x, ty, pos, af, none⟩ :: os) ρ σ K = bindK (aConv Tryz.prog 203 3 (evE ρ x)) (contK Tryz.prog call m ops os ρ d σ K) := O_conv_int Tryz.underlying203 Tryz.underlying3
theorem ocv_269x5 {α : Type} {call : CallFn} {m : Nat} {ρ : Env} {σ : Heap} {ops : Array Oper} {os : List Oper} {d : Option Tmp} {ty : TypeId} {pos : String} {af : Array Edge} {K : Env → Heap → Option α} {x : Operand} : kOps Tryz.prog call m ops (⟨d, .convert 269 5 x, ty, pos, af, none⟩ :: os) ρ σ K = bindK (aConv Tryz.prog 269 5 (evE ρ x)) (contK Tryz.prog call m ops os ρ d σ K) := O_conv_int Tryz.underlying269 Tryz.underlying5
theorem ocv_3x140 {α : Type} {call : CallFn} {m : Nat} {ρ : Env} {σ : Heap} {ops : Array Oper} {os : List Oper} {d : Option Tmp} {ty : TypeId} {pos : String} {af : Array Edge} {K : Env → Heap → Option α} {x : Operand} : kOps Tryz.prog call m ops (⟨d, .convert 3 140 x, ty, pos, af, none⟩ :: os) ρ σ K = bindK (aConv Tryz.prog 3 140 (evE ρ x)) (contK Tryz.prog call m ops os ρ d σ K) := O_conv_int Tryz.underlying3 Tryz.underlying140
theorem ocv_3x203 {α : Type} {call : CallFn} {m : Nat} {ρ : Env} {σ : Heap} {ops : Array Oper} {os : List Oper} {d : Option Tmp} {ty : TypeId} {pos : String} {af : Array Edge} {K : Env → Heap → Option α} {x : Operand} : kOps Tryz.prog call m ops (⟨d, .convert 3 203 x, ty, pos, af, none⟩ :: os) ρ σ K = bindK (aConv Tryz.prog 3 203 (evE ρ x)) (contK Tryz.prog call m ops os ρ d σ K) := O_conv_int Tryz.underlying3 Tryz.underlying203
theorem ocv_3x269 {α : Type} {call : CallFn} {m : Nat} {ρ : Env} {σ : Heap} {ops : Array Oper} {os : List Oper} {d : Option Tmp} {ty : TypeId} {pos : String} {af : Array Edge} {K : Env → Heap → Option α} {x : Operand} : kOps Tryz.prog call m ops (⟨d, .convert 3 269 x, ty, pos, af, none⟩ :: os) ρ σ K = bindK (aConv Tryz.prog 3 269 (evE ρ x)) (contK Tryz.prog call m ops os ρ d σ K) := O_conv_int Tryz.underlying3 Tryz.underlying269
theorem ocv_3x288 {α : Type} {call : CallFn} {m : Nat} {ρ : Env} {σ : Heap} {ops : Array Oper} {os : List Oper} {d : Option Tmp} {ty : TypeId} {pos : String} {af : Array Edge} {K : Env → Heap → Option α} {x : Operand} : kOps Tryz.prog call m ops (⟨d, .convert 3 288 x, ty, pos, af, none⟩ :: os) ρ σ K = bindK (aConv Tryz.prog 3 288 (evE ρ x)) (contK Tryz.prog call m ops os ρ d σ K) := O_conv_int Tryz.underlying3 Tryz.underlying288
theorem ocv_3x5 {α : Type} {call : CallFn} {m : Nat} {ρ : Env} {σ : Heap} {ops : Array Oper} {os : List Oper} {d : Option Tmp} {ty : TypeId} {pos : String} {af : Array Edge} {K : Env → Heap → Option α} {x : Operand} : kOps Tryz.prog call m ops (⟨d, .convert 3 5 x, ty, pos, af, none⟩ :: os) ρ σ K = bindK (aConv Tryz.prog 3 5 (evE ρ x)) (contK Tryz.prog call m ops os ρ d σ K) := O_conv_int Tryz.underlying3 Tryz.underlying5
theorem ocv_5x140 {α : Type} {call : CallFn} {m : Nat} {ρ : Env} {σ : Heap} {ops : Array Oper} {os : List Oper} {d : Option Tmp} {ty : TypeId} {pos : String} {af : Array Edge} {K : Env → Heap → Option α} {x : Operand} : kOps Tryz.prog call m ops (⟨d, .convert 5 140 x, ty, pos, af, none⟩ :: os) ρ σ K = bindK (aConv Tryz.prog 5 140 (evE ρ x)) (contK Tryz.prog call m ops os ρ d σ K) := O_conv_int Tryz.underlying5 Tryz.underlying140
theorem ocv_5x3 {α : Type} {call : CallFn} {m : Nat} {ρ : Env} {σ : Heap} {ops : Array Oper} {os : List Oper} {d : Option Tmp} {ty : TypeId} {pos : String} {af : Array Edge} {K : Env → Heap → Option α} {x : Operand} : kOps Tryz.prog call m ops (⟨d, .convert 5 3 x, ty, pos, af, none⟩ :: os) ρ σ K = bindK (aConv Tryz.prog 5 3 (evE ρ x)) (contK Tryz.prog call m ops os ρ d σ K) := O_conv_int Tryz.underlying5 Tryz.underlying3
theorem ocv_87x3 {α : Type} {call : CallFn} {m : Nat} {ρ : Env} {σ : Heap} {ops : Array Oper} {os : List Oper} {d : Option Tmp} {ty : TypeId} {pos : String} {af : Array Edge} {K : Env → Heap → Option α} {x : Operand} : kOps Tryz.prog call m ops (⟨d, .convert 87 3 x, ty, pos, af, none⟩ :: os) ρ σ K = bindK (aConv Tryz.prog 87 3 (evE ρ x)) (contK Tryz.prog call m ops os ρ d σ K) := O_conv_int Tryz.underlying87 Tryz.underlying3
theorem oln_100 {α : Type} {call : CallFn} {m : Nat} {ρ : Env} {σ : Heap} {ops : Array Oper} {os : List Oper} {d : Option Tmp} {ty : TypeId} {pos : String} {af : Array Edge} {K : Env → Heap → Option α} {x : Operand} : kOps Tryz.prog call m ops (⟨d, .call { callee := .builtin .len, args := #[x], argTypes := #[100] }, ty, pos, af, none⟩ :: os) ρ σ K = bindK (aBuiltin Tryz.prog .len #[100] #[evE ρ x]) (contK Tryz.prog call m ops os ρ d σ K) := O_len_slice Tryz.underlying100
theorem oln_101 {α : Type} {call : CallFn} {m : Nat} {ρ : Env} {σ : Heap} {ops : Array Oper} {os : List Oper} {d : Option Tmp} {ty : TypeId} {pos : String} {af : Array Edge} {K : Env → Heap → Option α} {x : Operand} : kOps Tryz.prog call m ops (⟨d, .call { callee := .builtin .len, args := #[x], argTypes := #[101] }, ty, pos, af, none⟩ :: os) ρ σ K = bindK (aBuiltin Tryz.prog .len #[101] #[evE ρ x]) (contK Tryz.prog call m ops os ρ d σ K) := O_len_slice Tryz.underlying101
theorem oln_109 {α : Type} {call : CallFn} {m : Nat} {ρ : Env} {σ : Heap} {ops : Array Oper} {os : List Oper} {d : Option Tmp} {ty : TypeId} {pos : String} {af : Array Edge} {K : Env → Heap → Option α} {x : Operand} : kOps Tryz.prog call m ops (⟨d, .call { callee := .builtin .len, args := #[x], argTypes := #[109] }, ty, pos, af, none⟩ :: os) ρ σ K = bindK (aBuiltin Tryz.prog .len #[109] #[evE ρ x]) (contK Tryz.prog call m ops os ρ d σ K) := O_len_slice Tryz.underlying109
theorem oln_114 {α : Type} {call : CallFn} {m : Nat} {ρ : Env} {σ : Heap} {ops : Array Oper} {os : List Oper} {d : Option Tmp} {ty : TypeId} {pos : String} {af : Array Edge} {K : Env → Heap → Option α} {x : Operand} : kOps Tryz.prog call m ops (⟨d, .call { callee := .builtin .len, args := #[x], argTypes := #[114] }, ty, pos, af, none⟩ :: os) ρ σ K = bindK (aBuiltin Tryz.prog .len #[114] #[evE ρ x]) (contK Tryz.prog call m ops os ρ d σ K) := O_len_slice Tryz.underlying114
theorem oln_115 {α : Type} {call : CallFn} {m : Nat} {ρ : Env} {σ : Heap} {ops : Array Oper} {os : List Oper} {d : Option Tmp} {ty : TypeId} {pos : String} {af : Array Edge} {K : Env → Heap → Option α} {x : Operand} : kOps Tryz.prog call m ops (⟨d, .call { callee := .builtin .len, args := #[x], argTypes := #[115] }, ty, pos, af, none⟩ :: os) ρ σ K = bindK (aBuiltin Tryz.prog .len #[115] #[evE ρ x]) (contK Tryz.prog call m ops os ρ d σ K) := O_len_slice Tryz.underlying115
theorem oln_122 {α : Type} {call : CallFn} {m : Nat} {ρ : Env} {σ : Heap} {ops : Array Oper} {os : List Oper} {d : Option Tmp} {ty : TypeId} {pos : String} {af : Array Edge} {K : Env → Heap → Option α} {x : Operand} : kOps Tryz.prog call m ops (⟨d, .call { callee := .builtin .len, args := #[x], argTypes := #[122] }, ty, pos, af, none⟩ :: os) ρ σ K = bindK (aBuiltin Tryz.prog .len #[122] #[evE ρ x]) (contK Tryz.prog call m ops os ρ d σ K) := O_len_slice Tryz.underlying122
theorem oln_136 {α : Type} {call : CallFn} {m : Nat} {ρ : Env} {σ : Heap} {ops : Array Oper} {os : List Oper} {d : Option Tmp} {ty : TypeId} {pos : String} {af : Array Edge} {K : Env → Heap → Option α} {x : Operand} : kOps Tryz.prog call m ops (⟨d, .call { callee := .builtin .len, args := #[x], argTypes := #[136] }, ty, pos, af, none⟩ :: os) ρ σ K = bindK (aBuiltin Tryz.prog .len #[136] #[evE ρ x]) (contK Tryz.prog call m ops os ρ d σ K) := O_len_slice Tryz.underlying136
theorem oln_22 {α : Type} {call : CallFn} {m : Nat} {ρ : Env} {σ : Heap} {ops : Array Oper} {os : List Oper} {d : Option Tmp} {ty : TypeId} {pos : String} {af : Array Edge} {K : Env → Heap → Option α} {x : Operand} : kOps Tryz.prog call m ops (⟨d, .call { callee := .builtin .len, args := #[x], argTypes := #[22] }, ty, pos, af, none⟩ :: os) ρ σ K = bindK (aBuiltin Tryz.prog .len #[22] #[evE ρ x]) (contK Tryz.prog call m ops os ρ d σ K) := O_len_slice Tryz.underlying22
theorem oln_29 {α : Type} {call : CallFn} {m : Nat} {ρ : Env} {σ : Heap} {ops : Array Oper} {os : List Oper} {d : Option Tmp} {ty : TypeId} {pos : String} {af : Array Edge} {K : Env → Heap → Option α} {x : Operand} : kOps Tryz.prog call m ops (⟨d, .call { callee := .builtin .len, args := #[x], argTypes := #[29] }, ty, pos, af, none⟩ :: os) ρ σ K = bindK (aBuiltin Tryz.prog .len #[29] #[evE ρ x]) (contK Tryz.prog call m ops os ρ d σ K) := O_len_slice Tryz.underlying29
theorem oln_33 {α : Type} {call : CallFn} {m : Nat} {ρ : Env} {σ : Heap} {ops : Array Oper} {os : List Oper} {d : Option Tmp} {ty : TypeId} {pos : String} {af : Array Edge} {K : Env → Heap → Option α} {x : Operand} : kOps Tryz.prog call m ops (⟨d, .call { callee := .builtin .len, args := #[x], argTypes := #[33] }, ty, pos, af, none⟩ :: os) ρ σ K = bindK (aBuiltin Tryz.prog .len #[33] #[evE ρ x]) (contK Tryz.prog call m ops os ρ d σ K) := O_len_slice Tryz.underlying33
theorem oln_41 {α : Type} {call : CallFn} {m : Nat} {ρ : Env} {σ : Heap} {ops : Array Oper} {os : List Oper} {d : Option Tmp} {ty : TypeId} {pos : String} {af : Array Edge} {K : Env → Heap → Option α} {x : Operand} : kOps Tryz.prog call m ops (⟨d, .call { callee := .builtin .len, args := #[x], argTypes := #[41] }, ty, pos, af, none⟩ :: os) ρ σ K = bindK (aBuiltin Tryz.prog .len #[41] #[evE ρ x]) (contK Tryz.prog call m ops os ρ d σ K) := O_len_slice Tryz.underlying41
theorem oln_43 {α : Type} {call : CallFn} {m : Nat} {ρ : Env} {σ : Heap} {ops : Array Oper} {os : List Oper} {d : Option Tmp} {ty : TypeId} {pos : String} {af : Array Edge} {K : Env → Heap → Option α} {x : Operand} : kOps Tryz.prog call m ops (⟨d, .call { callee := .builtin .len, args := #[x], argTypes := #[43] }, ty, pos, af, none⟩ :: os) ρ σ K = bindK (aBuiltin Tryz.prog .len #[43] #[evE ρ x]) (contK Tryz.prog call m ops os ρ d σ K) := O_len_slice Tryz.underlying43
theorem oln_51 {α : Type} {call : CallFn} {m : Nat} {ρ : Env} {σ : Heap} {ops : Array Oper} {os : List Oper} {d : Option Tmp} {ty : TypeId} {pos : String} {af : Array Edge} {K : Env → Heap → Option α} {x : Operand} : kOps Tryz.prog call m ops (⟨d, .call { callee := .builtin .len, args := #[x], argTypes := #[51] }, ty, pos, af, none⟩ :: os) ρ σ K = bindK (aBuiltin Tryz.prog .len #[51] #[evE ρ x]) (contK Tryz.prog call m ops os ρ d σ K) := O_len_slice Tryz.underlying51
theorem oln_59 {α : Type} {call : CallFn} {m : Nat} {ρ : Env} {σ : Heap} {ops : Array Oper} {os : List Oper} {d : Option Tmp} {ty : TypeId} {pos : String} {af : Array Edge} {K : Env → Heap → Option α} {x : Operand} : kOps Tryz.prog call m ops (⟨d, .call { callee := .builtin .len, args := #[x], argTypes := #[59] }, ty, pos, af, none⟩ :: os) ρ σ K = bindK (aBuiltin Tryz.prog .len #[59] #[evE ρ x]) (contK Tryz.prog call m ops os ρ d σ K) := O_len_slice Tryz.underlying59
theorem oln_60 {α : Type} {call : CallFn} {m : Nat} {ρ : Env} {σ : Heap} {ops : Array Oper} {os : List Oper} {d : Option Tmp} {ty : TypeId} {pos : String} {af : Array Edge} {K : Env → Heap → Option α} {x : Operand} : kOps Tryz.prog call m ops (⟨d, .call { callee := .builtin .len, args := #[x], argTypes := #[60] }, ty, pos, af, none⟩ :: os) ρ σ K = bindK (aBuiltin Tryz.prog .len #[60] #[evE ρ x]) (contK Tryz.prog call m ops os ρ d σ K) := O_len_slice Tryz.underlying60
theorem oln_69 {α : Type} {call : CallFn} {m : Nat} {ρ : Env} {σ : Heap} {ops : Array Oper} {os : List Oper} {d : Option Tmp} {ty : TypeId} {pos : String} {af : Array Edge} {K : Env → Heap → Option α} {x : Operand} : kOps Tryz.prog call m ops (⟨d, .call { callee := .builtin .len, args := #[x], argTypes := #[69] }, ty, pos, af, none⟩ :: os) ρ σ K = bindK (aBuiltin Tryz.prog .len #[69] #[evE ρ x]) (contK Tryz.prog call m ops os ρ d σ K) := O_len_slice Tryz.underlying69
theorem oln_9 {α : Type} {call : CallFn} {m : Nat} {ρ : Env} {σ : Heap} {ops : Array Oper} {os : List Oper} {d : Option Tmp} {ty : TypeId} {pos : String} {af : Array Edge} {K : Env → Heap → Option α} {x : Operand} : kOps Tryz.prog call m ops (⟨d, .call { callee := .builtin .len, args := #[x], argTypes := #[9] }, ty, pos, af, none⟩ :: os) ρ σ K = bindK (aBuiltin Tryz.prog .len #[9] #[evE ρ x]) (contK Tryz.prog call m ops os ρ d σ K) := O_len_string Tryz.underlying9
theorem sl_100 {b o len c : Nat} {lo hi : Option Value} : aSlice Tryz.prog 100 (.slice (some ⟨b, o, some 1⟩) len c) lo hi none = slc b o 1 len c (optNat 0 lo) (optNat len hi) := g_sl Tryz.underlying100 inf_33 rfl
theorem sl_22 {b o len c : Nat} {lo hi : Option Value} : aSlice Tryz.prog 22 (.slice (some ⟨b, o, some 1⟩) len c) lo hi none = slc b o 1 len c (optNat 0 lo) (optNat len hi) := g_sl Tryz.underlying22 inf_5 rfl
theorem sl_29 {b o len c : Nat} {lo hi : Option Value} : aSlice Tryz.prog 29 (.slice (some ⟨b, o, some 1⟩) len c) lo hi none = slc b o 1 len c (optNat 0 lo) (optNat len hi) := g_sl Tryz.underlying29 inf_9 rfl
theorem sl_33 {b o len c : Nat} {lo hi : Option Value} : aSlice Tryz.prog 33 (.slice (some ⟨b, o, some 1⟩) len c) lo hi none = slc b o 1 len c (optNat 0 lo) (optNat len hi) := g_sl Tryz.underlying33 inf_59 rfl
theorem sl_43 {b o len c : Nat} {lo hi : Option Value} : aSlice Tryz.prog 43 (.slice (some ⟨b, o, some 4⟩) len c) lo hi none = slc b o 4 len c (optNat 0 lo) (optNat len hi) := g_sl Tryz.underlying43 inf_53 rfl
theorem sl_59 {b o len c : Nat} {lo hi : Option Value} : aSlice Tryz.prog 59 (.slice (some ⟨b, o, some 2⟩) len c) lo hi none = slc b o 2 len c (optNat 0 lo) (optNat len hi) := g_sl Tryz.underlying59 inf_78 rfl
theorem sl_60 {b o len c : Nat} {lo hi : Option Value} : aSlice Tryz.prog 60 (.slice (some ⟨b, o, some 1⟩) len c) lo hi none = slc b o 1 len c (optNat 0 lo) (optNat len hi) := g_sl Tryz.underlying60 inf_3 rfl
theorem sl_69 {b o len c : Nat} {lo hi : Option Value} : aSlice Tryz.prog 69 (.slice (some ⟨b, o, some 1⟩) len c) lo hi none = slc b o 1 len c (optNat 0 lo) (optNat len hi) := g_sl Tryz.underlying69 inf_4 rfl
theorem sl_9 {s : ByteArray} {lo hi : Option Value} : aSlice Tryz.prog 9 (.string s) lo hi none = slcS s (optNat 0 lo) (optNat s.size hi) := g_sls Tryz.underlying9
theorem sln_100 {c : Nat} {lo hi : Option Value} : aSlice Tryz.prog 100 (.slice none 0 c) lo hi none = nilSlc c (optNat 0 lo) (optNat 0 hi) := g_sln Tryz.underlying100 inf_33
theorem sln_22 {c : Nat} {lo hi : Option Value} : aSlice Tryz.prog 22 (.slice none 0 c) lo hi none = nilSlc c (optNat 0 lo) (optNat 0 hi) := g_sln Tryz.underlying22 inf_5
theorem sln_29 {c : Nat} {lo hi : Option Value} : aSlice Tryz.prog 29 (.slice none 0 c) lo hi none = nilSlc c (optNat 0 lo) (optNat 0 hi) := g_sln Tryz.underlying29 inf_9
theorem sln_33 {c : Nat} {lo hi : Option Value} : aSlice Tryz.prog 33 (.slice none 0 c) lo hi none = nilSlc c (optNat 0 lo) (optNat 0 hi) := g_sln Tryz.underlying33 inf_59
theorem sln_43 {c : Nat} {lo hi : Option Value} : aSlice Tryz.prog 43 (.slice none 0 c) lo hi none = nilSlc c (optNat 0 lo) (optNat 0 hi) := g_sln Tryz.underlying43 inf_53
theorem sln_59 {c : Nat} {lo hi : Option Value} : aSlice Tryz.prog 59 (.slice none 0 c) lo hi none = nilSlc c (optNat 0 lo) (optNat 0 hi) := g_sln Tryz.underlying59 inf_78
theorem sln_60 {c : Nat} {lo hi : Option Value} : aSlice Tryz.prog 60 (.slice none 0 c) lo hi none = nilSlc c (optNat 0 lo) (optNat 0 hi) := g_sln Tryz.underlying60 inf_3
theorem sln_69 {c : Nat} {lo hi : Option Value} : aSlice Tryz.prog 69 (.slice none 0 c) lo hi none = nilSlc c (optNat 0 lo) (optNat 0 hi) := g_sln Tryz.underlying69 inf_4
theorem st_109 {b o : Nat} {σ : Heap} {v : Value} : aStore Tryz.prog 109 (.pointer (some ⟨b, o, none⟩)) v σ = putAt (row? σ b) σ b o 1 v := g_st inf_109 rfl
theorem st_114 {b o : Nat} {σ : Heap} {v : Value} : aStore Tryz.prog 114 (.pointer (some ⟨b, o, none⟩)) v σ = putAt (row? σ b) σ b o 1 v := g_st inf_114 rfl
theorem st_115 {b o : Nat} {σ : Heap} {v : Value} : aStore Tryz.prog 115 (.pointer (some ⟨b, o, none⟩)) v σ = putAt (row? σ b) σ b o 1 v := g_st inf_115 rfl
theorem st_117 {b o : Nat} {σ : Heap} {v : Value} : aStore Tryz.prog 117 (.pointer (some ⟨b, o, none⟩)) v σ = putAt (row? σ b) σ b o 3 v := g_st inf_117 rfl
theorem st_130 {b o : Nat} {σ : Heap} {v : Value} : aStore Tryz.prog 130 (.pointer (some ⟨b, o, none⟩)) v σ = putAt (row? σ b) σ b o 3 v := g_st inf_130 rfl
theorem st_136 {b o : Nat} {σ : Heap} {v : Value} : aStore Tryz.prog 136 (.pointer (some ⟨b, o, none⟩)) v σ = putAt (row? σ b) σ b o 1 v := g_st inf_136 rfl
theorem st_140 {b o : Nat} {σ : Heap} {v : Value} : aStore Tryz.prog 140 (.pointer (some ⟨b, o, none⟩)) v σ = putAt (row? σ b) σ b o 1 v := g_st inf_140 rfl
theorem st_192 {b o : Nat} {σ : Heap} {v : Value} : aStore Tryz.prog 192 (.pointer (some ⟨b, o, none⟩)) v σ = putAt (row? σ b) σ b o 1 v := g_st inf_192 rfl
theorem st_22 {b o : Nat} {σ : Heap} {v : Value} : aStore Tryz.prog 22 (.pointer (some ⟨b, o, none⟩)) v σ = putAt (row? σ b) σ b o 1 v := g_st inf_22 rfl
theorem st_27 {b o : Nat} {σ : Heap} {v : Value} : aStore Tryz.prog 27 (.pointer (some ⟨b, o, none⟩)) v σ = putAt (row? σ b) σ b o 1 v := g_st inf_27 rfl
theorem st_288 {b o : Nat} {σ : Heap} {v : Value} : aStore Tryz.prog 288 (.pointer (some ⟨b, o, none⟩)) v σ = putAt (row? σ b) σ b o 1 v := g_st inf_288 rfl
theorem st_29 {b o : Nat} {σ : Heap} {v : Value} : aStore Tryz.prog 29 (.pointer (some ⟨b, o, none⟩)) v σ = putAt (row? σ b) σ b o 1 v := g_st inf_29 rfl
theorem st_294 {b o : Nat} {σ : Heap} {v : Value} : aStore Tryz.prog 294 (.pointer (some ⟨b, o, none⟩)) v σ = putAt (row? σ b) σ b o 1 v := g_st inf_294 rfl
theorem st_296 {b o : Nat} {σ : Heap} {v : Value} : aStore Tryz.prog 296 (.pointer (some ⟨b, o, none⟩)) v σ = putAt (row? σ b) σ b o 1 v := g_st inf_296 rfl
theorem st_3 {b o : Nat} {σ : Heap} {v : Value} : aStore Tryz.prog 3 (.pointer (some ⟨b, o, none⟩)) v σ = putAt (row? σ b) σ b o 1 v := g_st inf_3 rfl
theorem st_33 {b o : Nat} {σ : Heap} {v : Value} : aStore Tryz.prog 33 (.pointer (some ⟨b, o, none⟩)) v σ = putAt (row? σ b) σ b o 1 v := g_st inf_33 rfl
theorem st_4 {b o : Nat} {σ : Heap} {v : Value} : aStore Tryz.prog 4 (.pointer (some ⟨b, o, none⟩)) v σ = putAt (row? σ b) σ b o 1 v := g_st inf_4 rfl
theorem st_45 {b o : Nat} {σ : Heap} {v : Value} : aStore Tryz.prog 45 (.pointer (some ⟨b, o, none⟩)) v σ = putAt (row? σ b) σ b o 6 v := g_st inf_45 rfl
theorem st_5 {b o : Nat} {σ : Heap} {v : Value} : aStore Tryz.prog 5 (.pointer (some ⟨b, o, none⟩)) v σ = putAt (row? σ b) σ b o 1 v := g_st inf_5 rfl
theorem st_51 {b o : Nat} {σ : Heap} {v : Value} : aStore Tryz.prog 51 (.pointer (some ⟨b, o, none⟩)) v σ = putAt (row? σ b) σ b o 1 v := g_st inf_51 rfl
theorem st_53 {b o : Nat} {σ : Heap} {v : Value} : aStore Tryz.prog 53 (.pointer (some ⟨b, o, none⟩)) v σ = putAt (row? σ b) σ b o 4 v := g_st inf_53 rfl
theorem st_59 {b o : Nat} {σ : Heap} {v : Value} : aStore Tryz.prog 59 (.pointer (some ⟨b, o, none⟩)) v σ = putAt (row? σ b) σ b o 1 v := g_st inf_59 rfl
theorem st_60 {b o : Nat} {σ : Heap} {v : Value} : aStore Tryz.prog 60 (.pointer (some ⟨b, o, none⟩)) v σ = putAt (row? σ b) σ b o 1 v := g_st inf_60 rfl
theorem st_62 {b o : Nat} {σ : Heap} {v : Value} : aStore Tryz.prog 62 (.pointer (some ⟨b, o, none⟩)) v σ = putAt (row? σ b) σ b o 4 v := g_st inf_62 rfl
theorem st_65 {b o : Nat} {σ : Heap} {v : Value} : aStore Tryz.prog 65 (.pointer (some ⟨b, o, none⟩)) v σ = putAt (row? σ b) σ b o 1 v := g_st inf_65 rfl
theorem st_69 {b o : Nat} {σ : Heap} {v : Value} : aStore Tryz.prog 69 (.pointer (some ⟨b, o, none⟩)) v σ = putAt (row? σ b) σ b o 1 v := g_st inf_69 rfl
theorem st_78 {b o : Nat} {σ : Heap} {v : Value} : aStore Tryz.prog 78 (.pointer (some ⟨b, o, none⟩)) v σ = putAt (row? σ b) σ b o 2 v := g_st inf_78 rfl
theorem st_9 {b o : Nat} {σ : Heap} {v : Value} : aStore Tryz.prog 9 (.pointer (some ⟨b, o, none⟩)) v σ = putAt (row? σ b) σ b o 1 v := g_st inf_9 rfl
theorem st_93 {b o : Nat} {σ : Heap} {v : Value} : aStore Tryz.prog 93 (.pointer (some ⟨b, o, none⟩)) v σ = putAt (row? σ b) σ b o 1 v := g_st inf_93 rfl
end Go.Abs
