/-
  Facts of a row. Printed by wip/mkfacts.py.
-/
import Derived.Test.YthnkdbjeefemoaaGreatFacts
set_option maxRecDepth 100000
namespace Go.Proofs.YthnkdbjeefemoaaGreat.catalogNames
theorem k1 : Rows.catalogNamesRow.wf (OpenSpec.ofChange Rows.catalogNamesSpec) = true := by kernel_rfl
theorem k4 : Tryz.f4.params.all (Tryz.prog.readableRec ·) = true := by kernel_rfl
theorem k5 : namedTie Tryz.prog Rows.catalogNamesRow.named Rows.catalogNamesSpec.vars = true := by kernel_rfl
theorem k6 : (Rows.catalogNamesRow.stops == []) = true := by kernel_rfl
theorem k8 : (Rows.catalogNamesRow.knobs == []) = true := by kernel_rfl
theorem k10 : (Rows.catalogNamesRow.inPlace == Tryz.prog.inPlace 4) = true := by kernel_rfl
theorem k11 : (Rows.catalogNamesRow.unfollowed == Tryz.prog.unfollowed 4) = true := by kernel_rfl
theorem k12 : (Rows.catalogNamesRow.recurses == Tryz.prog.recurses 4) = true := by kernel_rfl
theorem k13 : (Rows.catalogNamesRow.named == Tryz.prog.varsNamed 4) = true := by kernel_rfl
theorem k14 : (Rows.catalogNamesRow.maps == (Tryz.f4.params.toList ++ Rows.catalogNamesSpec.plain.varTypes Tryz.prog).any (Tryz.prog.mapsRec ·)) = true := by kernel_rfl
theorem k15 : (Rows.catalogNamesRow.ifaces == (Tryz.f4.params.toList ++ Rows.catalogNamesSpec.plain.varTypes Tryz.prog).any (Tryz.prog.ifacesRec ·)) = true := by kernel_rfl
theorem k16 : (Rows.catalogNamesRow.mapsOut == Tryz.prog.mapsAmong Tryz.f4.resultTypes.toList) = true := by kernel_rfl
theorem k17 : (Rows.catalogNamesRow.loops == (Tryz.f4.params.toList ++ Rows.catalogNamesSpec.plain.varTypes Tryz.prog).any (Tryz.prog.loopsFrom ·)) = true := by kernel_rfl
theorem k18 : (Rows.catalogNamesRow.wideKeys == (Tryz.f4.params.toList ++ Rows.catalogNamesSpec.plain.varTypes Tryz.prog ++ Tryz.f4.resultTypes.toList).any (Tryz.prog.wideKeysFrom ·)) = true := by kernel_rfl
theorem k19 : Rows.catalogNamesSpec.vars.all (Tryz.prog.varReadable ·) = true := by kernel_rfl
theorem k20 : Tryz.f4.resultTypes.all (fun t => Tryz.prog.readableRec t && decide (t < Tryz.prog.types.size)) = true := by kernel_rfl
theorem k21 : (Rows.catalogNamesRow.ifacesOut == Tryz.f4.resultTypes.toList.any (Tryz.prog.ifacesRec ·)) = true := by kernel_rfl
theorem k22 : (Rows.catalogNamesRow.loopsOut == Tryz.f4.resultTypes.toList.any (Tryz.prog.loopsFrom ·)) = true := by kernel_rfl
theorem k23 : (Rows.catalogNamesRow.plainKeys == Tryz.prog.plainKeys) = true := by kernel_rfl
theorem k24 : Rows.catalogNamesRow.shortTexts.isNone = true := by kernel_rfl
theorem k27 : (Rows.catalogNamesRow.lifted == Tryz.prog.liftsFinal) = true := by kernel_rfl
theorem k28 : (Tryz.prog.make == some Rows.catalogNamesRow.make) = true := by kernel_rfl
theorem k29 : (Rows.catalogNamesRow.kinds == (if Rows.catalogNamesRow.domain.isEmpty then [] else Tryz.f4.params.toList.map fun t => match Tryz.prog.underlying t with | some (.int k) => some k | _ => none)) = true := by kernel_rfl
theorem k30 : (Rows.catalogNamesRow.pinned == Rows.catalogNamesRow.pinnedBy) = true := by kernel_rfl
theorem k31 : (Rows.catalogNamesRow.veiled == (Tryz.f4.params.toList ++ Rows.catalogNamesSpec.plain.varTypes Tryz.prog ++ Tryz.f4.resultTypes.toList).any (Tryz.prog.veiledRec ·)) = true := by kernel_rfl
theorem k32 : Rows.catalogNamesRow.veiledFits Tryz.prog Tryz.f4.params.toList (Tryz.f4.params.toList ++ Rows.catalogNamesSpec.plain.varTypes Tryz.prog ++ Tryz.f4.resultTypes.toList) = true := by kernel_rfl
theorem closed : joinedFacts Tryz.prog 4 Tryz.f4 Rows.catalogNamesSpec Rows.catalogNamesRow = true := by
  unfold joinedFacts
  exact b_and (b_and (b_and (b_and (b_and (b_and (b_and (b_and (b_and (b_and (b_and (b_and (b_and (b_and (b_and (b_and (b_and (b_and (b_and (b_and (b_and (b_and (b_and (b_and (b_and (b_and (b_and (b_and (b_and (b_and (b_and (k1) pk2) pk3) k4) k5) k6) pk7) k8) pk9) k10) k11) k12) k13) k14) k15) k16) k17) k18) k19) k20) k21) k22) k23) k24) pk25) pk26) k27) k28) k29) k30) k31) k32
end Go.Proofs.YthnkdbjeefemoaaGreat.catalogNames
