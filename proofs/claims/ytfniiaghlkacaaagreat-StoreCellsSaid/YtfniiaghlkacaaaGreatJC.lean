import Derived.Test.YtfniiaghlkacaaaGreatAm26
import Derived.Test.YtfniiaghlkacaaaGreatRows
namespace Go.Proofs.YtfniiaghlkacaaaGreat
open Go Go.ChangeShapes Go.WideShapes Go.ChangeAt Go.RowKit
theorem and_tt {a b : Bool} (h : a = true) (k : b = true) : (a && b) = true := by rw [h, k]; rfl
theorem storeCellsJ0 : (Rows.storeCellsRow.wf (OpenSpec.ofChange Rows.storeCellsSpec)) = true := by kernel_rfl
theorem storeCellsJ1 : (laidOutB Tryz.prog) = true := by kernel_rfl
theorem storeCellsJ2 : (mapsRowed Tryz.prog) = true := by kernel_rfl
theorem storeCellsJ3 : (Tryz.f5.params.all (Tryz.prog.readableRec ·)) = true := by kernel_rfl
theorem storeCellsJ4 : (namedTie Tryz.prog Rows.storeCellsRow.named Rows.storeCellsSpec.vars) = true := by kernel_rfl
theorem storeCellsJ5 : ((Rows.storeCellsRow.stops == [])) = true := by kernel_rfl
theorem storeCellsJ6 : ((Tryz.prog.stops == [])) = true := by kernel_rfl
theorem storeCellsJ7 : ((Rows.storeCellsRow.knobs == [])) = true := by kernel_rfl
theorem storeCellsJ8 : ((Tryz.prog.stopKnobs == [])) = true := by kernel_rfl
theorem storeCellsJ9 : ((Rows.storeCellsRow.inPlace == Tryz.prog.inPlace 5)) = true := by kernel_rfl
theorem storeCellsJ10 : ((Rows.storeCellsRow.unfollowed == Tryz.prog.unfollowed 5)) = true := by kernel_rfl
theorem storeCellsJ11 : ((Rows.storeCellsRow.recurses == Tryz.prog.recurses 5)) = true := by kernel_rfl
theorem storeCellsJ12 : ((Rows.storeCellsRow.named == Tryz.prog.varsNamed 5)) = true := by kernel_rfl
theorem storeCellsJ13 : ((Rows.storeCellsRow.maps == (Tryz.f5.params.toList ++ Rows.storeCellsSpec.plain.varTypes Tryz.prog).any (Tryz.prog.mapsRec ·))) = true := by kernel_rfl
theorem storeCellsJ14 : ((Rows.storeCellsRow.ifaces == (Tryz.f5.params.toList ++ Rows.storeCellsSpec.plain.varTypes Tryz.prog).any (Tryz.prog.ifacesRec ·))) = true := by kernel_rfl
theorem storeCellsJ15 : ((Rows.storeCellsRow.mapsOut == Tryz.prog.mapsAmong Tryz.f5.resultTypes.toList)) = true := by kernel_rfl
theorem storeCellsJ16 : ((Rows.storeCellsRow.loops == (Tryz.f5.params.toList ++ Rows.storeCellsSpec.plain.varTypes Tryz.prog).any (Tryz.prog.loopsFrom ·))) = true := by kernel_rfl
theorem storeCellsJ17 : ((Rows.storeCellsRow.wideKeys == (Tryz.f5.params.toList ++ Rows.storeCellsSpec.plain.varTypes Tryz.prog ++ Tryz.f5.resultTypes.toList).any (Tryz.prog.wideKeysFrom ·))) = true := by kernel_rfl
theorem storeCellsJ18 : (Rows.storeCellsSpec.vars.all (Tryz.prog.varReadable ·)) = true := by kernel_rfl
theorem storeCellsJ19 : (Tryz.f5.resultTypes.all (fun t => Tryz.prog.readableRec t && decide (t < Tryz.prog.types.size))) = true := by kernel_rfl
theorem storeCellsJ20 : ((Rows.storeCellsRow.ifacesOut == Tryz.f5.resultTypes.toList.any (Tryz.prog.ifacesRec ·))) = true := by kernel_rfl
theorem storeCellsJ21 : ((Rows.storeCellsRow.loopsOut == Tryz.f5.resultTypes.toList.any (Tryz.prog.loopsFrom ·))) = true := by kernel_rfl
theorem storeCellsJ22 : ((Rows.storeCellsRow.plainKeys == Tryz.prog.plainKeys)) = true := by kernel_rfl
theorem storeCellsJ23 : (Rows.storeCellsRow.shortTexts.isNone) = true := by kernel_rfl
theorem storeCellsJ24 : (Tryz.prog.stopsHeard) = true := by kernel_rfl
theorem storeCellsJ25 : (Tryz.prog.mayEnter) = true := by kernel_rfl
theorem storeCellsJ26 : ((Rows.storeCellsRow.lifted == Tryz.prog.liftsFinal)) = true := by kernel_rfl
theorem storeCellsJ27 : ((Tryz.prog.make == some Rows.storeCellsRow.make)) = true := by kernel_rfl
theorem storeCellsJ29 : ((Rows.storeCellsRow.pinned == Rows.storeCellsRow.pinnedBy)) = true := by kernel_rfl
theorem storeCellsJ30 : ((Rows.storeCellsRow.veiled == (Tryz.f5.params.toList ++ Rows.storeCellsSpec.plain.varTypes Tryz.prog ++ Tryz.f5.resultTypes.toList).any (Tryz.prog.veiledRec ·))) = true := by kernel_rfl
theorem storeCellsJ31 : (Rows.storeCellsRow.veiledFits Tryz.prog Tryz.f5.params.toList (Tryz.f5.params.toList ++ Rows.storeCellsSpec.plain.varTypes Tryz.prog ++ Tryz.f5.resultTypes.toList)) = true := by kernel_rfl
set_option maxRecDepth 100000 in
theorem storeCells_closed : joinedFacts Tryz.prog 5 Tryz.f5 Rows.storeCellsSpec Rows.storeCellsRow = true := by
  unfold joinedFacts
  refine (and_tt (and_tt (and_tt (and_tt (and_tt (and_tt (and_tt (and_tt (and_tt (and_tt (and_tt (and_tt (and_tt (and_tt (and_tt (and_tt (and_tt (and_tt (and_tt (and_tt (and_tt (and_tt (and_tt (and_tt (and_tt (and_tt (and_tt (and_tt (and_tt (and_tt (and_tt storeCellsJ0 storeCellsJ1) storeCellsJ2) storeCellsJ3) storeCellsJ4) storeCellsJ5) storeCellsJ6) storeCellsJ7) storeCellsJ8) storeCellsJ9) storeCellsJ10) storeCellsJ11) storeCellsJ12) storeCellsJ13) storeCellsJ14) storeCellsJ15) storeCellsJ16) storeCellsJ17) storeCellsJ18) storeCellsJ19) storeCellsJ20) storeCellsJ21) storeCellsJ22) storeCellsJ23) storeCellsJ24) storeCellsJ25) storeCellsJ26) storeCellsJ27) ?_) storeCellsJ29) storeCellsJ30) storeCellsJ31)
  all_goals kernel_rfl
end Go.Proofs.YtfniiaghlkacaaaGreat
