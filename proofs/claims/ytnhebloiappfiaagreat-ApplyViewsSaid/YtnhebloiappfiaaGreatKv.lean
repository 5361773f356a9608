/- The closed facts of the row of ApplyViews: each is true by the kernel run. No condition. -/
import Derived.Test.YtnhebloiappfiaaGreatRows
import Derived.JoinedOf
namespace Go.Proofs.YtnhebloiappfiaaGreat
open Go
set_option maxRecDepth 100000
theorem and_mk {a b : Bool} (ha : a = true) (hb : b = true) : (a && b) = true := by rw [ha, hb]; rfl
theorem kv0 : (Rows.applyViewsRow.wf (OpenSpec.ofChange Rows.applyViewsSpec)) = true := by kernel_rfl
theorem kv1 : (laidOutB Tryz.prog) = true := by kernel_rfl
theorem kv2 : (mapsRowed Tryz.prog) = true := by kernel_rfl
theorem kv3 : (Tryz.f4.params.all (Tryz.prog.readableRec ·)) = true := by kernel_rfl
theorem kv4 : (namedTie Tryz.prog Rows.applyViewsRow.named Rows.applyViewsSpec.vars) = true := by kernel_rfl
theorem kv5 : ((Rows.applyViewsRow.stops == [])) = true := by kernel_rfl
theorem kv6 : ((Tryz.prog.stops == [])) = true := by kernel_rfl
theorem kv7 : ((Rows.applyViewsRow.knobs == [])) = true := by kernel_rfl
theorem kv8 : ((Tryz.prog.stopKnobs == [])) = true := by kernel_rfl
theorem kv9 : ((Rows.applyViewsRow.inPlace == Tryz.prog.inPlace 4)) = true := by kernel_rfl
theorem kv10 : ((Rows.applyViewsRow.unfollowed == Tryz.prog.unfollowed 4)) = true := by kernel_rfl
theorem kv11 : ((Rows.applyViewsRow.recurses == Tryz.prog.recurses 4)) = true := by kernel_rfl
theorem kv12 : ((Rows.applyViewsRow.named == Tryz.prog.varsNamed 4)) = true := by kernel_rfl
theorem kv13 : ((Rows.applyViewsRow.maps == (Tryz.f4.params.toList ++ Rows.applyViewsSpec.plain.varTypes Tryz.prog).any (Tryz.prog.mapsRec ·))) = true := by kernel_rfl
theorem kv14 : ((Rows.applyViewsRow.ifaces == (Tryz.f4.params.toList ++ Rows.applyViewsSpec.plain.varTypes Tryz.prog).any (Tryz.prog.ifacesRec ·))) = true := by kernel_rfl
theorem kv15 : ((Rows.applyViewsRow.mapsOut == Tryz.prog.mapsAmong Tryz.f4.resultTypes.toList)) = true := by kernel_rfl
theorem kv16 : ((Rows.applyViewsRow.loops == (Tryz.f4.params.toList ++ Rows.applyViewsSpec.plain.varTypes Tryz.prog).any (Tryz.prog.loopsFrom ·))) = true := by kernel_rfl
theorem kv17 : ((Rows.applyViewsRow.wideKeys == (Tryz.f4.params.toList ++ Rows.applyViewsSpec.plain.varTypes Tryz.prog ++ Tryz.f4.resultTypes.toList).any (Tryz.prog.wideKeysFrom ·))) = true := by kernel_rfl
theorem kv18 : (Rows.applyViewsSpec.vars.all (Tryz.prog.varReadable ·)) = true := by kernel_rfl
theorem kv19 : (Tryz.f4.resultTypes.all (fun t => Tryz.prog.readableRec t && decide (t < Tryz.prog.types.size))) = true := by kernel_rfl
theorem kv20 : ((Rows.applyViewsRow.ifacesOut == Tryz.f4.resultTypes.toList.any (Tryz.prog.ifacesRec ·))) = true := by kernel_rfl
theorem kv21 : ((Rows.applyViewsRow.loopsOut == Tryz.f4.resultTypes.toList.any (Tryz.prog.loopsFrom ·))) = true := by kernel_rfl
theorem kv22 : ((Rows.applyViewsRow.plainKeys == Tryz.prog.plainKeys)) = true := by kernel_rfl
theorem kv23 : (Rows.applyViewsRow.shortTexts.isNone) = true := by kernel_rfl
theorem kv24 : (Tryz.prog.stopsHeard) = true := by kernel_rfl
theorem kv25 : (Tryz.prog.mayEnter) = true := by kernel_rfl
theorem kv26 : ((Rows.applyViewsRow.lifted == Tryz.prog.liftsFinal)) = true := by kernel_rfl
theorem kv27 : ((Tryz.prog.make == some Rows.applyViewsRow.make)) = true := by kernel_rfl
theorem kv28 : ((Rows.applyViewsRow.kinds == (if Rows.applyViewsRow.domain.isEmpty then [] else Tryz.f4.params.toList.map fun t => match Tryz.prog.underlying t with | some (.int k) => some k | _ => none))) = true := by kernel_rfl
theorem kv29 : ((Rows.applyViewsRow.pinned == Rows.applyViewsRow.pinnedBy)) = true := by kernel_rfl
theorem kv30 : ((Rows.applyViewsRow.veiled == (Tryz.f4.params.toList ++ Rows.applyViewsSpec.plain.varTypes Tryz.prog ++ Tryz.f4.resultTypes.toList).any (Tryz.prog.veiledRec ·))) = true := by kernel_rfl
theorem kv31 : (Rows.applyViewsRow.veiledFits Tryz.prog Tryz.f4.params.toList (Tryz.f4.params.toList ++ Rows.applyViewsSpec.plain.varTypes Tryz.prog ++ Tryz.f4.resultTypes.toList)) = true := by kernel_rfl
theorem kv_all : joinedFacts Tryz.prog 4 Tryz.f4 Rows.applyViewsSpec Rows.applyViewsRow = true := (and_mk (and_mk (and_mk (and_mk (and_mk (and_mk (and_mk (and_mk (and_mk (and_mk (and_mk (and_mk (and_mk (and_mk (and_mk (and_mk (and_mk (and_mk (and_mk (and_mk (and_mk (and_mk (and_mk (and_mk (and_mk (and_mk (and_mk (and_mk (and_mk (and_mk (and_mk kv0 kv1) kv2) kv3) kv4) kv5) kv6) kv7) kv8) kv9) kv10) kv11) kv12) kv13) kv14) kv15) kv16) kv17) kv18) kv19) kv20) kv21) kv22) kv23) kv24) kv25) kv26) kv27) kv28) kv29) kv30) kv31)
end Go.Proofs.YtnhebloiappfiaaGreat
