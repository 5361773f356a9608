import Derived.Test.YtnkamghdikbmaaaGreatRows
import Derived.JoinedOf
namespace Go.Proofs.YtnkamghdikbmaaaGreat
open Go
set_option maxRecDepth 100000
theorem and_mk {a b : Bool} (ha : a = true) (hb : b = true) : (a && b) = true := by rw [ha, hb]; rfl
theorem kv0 : (Rows.vjpPlacesRow.wf (OpenSpec.ofChange Rows.vjpPlacesSpec)) = true := by kernel_rfl
theorem kv1 : (laidOutB Tryz.prog) = true := by kernel_rfl
theorem kv2 : (mapsRowed Tryz.prog) = true := by kernel_rfl
theorem kv3 : (Tryz.f3.params.all (Tryz.prog.readableRec ·)) = true := by kernel_rfl
theorem kv4 : (namedTie Tryz.prog Rows.vjpPlacesRow.named Rows.vjpPlacesSpec.vars) = true := by kernel_rfl
theorem kv5 : ((Rows.vjpPlacesRow.stops == [])) = true := by kernel_rfl
theorem kv6 : ((Tryz.prog.stops == [])) = true := by kernel_rfl
theorem kv7 : ((Rows.vjpPlacesRow.knobs == [])) = true := by kernel_rfl
theorem kv8 : ((Tryz.prog.stopKnobs == [])) = true := by kernel_rfl
theorem kv9 : ((Rows.vjpPlacesRow.inPlace == Tryz.prog.inPlace 3)) = true := by kernel_rfl
theorem kv10 : ((Rows.vjpPlacesRow.unfollowed == Tryz.prog.unfollowed 3)) = true := by kernel_rfl
theorem kv11 : ((Rows.vjpPlacesRow.recurses == Tryz.prog.recurses 3)) = true := by kernel_rfl
theorem kv12 : ((Rows.vjpPlacesRow.named == Tryz.prog.varsNamed 3)) = true := by kernel_rfl
theorem kv13 : ((Rows.vjpPlacesRow.maps == (Tryz.f3.params.toList ++ Rows.vjpPlacesSpec.plain.varTypes Tryz.prog).any (Tryz.prog.mapsRec ·))) = true := by kernel_rfl
theorem kv14 : ((Rows.vjpPlacesRow.ifaces == (Tryz.f3.params.toList ++ Rows.vjpPlacesSpec.plain.varTypes Tryz.prog).any (Tryz.prog.ifacesRec ·))) = true := by kernel_rfl
theorem kv15 : ((Rows.vjpPlacesRow.mapsOut == Tryz.prog.mapsAmong Tryz.f3.resultTypes.toList)) = true := by kernel_rfl
theorem kv16 : ((Rows.vjpPlacesRow.loops == (Tryz.f3.params.toList ++ Rows.vjpPlacesSpec.plain.varTypes Tryz.prog).any (Tryz.prog.loopsFrom ·))) = true := by kernel_rfl
theorem kv17 : ((Rows.vjpPlacesRow.wideKeys == (Tryz.f3.params.toList ++ Rows.vjpPlacesSpec.plain.varTypes Tryz.prog ++ Tryz.f3.resultTypes.toList).any (Tryz.prog.wideKeysFrom ·))) = true := by kernel_rfl
theorem kv18 : (Rows.vjpPlacesSpec.vars.all (Tryz.prog.varReadable ·)) = true := by kernel_rfl
theorem kv19 : (Tryz.f3.resultTypes.all (fun t => Tryz.prog.readableRec t && decide (t < Tryz.prog.types.size))) = true := by kernel_rfl
theorem kv20 : ((Rows.vjpPlacesRow.ifacesOut == Tryz.f3.resultTypes.toList.any (Tryz.prog.ifacesRec ·))) = true := by kernel_rfl
theorem kv21 : ((Rows.vjpPlacesRow.loopsOut == Tryz.f3.resultTypes.toList.any (Tryz.prog.loopsFrom ·))) = true := by kernel_rfl
theorem kv22 : ((Rows.vjpPlacesRow.plainKeys == Tryz.prog.plainKeys)) = true := by kernel_rfl
theorem kv23 : (Rows.vjpPlacesRow.shortTexts.isNone) = true := by kernel_rfl
theorem kv24 : (Tryz.prog.stopsHeard) = true := by kernel_rfl
theorem kv25 : (Tryz.prog.mayEnter) = true := by kernel_rfl
theorem kv26 : ((Rows.vjpPlacesRow.lifted == Tryz.prog.liftsFinal)) = true := by kernel_rfl
theorem kv27 : ((Tryz.prog.make == some Rows.vjpPlacesRow.make)) = true := by kernel_rfl
theorem kv28 : ((Rows.vjpPlacesRow.kinds == (if Rows.vjpPlacesRow.domain.isEmpty then [] else Tryz.f3.params.toList.map fun t => match Tryz.prog.underlying t with | some (.int k) => some k | _ => none))) = true := by kernel_rfl
theorem kv29 : ((Rows.vjpPlacesRow.pinned == Rows.vjpPlacesRow.pinnedBy)) = true := by kernel_rfl
theorem kv30 : ((Rows.vjpPlacesRow.veiled == (Tryz.f3.params.toList ++ Rows.vjpPlacesSpec.plain.varTypes Tryz.prog ++ Tryz.f3.resultTypes.toList).any (Tryz.prog.veiledRec ·))) = true := by kernel_rfl
theorem kv31 : (Rows.vjpPlacesRow.veiledFits Tryz.prog Tryz.f3.params.toList (Tryz.f3.params.toList ++ Rows.vjpPlacesSpec.plain.varTypes Tryz.prog ++ Tryz.f3.resultTypes.toList)) = true := by kernel_rfl
theorem kv_all : joinedFacts Tryz.prog 3 Tryz.f3 Rows.vjpPlacesSpec Rows.vjpPlacesRow = true := (and_mk (and_mk (and_mk (and_mk (and_mk (and_mk (and_mk (and_mk (and_mk (and_mk (and_mk (and_mk (and_mk (and_mk (and_mk (and_mk (and_mk (and_mk (and_mk (and_mk (and_mk (and_mk (and_mk (and_mk (and_mk (and_mk (and_mk (and_mk (and_mk (and_mk (and_mk kv0 kv1) kv2) kv3) kv4) kv5) kv6) kv7) kv8) kv9) kv10) kv11) kv12) kv13) kv14) kv15) kv16) kv17) kv18) kv19) kv20) kv21) kv22) kv23) kv24) kv25) kv26) kv27) kv28) kv29) kv30) kv31)
end Go.Proofs.YtnkamghdikbmaaaGreat
