/- The closed facts of the law's row, each by itself. -/
import Derived.JoinedOf
import Derived.KernelRfl
import Derived.Test.YtfoihafhpmbaeaaGreatDoorRows
namespace Go.Proofs.YtfoihafhpmbaeaaGreatDoor
open Go

theorem and_both {a b : Bool} (h : a = true) (k : b = true) : (a && b) = true := by rw [h, k]; rfl
theorem row_fact0 : (Rows.spaceNoneRow.wf (OpenSpec.ofChange Rows.spaceNoneSpec)) = true := by kernel_rfl
theorem row_fact1 : (laidOutB Tryz.prog) = true := by kernel_rfl
theorem row_fact2 : (mapsRowed Tryz.prog) = true := by kernel_rfl
theorem row_fact3 : (Tryz.f3.params.all (Tryz.prog.readableRec ·)) = true := by kernel_rfl
theorem row_fact4 : (namedTie Tryz.prog Rows.spaceNoneRow.named Rows.spaceNoneSpec.vars) = true := by kernel_rfl
theorem row_fact5 : ((Rows.spaceNoneRow.stops == [])) = true := by kernel_rfl
theorem row_fact6 : ((Tryz.prog.stops == [])) = true := by kernel_rfl
theorem row_fact7 : ((Rows.spaceNoneRow.knobs == [])) = true := by kernel_rfl
theorem row_fact8 : ((Tryz.prog.stopKnobs == [])) = true := by kernel_rfl
theorem row_fact9 : ((Rows.spaceNoneRow.inPlace == Tryz.prog.inPlace 3)) = true := by kernel_rfl
theorem row_fact10 : ((Rows.spaceNoneRow.unfollowed == Tryz.prog.unfollowed 3)) = true := by kernel_rfl
theorem row_fact11 : ((Rows.spaceNoneRow.recurses == Tryz.prog.recurses 3)) = true := by kernel_rfl
theorem row_fact12 : ((Rows.spaceNoneRow.named == Tryz.prog.varsNamed 3)) = true := by kernel_rfl
theorem row_fact13 : ((Rows.spaceNoneRow.maps == (Tryz.f3.params.toList ++ Rows.spaceNoneSpec.plain.varTypes Tryz.prog).any (Tryz.prog.mapsRec ·))) = true := by kernel_rfl
theorem row_fact14 : ((Rows.spaceNoneRow.ifaces == (Tryz.f3.params.toList ++ Rows.spaceNoneSpec.plain.varTypes Tryz.prog).any (Tryz.prog.ifacesRec ·))) = true := by kernel_rfl
theorem row_fact15 : ((Rows.spaceNoneRow.mapsOut == Tryz.prog.mapsAmong Tryz.f3.resultTypes.toList)) = true := by kernel_rfl
theorem row_fact16 : ((Rows.spaceNoneRow.loops == (Tryz.f3.params.toList ++ Rows.spaceNoneSpec.plain.varTypes Tryz.prog).any (Tryz.prog.loopsFrom ·))) = true := by kernel_rfl
theorem row_fact17 : ((Rows.spaceNoneRow.wideKeys == (Tryz.f3.params.toList ++ Rows.spaceNoneSpec.plain.varTypes Tryz.prog ++ Tryz.f3.resultTypes.toList).any (Tryz.prog.wideKeysFrom ·))) = true := by kernel_rfl
theorem row_fact18 : (Rows.spaceNoneSpec.vars.all (Tryz.prog.varReadable ·)) = true := by kernel_rfl
theorem row_fact19 : (Tryz.f3.resultTypes.all (fun t => Tryz.prog.readableRec t && decide (t < Tryz.prog.types.size))) = true := by kernel_rfl
theorem row_fact20 : ((Rows.spaceNoneRow.ifacesOut == Tryz.f3.resultTypes.toList.any (Tryz.prog.ifacesRec ·))) = true := by kernel_rfl
theorem row_fact21 : ((Rows.spaceNoneRow.loopsOut == Tryz.f3.resultTypes.toList.any (Tryz.prog.loopsFrom ·))) = true := by kernel_rfl
theorem row_fact22 : ((Rows.spaceNoneRow.plainKeys == Tryz.prog.plainKeys)) = true := by kernel_rfl
theorem row_fact23 : (Rows.spaceNoneRow.shortTexts.isNone) = true := by kernel_rfl
theorem row_fact24 : (Tryz.prog.stopsHeard) = true := by kernel_rfl
theorem row_fact25 : (Tryz.prog.mayEnter) = true := by kernel_rfl
theorem row_fact26 : ((Rows.spaceNoneRow.lifted == Tryz.prog.liftsFinal)) = true := by kernel_rfl
theorem row_fact27 : ((Tryz.prog.make == some Rows.spaceNoneRow.make)) = true := by kernel_rfl
theorem row_fact28 : ((Rows.spaceNoneRow.kinds == (if Rows.spaceNoneRow.domain.isEmpty then [] else Tryz.f3.params.toList.map fun t => match Tryz.prog.underlying t with | some (.int k) => some k | _ => none))) = true := by kernel_rfl
theorem row_fact29 : ((Rows.spaceNoneRow.pinned == Rows.spaceNoneRow.pinnedBy)) = true := by kernel_rfl
theorem row_fact30 : ((Rows.spaceNoneRow.veiled == (Tryz.f3.params.toList ++ Rows.spaceNoneSpec.plain.varTypes Tryz.prog ++ Tryz.f3.resultTypes.toList).any (Tryz.prog.veiledRec ·))) = true := by kernel_rfl
theorem row_fact31 : (Rows.spaceNoneRow.veiledFits Tryz.prog Tryz.f3.params.toList (Tryz.f3.params.toList ++ Rows.spaceNoneSpec.plain.varTypes Tryz.prog ++ Tryz.f3.resultTypes.toList)) = true := by kernel_rfl
theorem row_named : Tryz.prog.funcNamed "concourse/concourselaw36.SpaceNone" = some 3 := by kernel_rfl
end Go.Proofs.YtfoihafhpmbaeaaGreatDoor
