/- The closed facts of the card. -/
import Derived.KernelRfl
import Derived.SevenTiedAt
import Derived.Test.YtfoihafhpmbaeaaGreatDoorCards
namespace Go.Proofs.YtfoihafhpmbaeaaGreatDoor
open Go

theorem row_inst : Tryz.f3.isInstance Tryz.prog Rows.spaceNoneRow.origin Rows.spaceNoneRow.targs := of_decide_eq_true (by kernel_rfl)
theorem row_wrap : Tryz.f3.isWrapper Tryz.prog Rows.spaceNoneRow.wrapper Rows.spaceNoneRow.mainSum := by unfold Func.isWrapper; first | (rw [if_pos (by decide +kernel)]; kernel_rfl) | (rw [if_neg (by decide +kernel)]; exact ⟨rfl, rfl⟩)
theorem row_wfText : Rows.spaceNoneRow.wfByText (OpenSpec.ofChange Rows.spaceNoneSpec) = true := by kernel_rfl
theorem row_main : Tryz.prog.mainIs = some (true, "04392e4ce6d8bfee2573b2f22ffe8a73e230435134ed435ca8f71d9321964af4".toList) := by kernel_rfl
theorem row_looks : true = Tryz.prog.looks [] := by kernel_rfl
theorem row_goes : false = Rows.spaceNoneRow.goesBy Tryz.prog := by kernel_rfl
theorem row_stand : ([25, 27].all fun u => !Tryz.prog.wantsStandIn u) = true := by kernel_rfl
end Go.Proofs.YtfoihafhpmbaeaaGreatDoor
