/- Proved: concourselaw36.SpaceNone returns true for every input, and its two arguments read afterwards as they read before; its conditions are the row's own: the five listed library tables read as the program's text lays them (tied by the card; one of them, unicode/utf8.first, is held against a constant of the form), and each string that comes in takes at most 2^47 - 4096 bytes. -/
import Derived.SevenTiedAt
import Derived.Test.YtfoihafhpmbaeaaGreatDoorG32
import Derived.Test.YtfoihafhpmbaeaaGreatDoorG34
import Derived.Test.YtfoihafhpmbaeaaGreatDoorG35
import Derived.Test.YtfoihafhpmbaeaaGreatDoorTie
namespace Go.Proofs.YtfoihafhpmbaeaaGreatDoor
open Go

theorem spaceNone_row : Rows.SpaceNoneSaid :=
  OpenClaim.holds_of_wide (p := Tryz.pinned) 3 Tryz.f3 rfl rfl rfl rfl rfl rfl rfl ⟨rfl, rfl, rfl, rfl, rfl⟩ rfl rfl rfl rfl rfl row_named Tryz.func3 row_facts
    row_inst row_wrap
    (fun os started H enc _ => spaceNone_lifted os started H enc)

theorem spaceNone_holds : Rows.SpaceNoneCardSaid :=
  Claim7.holds_tied_plain_at .later [] [.data, .data, .data, .data, .pinned] true (true, "04392e4ce6d8bfee2573b2f22ffe8a73e230435134ed435ca8f71d9321964af4") true
    spaceNone_row (fun _ h => by cases h) row_wfText (fun _ h => by cases h) spaceNone_row_tie rfl ⟨rfl, rfl⟩ row_main rfl
    (fun f fn hf hfn => by
      obtain rfl : f = 3 := Option.some.inj (row_named.symm.trans hf) |>.symm
      obtain rfl : fn = Tryz.f3 := (Option.some.inj (Tryz.func3.symm.trans hfn)).symm
      exact ⟨row_looks, fun j t ht => by
        rw [Tryz.params3] at ht
        have hm : t ∈ [25, 27] := by simpa using Array.mem_of_getElem? ht
        exact (show Tryz.prog.wantsStandIn t = false by simpa using List.all_eq_true.1 row_stand t hm)⟩)
    row_goes
end Go.Proofs.YtfoihafhpmbaeaaGreatDoor
