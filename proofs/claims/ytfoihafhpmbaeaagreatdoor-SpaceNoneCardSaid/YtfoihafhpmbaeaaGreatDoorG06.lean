/- What tenants ask, put. -/
import Derived.Deep.RegionHeld3
import Derived.Outline
import Derived.Test.YtfoihafhpmbaeaaGreatDoorG05
namespace Go.Proofs.YtfoihafhpmbaeaaGreatDoor
open Go.RowKit

theorem PutCancel_calls (n : Int) (w : World) (hn : u64ok n) :
    Calls Tryz.prog 54 #[.int .u64 n] w fun e w' => e = .returned (.string (vputS n)) ∧ Below w.heap.size w w' := by
  have HP := Lib.hid (fun W => Put_calls n W hn)
  generalize vputS n = s at *
  go_enter Tryz.func54, Tryz.ntmps54
  go_wp2_with fail
  refine (HP.out _).mono ?_
  rintro e w' ⟨rfl, hB⟩
  go_wp2_with fail
  go_ret
  exact ⟨rfl, hB⟩
theorem cnumber_calls (n : Int) (w : World) (h0 : 0 ≤ n) (h1 : n ≤ 9223372036854775807) :
    Calls Tryz.prog 56 #[.int .i64 n] w fun e w' => e = .returned (.string (vputS n)) ∧ Below w.heap.size w w' := by
  have HP := Lib.hid (fun W => Put_calls n W ⟨h0, by omega⟩)
  generalize vputS n = s at *
  go_enter Tryz.func56, Tryz.ntmps56
  go_wp2_with fail
  refine (HP.out _).mono ?_
  rintro e w' ⟨rfl, hB⟩
  go_wp2_with fail
  go_ret
  exact ⟨rfl, hB⟩

def putCallS (id : Int) (args : ByteArray) : ByteArray := vputS id ++ vputS 0 ++ vputS 0 ++ args
/-- the boxed call -/
def PC (b0 : Nat) (id : Int) (args : ByteArray) (W0 W : World) : Prop := Below b0 W0 W ∧ Blk W b0 [.int .u64 id, .int .i64 0, .int .i64 0, .string args] 82
theorem PC.cells {b0 : Nat} {id : Int} {args : ByteArray} {W0 W : World} (h : PC b0 id args W0 W) :
    W.cell? ⟨b0, 0, none⟩ = some (.int .u64 id) ∧ W.cell? ⟨b0, 1, none⟩ = some (.int .i64 0) ∧ W.cell? ⟨b0, 2, none⟩ = some (.int .i64 0) ∧ W.cell? ⟨b0, 3, none⟩ = some (.string args) :=
  ⟨h.2.cell 0, h.2.cell 1, h.2.cell 2, h.2.cell 3⟩
theorem PC.step {b0 : Nat} {id : Int} {args : ByteArray} {W0 W W' : World} (h : PC b0 id args W0 W) (g : Below W.heap.size W W') : PC b0 id args W0 W' :=
  ⟨h.1.up g (Nat.le_of_lt h.2.lt), h.2.below g h.2.lt⟩
theorem PutCall_calls (id : Int) (args : ByteArray) (w : World) (hn : u64ok id) (ha : args.size ≤ 140737488355328) :
    Calls Tryz.prog 22 #[.agg #[.int .u64 id, .int .i64 0, .int .i64 0, .string args]] w fun e w' => e = .returned (.string (putCallS id args)) ∧ Below w.heap.size w w' := by
  have HP : Hid (∀ W, PC w.heap.size id args w W → Calls Tryz.prog 55 #[.int .u64 id] W fun e w' => e = .returned (.string (vputS id)) ∧ PC w.heap.size id args w w' ∧ w'.cell? ⟨w.heap.size, 0, none⟩ = some (.int .u64 id) ∧ w'.cell? ⟨w.heap.size, 1, none⟩ = some (.int .i64 0) ∧ w'.cell? ⟨w.heap.size, 2, none⟩ = some (.int .i64 0) ∧ w'.cell? ⟨w.heap.size, 3, none⟩ = some (.string args)) := fun W h =>
    (Put_calls id W hn).mono (by rintro e w' ⟨rfl, g⟩; exact ⟨rfl, h.step g, (h.step g).cells⟩)
  have HM : Hid (∀ W, PC w.heap.size id args w W → Calls Tryz.prog 56 #[.int .i64 0] W fun e w' => e = .returned (.string (vputS 0)) ∧ PC w.heap.size id args w w' ∧ w'.cell? ⟨w.heap.size, 0, none⟩ = some (.int .u64 id) ∧ w'.cell? ⟨w.heap.size, 1, none⟩ = some (.int .i64 0) ∧ w'.cell? ⟨w.heap.size, 2, none⟩ = some (.int .i64 0) ∧ w'.cell? ⟨w.heap.size, 3, none⟩ = some (.string args)) := fun W h =>
    (cnumber_calls 0 W (by decide) (by decide)).mono (by rintro e w' ⟨rfl, g⟩; exact ⟨rfl, h.step g, (h.step g).cells⟩)
  have h0 : PC w.heap.size id args w ((w.alloc (.cells #[.int .u64 id, .int .i64 0, .int .i64 0, .string args] 82)).drew) := ⟨((Below.refl _ _).alloc (Nat.le_refl _) _).drew, (Blk.new w _ _).keep rfl⟩
  have s1 := vputS_size id
  have s2 := vputS_size 0
  unfold putCallS
  generalize vputS id = A at *
  generalize vputS 0 = Z at *
  have a1 : ∀ W : World, (Op.stringOp .add A Z).run Tryz.prog W = .ok (.string (A ++ Z)) W := fun W => run_string_add_sum W _ _ (by omega)
  have a2 : ∀ W : World, (Op.stringOp .add (A ++ Z) Z).run Tryz.prog W = .ok (.string (A ++ Z ++ Z)) W := fun W => run_string_add_sum W _ _ (by simp [ByteArray.size_append]; omega)
  have a3 : ∀ W : World, (Op.stringOp .add (A ++ Z ++ Z) args).run Tryz.prog W = .ok (.string (A ++ Z ++ Z ++ args)) W := fun W => run_string_add_sum W _ _ (by simp [ByteArray.size_append]; omega)
  go_enter Tryz.func22, Tryz.ntmps22
  go_wp2_with fail
  go_region_held3 (fun W => W.cell? ⟨w.heap.size, 0, none⟩ = some (.int .u64 id) ∧ W.cell? ⟨w.heap.size, 1, none⟩ = some (.int .i64 0) ∧ W.cell? ⟨w.heap.size, 2, none⟩ = some (.int .i64 0) ∧ W.cell? ⟨w.heap.size, 3, none⟩ = some (.string args))
    (first | go_keep | exact ⟨c0, c1, c2, c3⟩)
    ((first
      | (go_at_call 55; refine (HP.out _ h0).mono ?_; rintro e w2 ⟨rfl, h2, c0, c1, c2, c3⟩)
      | (go_at_call 56; first
          | (refine (HM.out _ h3).mono ?_; rintro e w4 ⟨rfl, h4, c0, c1, c2, c3⟩)
          | (refine (HM.out _ h2).mono ?_; rintro e w3 ⟨rfl, h3, c0, c1, c2, c3⟩))))
  go_wp2_with fail
  go_ret
  exact ⟨rfl, h4.1⟩
end Go.Proofs.YtfoihafhpmbaeaaGreatDoor
