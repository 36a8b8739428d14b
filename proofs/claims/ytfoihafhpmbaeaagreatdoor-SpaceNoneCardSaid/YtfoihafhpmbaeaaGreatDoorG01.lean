/- The scanner's letters. -/
import Derived.Test.YtfoihafhpmbaeaaGreatDoorG00
import Derived.Test.YtfoihafhpmbaeaaGreatDoorProg
namespace Go.Proofs.YtfoihafhpmbaeaaGreatDoor
open Go.RowKit

theorem ret_bool {a b : Bool} (h : a = b) : Ending.returned (.bool a) = .returned (.bool b) := by rw [h]
theorem ret_int {k : IntKind} {a b : Int} (h : a = b) : Ending.returned (.int k a) = .returned (.int k b) := by rw [h]

def letterB (c : Int) : Bool := (decide (97 ≤ c) && decide (c ≤ 122)) || (decide (65 ≤ c) && decide (c ≤ 90))
def digitB (c : Int) : Bool := decide (48 ≤ c) && decide (c ≤ 57)
def innerB (c : Int) : Bool := letterB c || digitB c || c == 95
def noteB (c : Int) : Bool := c != 10

theorem letter_calls (c : Int) (w : World) : Calls Tryz.prog 273 #[.int .u8 c] w fun e w' => e = .returned (.bool (letterB c)) ∧ w = w' := by
  have key : ∀ b, letterB c = b → Calls Tryz.prog 273 #[.int .u8 c] w fun e w' => e = .returned (.bool b) ∧ w = w' := by
    intro b hb
    have Hb := Lib.hid hb
    clear hb
    by_cases h1 : 97 ≤ c <;> by_cases h2 : c ≤ 122 <;> by_cases h3 : 65 ≤ c <;> by_cases h4 : c ≤ 90 <;> first
      | (exfalso; omega)
      | (have E := Hb.out
         simp [letterB, h1, h2, h3, h4] at E
         subst E
         clear Hb
         go_enter Tryz.func273, Tryz.ntmps273
         go_wp2_with fail
         go_ret
         exact ⟨rfl, rfl⟩)
  exact key _ rfl
theorem digit_calls (c : Int) (w : World) : Calls Tryz.prog 275 #[.int .u8 c] w fun e w' => e = .returned (.bool (digitB c)) ∧ w = w' := by
  have key : ∀ b, digitB c = b → Calls Tryz.prog 275 #[.int .u8 c] w fun e w' => e = .returned (.bool b) ∧ w = w' := by
    intro b hb
    have Hb := Lib.hid hb
    clear hb
    by_cases h1 : 48 ≤ c <;> by_cases h2 : c ≤ 57 <;> first
      | (exfalso; omega)
      | (have E := Hb.out
         simp [digitB, h1, h2] at E
         subst E
         clear Hb
         go_enter Tryz.func275, Tryz.ntmps275
         go_wp2_with fail
         go_ret
         exact ⟨rfl, rfl⟩)
  exact key _ rfl
theorem inner_calls (c : Int) (w : World) : Calls Tryz.prog 307 #[.int .u8 c] w fun e w' => e = .returned (.bool (innerB c)) ∧ w = w' := by
  have key : ∀ b1 b2 b3, letterB c = b1 → digitB c = b2 → (c == 95) = b3 → Calls Tryz.prog 307 #[.int .u8 c] w fun e w' => e = .returned (.bool (b1 || b2 || b3)) ∧ w = w' := by
    intro b1 b2 b3 h1 h2 h3
    have H1 := Lib.hid h1
    have H2 := Lib.hid h2
    clear h1 h2
    cases b1 <;> cases b2 <;> cases b3
    all_goals
      go_enter Tryz.func307, Tryz.ntmps307
      go_wp2_with (first | (go_at_call 273; refine (letter_calls c _).mono ?_; rintro e w' ⟨he, rfl⟩; rw [H1.out] at he; subst he) | (go_at_call 275; refine (digit_calls c _).mono ?_; rintro e w' ⟨he, rfl⟩; rw [H2.out] at he; subst he))
      go_ret
      exact ⟨by simp, rfl⟩
  exact key _ _ _ rfl rfl rfl
theorem noteEnd_calls (c : Int) (w : World) : Calls Tryz.prog 308 #[.int .u8 c] w fun e w' => e = .returned (.bool (noteB c)) ∧ w = w' := by
  go_enter Tryz.func308, Tryz.ntmps308
  go_wp2_with fail
  go_ret
  exact ⟨by simp [noteB], rfl⟩
end Go.Proofs.YtfoihafhpmbaeaaGreatDoor
