/- The scanner takes a note. -/
import Derived.Test.YtfoihafhpmbaeaaGreatDoorG04
import Derived.Test.YtfoihafhpmbaeaaGreatDoorG07
namespace Go.Proofs.YtfoihafhpmbaeaaGreatDoor
open Go.RowKit

def noteAt (s : ByteArray) (k : Nat) : Bool := Lib.hasPrefix (s.extract k s.size).data.toList [47, 47]
def notLen (s : ByteArray) (k : Nat) : Nat := runLen noteB (s.data.toList.drop k)

theorem _root_.Go.RowKit.Below.dN {B : Nat} {a w : World} (h : Below B a w) (n : Nat) : Below B a (w.drewN n) := ⟨h.os, h.tape, h.output, h.size, h.block⟩
theorem _root_.Go.World.ownsRow.dN {w : World} {base size n : Nat} {e : TypeId} {v : Value} {xs : List Value} (h : w.ownsRow base e size v n xs) (m : Nat) : (w.drewN m).ownsRow base e size v n xs := h
theorem Lexer.dN {base bl : Nat} {s : ByteArray} {k : Nat} {l : List Tok} {w : World} (h : Lexer base bl s k l w) (n : Nat) : Lexer base bl s k l (w.drewN n) := ⟨h.1, h.2⟩

theorem note_calls (base bl : Nat) (s : ByteArray) (k : Nat) (l : List Tok) (w : World) (h : Lexer base bl s k l w) (hs : s.size ≤ 1048576) (hk : k ≤ s.size) :
    Calls Tryz.prog 277 #[.pointer (some ⟨bl, 0, none⟩)] w fun e w' =>
      e = .returned (.bool (noteAt s k)) ∧ Below base w w' ∧ Lexer base bl s (if noteAt s k then k + notLen s k else k) l w' := by
  obtain ⟨⟨ov, hb, hown, hne⟩, hbl⟩ := h
  have c0 := hb.cell 0
  have c1 := hb.cell 1
  simp at c0 c1
  have hn : k + notLen s k ≤ s.size := by have := runLen_le noteB (s.data.toList.drop k); simp at this; unfold notLen; omega
  have key : ∀ b, noteAt s k = b → Calls Tryz.prog 277 #[.pointer (some ⟨bl, 0, none⟩)] w fun e w' =>
      e = .returned (.bool b) ∧ Below base w w' ∧ Lexer base bl s (if b then k + notLen s k else k) l w' := by
    intro b hnb
    have Hp : Hid (∀ W : World, Calls Tryz.prog 125 #[.string (s.extract k s.size), .string ⟨#[47, 47]⟩] W fun e w' => e = .returned (.bool b) ∧ W = w') :=
      fun W => (Tryz.strings_HasPrefix (s.extract k s.size) ⟨#[47, 47]⟩ W).mono (by rintro e w' ⟨rfl, rfl⟩; exact ⟨by rw [← hnb]; rfl, rfl⟩)
    clear hnb
    cases b
    · go_enter Tryz.func277, Tryz.ntmps277
      go_wp2_with fail
      go_quiet ((go_at_call 125; exact Calls.quiet_eq (Hp.out _)))
      go_wp2_with fail
      go_ret
      exact ⟨rfl, Below.dN (Below.refl _ _) _, ⟨ov, hb.drewN _, hown.dN _, hne⟩, hbl⟩
    · go_enter Tryz.func277, Tryz.ntmps277
      go_wp2_with fail
      go_quiet ((go_at_call 125; exact Calls.quiet_eq (Hp.out _)))
      go_wp2_with fail
      refine (while_note s k bl ov _ hs hk (hb.drewN _)).mono ?_
      rintro e w2 ⟨rfl, hb2, hg2⟩
      go_wp2_with fail
      go_ret
      exact ⟨rfl, (Below.dN (Below.refl _ _) nq).trans (hg2.toBelow hbl (by have := hb.lt; show _ ≤ w.heap.size; omega)), ⟨ov, hb2, (hown.dN nq).kept hg2 (.inr hne), hne⟩, hbl⟩
  exact key _ rfl
end Go.Proofs.YtfoihafhpmbaeaaGreatDoor
