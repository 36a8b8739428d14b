/- The scanner takes what begins at a byte. -/
import Derived.Deep.RegionHeld3
import Derived.IntWalk
import Derived.Test.YtfoihafhpmbaeaaGreatDoorG12
namespace Go.Proofs.YtfoihafhpmbaeaaGreatDoor
open Go.RowKit

/-- what the scanner comes to at a place: an error, or the next place and a token, if there is one -/
def signs : List UInt8 := [123, 125, 40, 41, 60, 62, 58, 59, 44, 63]
def lexOne (s : ByteArray) (k : Nat) (c : UInt8) : Int × Nat × List Tok :=
  if letterB c.toNat then
    if 16 < wordLen s k then (6, 0, []) else (0, k + wordLen s k, [⟨1, s.extract k (k + wordLen s k), 0, k⟩])
  else if digitB c.toNat then
    if numErr (s.extract k (k + digLen s k)) = 0 then (0, k + digLen s k, [⟨2, s.extract k (k + digLen s k), numVal (s.extract k (k + digLen s k)).data.toList, k⟩]) else (numErr (s.extract k (k + digLen s k)), 0, [])
  else if c = 47 then (if noteAt s k then (0, k + notLen s k, []) else (5, 0, []))
  else if c = 32 ∨ c = 9 ∨ c = 10 ∨ c = 13 then (0, k + 1, [])
  else if Lib.indexByte signs c < 0 then (5, 0, [])
  else (0, k + 1, [⟨3, s.extract k (k + 1), 0, k⟩])

theorem u8_yes {c : UInt8} {n : Nat} (h : c.toNat = n) : ((c.toNat : Int) == (n : Int)) = true := by rw [h]; simp
theorem u8_no {c : UInt8} {n : Nat} (h : c.toNat ≠ n) : ((c.toNat : Int) == (n : Int)) = false := by rw [beq_eq_false_iff_ne]; omega
theorem u8_ne {c d : UInt8} (h : c ≠ d) : c.toNat ≠ d.toNat := fun e => h (UInt8.toNat_inj.1 e)

theorem one_sign (base bl : Nat) (s : ByteArray) (k : Nat) (l : List Tok) (w : World) (h : Lexer base bl s k l w) (hs : s.size ≤ 1048576) (hk : k < s.size) (hl : l.length ≤ 99999)
    (hL : letterB s[k].toNat = false) (hD : digitB s[k].toNat = false) (t47 : ((s[k].toNat : Int) == 47) = false) (t1 : ((s[k].toNat : Int) == 32) = false) (t2 : ((s[k].toNat : Int) == 9) = false)
    (t3 : ((s[k].toNat : Int) == 10) = false) (t4 : ((s[k].toNat : Int) == 13) = false) (q : Int)
    (hI : ∀ W : World, Calls Tryz.prog 278 #[.string ⟨#[123, 125, 40, 41, 60, 62, 58, 59, 44, 63]⟩, .int .u8 (s[k].toNat : Int)] W fun e w' => e = .returned (.int .i64 q) ∧ W = w') (hS : ¬ q < 0) :
    Calls Tryz.prog 224 #[.pointer (some ⟨bl, 0, none⟩)] w (LexPost base bl s w 0 (k + 1) (l ++ [⟨3, s.extract k (k + 1), 0, k⟩])) := by
  obtain ⟨⟨ov, hb, hown, hne⟩, hbl⟩ := id h
  have c0 := hb.cell 0
  have c1 := hb.cell 1
  have f1 := hb.free 1
  simp at c0 c1
  have Hl := Lib.hid hL
  have Hd := Lib.hid hD
  have HI := Lib.hid hI
  clear hL hD hI h
  go_enter Tryz.func224, Tryz.ntmps224
  go_wp2_with fail
  go_quiet (fail)
  go_wp2_with (first | (go_at_call 273; refine (letter_calls _ _).mono ?_; rintro e w' ⟨he, rfl⟩; rw [Hl.out] at he; subst he) | (go_at_call 275; refine (digit_calls _ _).mono ?_; rintro e w' ⟨he, rfl⟩; rw [Hd.out] at he; subst he) | (go_at_call 278; refine (HI.out _).mono ?_; rintro e w' ⟨rfl, rfl⟩))
  have hb2 : Blk ((w.drewN nq).setCell ⟨bl, 1, none⟩ (.int .i64 ((k : Int) + 1))) bl [.string s, .int .i64 ((k : Int) + 1), ov] 358 := (hb.drewN nq).set 1 _
  have hown2 : ((w.drewN nq).setCell ⟨bl, 1, none⟩ (.int .i64 ((k : Int) + 1))).ownsRow base 320 4 ov l.length (tokCells l) := ownsRow_setCell_other (hown.dN nq) hne _
  have hB2 : Below base w ((w.drewN nq).setCell ⟨bl, 1, none⟩ (.int .i64 ((k : Int) + 1))) := (Below.dN (Below.refl _ _) _).setCell hbl _
  generalize (w.drewN nq).setCell ⟨bl, 1, none⟩ (.int .i64 ((k : Int) + 1)) = w2 at *
  clear c0 c1 f1 t47 t1 t2 t3 t4 hb hown
  have c0 := hb2.cell 0
  have c1 := hb2.cell 1
  simp at c0 c1
  have hk1 : ((k : Int) + 1) ≤ s.size := by omega
  have hk2 : (0 : Int) ≤ (k : Int) := by omega
  have hk3 : (k : Int) ≤ (k : Int) + 1 := by omega
  have hw1 : IntKind.i64.wrap (k : Int) = (k : Int) := by rw [IntWalk.i64_in _ (by omega)]
  have hsl : ∀ W : World, (Instr.slice 9 (.string s) (some (.int .i64 (k : Int))) (some (.int .i64 ((k : Int) + 1))) none).run Tryz.prog W = .ok (.string (s.extract k (k + 1))) W := fun W => by
    rw [run_slice_string_if _ _ _ _ _ _ _ Tryz.underlying9, if_pos ⟨by omega, by omega⟩, if_pos ⟨by omega, by omega⟩]
    rfl
  go_region_held3 (fun W => W.cell? ⟨bl, 0, none⟩ = some (.string s) ∧ W.cell? ⟨bl, 1, none⟩ = some (.int .i64 ((k : Int) + 1)))
    (first | go_keep | (exact ⟨by have := hb3.cell 0; simpa using this, by have := hb3.cell 1; simpa using this⟩))
    ((go_at_call 225; refine (put_calls base bl s _ _ 3 0 _ ov _ _ _ (by exact hb2) hbl (by exact hown2) (by omega) hne).mono ?_; rintro e w3 ⟨ov', rfl, hb3, hown3, hne3, hbel⟩))
  go_wp2_with fail
  go_ret
  rw [show ((k : Int) + 1) = ((k + 1 : Nat) : Int) by omega] at hb3
  refine ⟨rfl, hB2.trans ((Below.refl _ _).drew.trans hbel), k + 1, (fun _ => rfl), by omega, ⟨ov', hb3, ?_, hne3⟩, hbl⟩
  rw [tokCells_snoc, List.length_append]
  exact hown3

theorem one_calls (base bl : Nat) (s : ByteArray) (k : Nat) (l : List Tok) (w : World) (h : Lexer base bl s k l w) (hs : s.size ≤ 1048576) (hk : k < s.size) (hl : l.length ≤ 99999) :
    Calls Tryz.prog 224 #[.pointer (some ⟨bl, 0, none⟩)] w (LexPost base bl s w (lexOne s k s[k]).1 (lexOne s k s[k]).2.1 (if (lexOne s k s[k]).1 = 0 then l ++ (lexOne s k s[k]).2.2 else l)) := by
  obtain ⟨⟨ov, hb, hown, hne⟩, hbl⟩ := id h
  have c0 := hb.cell 0
  have c1 := hb.cell 1
  have f1 := hb.free 1
  simp at c0 c1
  by_cases hL : letterB s[k].toNat = true
  · have Hl := Lib.hid hL
    have Hd : Hid (digitB s[k].toNat = digitB s[k].toNat) := rfl
    have E : lexOne s k s[k] = if 16 < wordLen s k then (6, 0, []) else (0, k + wordLen s k, [⟨1, s.extract k (k + wordLen s k), 0, k⟩]) := by
      unfold lexOne; rw [if_pos hL]
    rw [E]
    clear E hL
    by_cases h16 : 16 < wordLen s k
    · rw [if_pos h16]
      have hw : ∀ n, Calls Tryz.prog 274 #[.pointer (some ⟨bl, 0, none⟩)] (w.drewN n) (LexPost base bl s (w.drewN n) 6 0 l) := fun n => by
        have := word_calls base bl s k l (w.drewN n) (h.dN n) hs (by omega) hl
        rw [if_pos h16] at this; exact this
      have Hw := Lib.hid hw
      clear hw h16
      go_enter Tryz.func224, Tryz.ntmps224
      go_wp2_with fail
      go_quiet (fail)
      go_wp2_with (first | (go_at_call 273; refine (letter_calls _ _).mono ?_; rintro e w' ⟨he, rfl⟩; rw [Hl.out] at he; subst he) | (go_at_call 275; refine (digit_calls _ _).mono ?_; rintro e w' ⟨he, rfl⟩; rw [Hd.out] at he; subst he))
      refine (Hw.out _).mono ?_
      rintro e w2 ⟨rfl, hbel, hex⟩
      have HX := Lib.hid hex
      clear hex
      go_wp2_with fail
      go_ret
      obtain ⟨k', hk', hr⟩ := HX.out
      exact ⟨rfl, (Below.dN (Below.refl _ _) _).trans hbel, k', (fun e => by first | exact hk' e | exact hk' trivial | cases e), hr⟩
    · rw [if_neg h16]
      have hw : ∀ n, Calls Tryz.prog 274 #[.pointer (some ⟨bl, 0, none⟩)] (w.drewN n) (LexPost base bl s (w.drewN n) 0 (k + wordLen s k) (l ++ [⟨1, s.extract k (k + wordLen s k), 0, k⟩])) := fun n => by
        have := word_calls base bl s k l (w.drewN n) (h.dN n) hs (by omega) hl
        rw [if_neg h16] at this; exact this
      have Hw := Lib.hid hw
      clear hw h16
      go_enter Tryz.func224, Tryz.ntmps224
      go_wp2_with fail
      go_quiet (fail)
      go_wp2_with (first | (go_at_call 273; refine (letter_calls _ _).mono ?_; rintro e w' ⟨he, rfl⟩; rw [Hl.out] at he; subst he) | (go_at_call 275; refine (digit_calls _ _).mono ?_; rintro e w' ⟨he, rfl⟩; rw [Hd.out] at he; subst he))
      refine (Hw.out _).mono ?_
      rintro e w2 ⟨rfl, hbel, hex⟩
      have HX := Lib.hid hex
      clear hex
      go_wp2_with fail
      go_ret
      obtain ⟨k', hk', hr⟩ := HX.out
      exact ⟨rfl, (Below.dN (Below.refl _ _) _).trans hbel, k', (fun e => by first | exact hk' e | exact hk' trivial | cases e), hr⟩
  have Hl := Lib.hid (show letterB s[k].toNat = false by simpa using hL)
  by_cases hD : digitB s[k].toNat = true
  · have Hd := Lib.hid hD
    have E : lexOne s k s[k] = if numErr (s.extract k (k + digLen s k)) = 0 then (0, k + digLen s k, [⟨2, s.extract k (k + digLen s k), numVal (s.extract k (k + digLen s k)).data.toList, k⟩]) else (numErr (s.extract k (k + digLen s k)), 0, []) := by
      unfold lexOne; rw [if_neg hL, if_pos hD]
    rw [E]
    clear E hL hD
    by_cases h16 : numErr (s.extract k (k + digLen s k)) = 0
    · rw [if_pos h16]
      have hw : ∀ n, Calls Tryz.prog 276 #[.pointer (some ⟨bl, 0, none⟩)] (w.drewN n) (LexPost base bl s (w.drewN n) 0 (k + digLen s k) (l ++ [⟨2, s.extract k (k + digLen s k), numVal (s.extract k (k + digLen s k)).data.toList, k⟩])) := fun n => by
        have := number_calls base bl s k l (w.drewN n) (h.dN n) hs (by omega) hl
        rw [if_pos h16] at this; exact this
      have Hw := Lib.hid hw
      clear hw h16
      go_enter Tryz.func224, Tryz.ntmps224
      go_wp2_with fail
      go_quiet (fail)
      go_wp2_with (first | (go_at_call 273; refine (letter_calls _ _).mono ?_; rintro e w' ⟨he, rfl⟩; rw [Hl.out] at he; subst he) | (go_at_call 275; refine (digit_calls _ _).mono ?_; rintro e w' ⟨he, rfl⟩; rw [Hd.out] at he; subst he))
      refine (Hw.out _).mono ?_
      rintro e w2 ⟨rfl, hbel, hex⟩
      have HX := Lib.hid hex
      clear hex
      go_wp2_with fail
      go_ret
      obtain ⟨k', hk', hr⟩ := HX.out
      exact ⟨rfl, (Below.dN (Below.refl _ _) _).trans hbel, k', (fun e => by first | exact hk' e | exact hk' trivial | cases e), hr⟩
    · rw [if_neg h16, if_neg h16]
      have hw : ∀ n, Calls Tryz.prog 276 #[.pointer (some ⟨bl, 0, none⟩)] (w.drewN n) (LexPost base bl s (w.drewN n) (numErr (s.extract k (k + digLen s k))) 0 l) := fun n => by
        have := number_calls base bl s k l (w.drewN n) (h.dN n) hs (by omega) hl
        rw [if_neg h16] at this; exact this
      have Hw := Lib.hid hw
      clear hw h16
      go_enter Tryz.func224, Tryz.ntmps224
      go_wp2_with fail
      go_quiet (fail)
      go_wp2_with (first | (go_at_call 273; refine (letter_calls _ _).mono ?_; rintro e w' ⟨he, rfl⟩; rw [Hl.out] at he; subst he) | (go_at_call 275; refine (digit_calls _ _).mono ?_; rintro e w' ⟨he, rfl⟩; rw [Hd.out] at he; subst he))
      refine (Hw.out _).mono ?_
      rintro e w2 ⟨rfl, hbel, hex⟩
      have HX := Lib.hid hex
      clear hex
      go_wp2_with fail
      go_ret
      obtain ⟨k', hk', hr⟩ := HX.out
      exact ⟨rfl, (Below.dN (Below.refl _ _) _).trans hbel, k', (fun e => by first | exact hk' e | exact hk' trivial | cases e), hr⟩
  have Hd := Lib.hid (show digitB s[k].toNat = false by simpa using hD)
  by_cases h47 : s[k] = 47
  · have E : lexOne s k s[k] = if noteAt s k then (0, k + notLen s k, []) else (5, 0, []) := by
      unfold lexOne; rw [if_neg hL, if_neg hD, if_pos h47]
    rw [E]
    have t47 : ((s[k].toNat : Int) == 47) = true := u8_yes (n := 47) (by rw [h47]; rfl)
    clear E hL hD h47
    have hw : ∀ n, Calls Tryz.prog 277 #[.pointer (some ⟨bl, 0, none⟩)] (w.drewN n) fun e w' => e = .returned (.bool (noteAt s k)) ∧ Below base (w.drewN n) w' ∧ Lexer base bl s (if noteAt s k then k + notLen s k else k) l w' :=
      fun n => note_calls base bl s k l (w.drewN n) (h.dN n) hs (by omega)
    have hnn : k + notLen s k ≤ s.size := by have := runLen_le noteB (s.data.toList.drop k); simp at this; unfold notLen; omega
    cases hN : noteAt s k
    all_goals
      rw [hN] at hw
      have Hw := Lib.hid hw
      clear hw hN
    all_goals
      first
        | rw [if_neg (by decide)]
        | rw [if_pos rfl]
      go_enter Tryz.func224, Tryz.ntmps224
      go_wp2_with fail
      go_quiet (fail)
      go_wp2_with (first | (go_at_call 273; refine (letter_calls _ _).mono ?_; rintro e w' ⟨he, rfl⟩; rw [Hl.out] at he; subst he) | (go_at_call 275; refine (digit_calls _ _).mono ?_; rintro e w' ⟨he, rfl⟩; rw [Hd.out] at he; subst he))
      refine (Hw.out _).mono ?_
      rintro e w2 ⟨rfl, hbel, hex⟩
      have HX := Lib.hid hex
      clear hex
      go_wp2_with fail
      go_ret
    · exact ⟨rfl, (Below.dN (Below.refl _ _) _).trans hbel, k, (fun e => by cases e), by omega, HX.out⟩
    · exact ⟨rfl, (Below.dN (Below.refl _ _) _).trans hbel, k + notLen s k, (fun e => rfl), hnn, by simpa using HX.out⟩
  have t47 : ((s[k].toNat : Int) == 47) = false := u8_no (n := 47) (u8_ne h47)
  have e1 : ((k : Int) + 1) = ((k + 1 : Nat) : Int) := by omega
  have h1 : ∀ W : World, Below base w W → Lexer base bl s k l W → Below base w (W.setCell ⟨bl, 1, none⟩ (.int .i64 ((k + 1 : Nat) : Int))) ∧ Lexer base bl s (k + 1) l (W.setCell ⟨bl, 1, none⟩ (.int .i64 ((k + 1 : Nat) : Int))) := by
    rintro W hB ⟨⟨ov, hb, hown, hne⟩, hbl⟩
    exact ⟨hB.setCell hbl _, ⟨⟨ov, hb.set 1 _, ownsRow_setCell_other hown hne _, hne⟩, hbl⟩⟩
  have H1 := Lib.hid h1
  have Hh := Lib.hid (fun n => h.dN n)
  have HE := Lib.hid e1
  clear h1 e1
  by_cases hbl4 : s[k] = 32 ∨ s[k] = 9 ∨ s[k] = 10 ∨ s[k] = 13
  · have E : lexOne s k s[k] = (0, k + 1, []) := by
      unfold lexOne; rw [if_neg hL, if_neg hD, if_neg h47, if_pos hbl4]
    rw [E]
    clear E hL hD h47
    have tests : (((s[k].toNat : Int) == 32) = true) ∨ (((s[k].toNat : Int) == 32) = false ∧ ((s[k].toNat : Int) == 9) = true) ∨ (((s[k].toNat : Int) == 32) = false ∧ ((s[k].toNat : Int) == 9) = false ∧ ((s[k].toNat : Int) == 10) = true) ∨ (((s[k].toNat : Int) == 32) = false ∧ ((s[k].toNat : Int) == 9) = false ∧ ((s[k].toNat : Int) == 10) = false ∧ ((s[k].toNat : Int) == 13) = true) := by
      rcases hbl4 with h4 | h4 | h4 | h4 <;> rw [h4] <;> decide
    clear hbl4
    rcases tests with t1 | ⟨t1, t2⟩ | ⟨t1, t2, t3⟩ | ⟨t1, t2, t3, t4⟩
    all_goals
      go_enter Tryz.func224, Tryz.ntmps224
      go_wp2_with fail
      go_quiet (fail)
      go_wp2_with (first | (go_at_call 273; refine (letter_calls _ _).mono ?_; rintro e w' ⟨he, rfl⟩; rw [Hl.out] at he; subst he) | (go_at_call 275; refine (digit_calls _ _).mono ?_; rintro e w' ⟨he, rfl⟩; rw [Hd.out] at he; subst he))
      go_ret
      rw [HE.out]
      obtain ⟨hB, hX⟩ := H1.out _ (Below.dN (Below.refl _ w) _) (Hh.out _)
      exact ⟨rfl, hB, k + 1, (fun _ => rfl), by omega, by simpa using hX⟩
  · have t1 : ((s[k].toNat : Int) == 32) = false := u8_no (n := 32) (u8_ne fun e => hbl4 (.inl e))
    have t2 : ((s[k].toNat : Int) == 9) = false := u8_no (n := 9) (u8_ne fun e => hbl4 (.inr (.inl e)))
    have t3 : ((s[k].toNat : Int) == 10) = false := u8_no (n := 10) (u8_ne fun e => hbl4 (.inr (.inr (.inl e))))
    have t4 : ((s[k].toNat : Int) == 13) = false := u8_no (n := 13) (u8_ne fun e => hbl4 (.inr (.inr (.inr e))))
    have hI : ∀ W : World, Calls Tryz.prog 278 #[.string ⟨signs.toArray⟩, .int .u8 (s[k].toNat : Int)] W fun e w' => e = .returned (.int .i64 (Lib.indexByte signs s[k])) ∧ W = w' := fun W =>
      (Tryz.strings_IndexByte ⟨signs.toArray⟩ (s[k].toNat : Int) W).mono (by rintro e w' ⟨rfl, rfl⟩; exact ⟨by rw [show (s[k].toNat : Int).toNat.toUInt8 = s[k] by simp], rfl⟩)
    have HI : Hid (∀ W : World, Calls Tryz.prog 278 #[.string ⟨#[123, 125, 40, 41, 60, 62, 58, 59, 44, 63]⟩, .int .u8 (s[k].toNat : Int)] W fun e w' => e = .returned (.int .i64 (Lib.indexByte signs s[k])) ∧ W = w') := hI
    clear hI
    by_cases hS : Lib.indexByte signs s[k] < 0
    · have E : lexOne s k s[k] = (5, 0, []) := by
        unfold lexOne; rw [if_neg hL, if_neg hD, if_neg h47, if_neg hbl4, if_pos hS]
      rw [E]
      clear E hL hD h47 hbl4
      generalize Lib.indexByte signs s[k] = q at *
      go_enter Tryz.func224, Tryz.ntmps224
      go_wp2_with fail
      go_quiet (fail)
      go_wp2_with (first | (go_at_call 273; refine (letter_calls _ _).mono ?_; rintro e w' ⟨he, rfl⟩; rw [Hl.out] at he; subst he) | (go_at_call 275; refine (digit_calls _ _).mono ?_; rintro e w' ⟨he, rfl⟩; rw [Hd.out] at he; subst he) | (go_at_call 278; refine (HI.out _).mono ?_; rintro e w' ⟨rfl, rfl⟩))
      go_ret
      exact ⟨rfl, Below.dN (Below.refl _ _) _, k, (fun e => by cases e), by omega, Hh.out _⟩
    · have E : lexOne s k s[k] = (0, k + 1, [⟨3, s.extract k (k + 1), 0, k⟩]) := by
        unfold lexOne; rw [if_neg hL, if_neg hD, if_neg h47, if_neg hbl4, if_neg hS]
      rw [E]
      exact one_sign base bl s k l w h hs hk hl Hl.out Hd.out t47 t1 t2 t3 t4 _ HI.out hS
end Go.Proofs.YtfoihafhpmbaeaaGreatDoor

/- A text's tokens. -/
namespace Go.Proofs.YtfoihafhpmbaeaaGreatDoor
open Go.RowKit

def RTok (t : Tok) (cs : List Value) : Prop := cs = t.cells ∧ i64ok t.kind ∧ t.text.size ≤ 1048576 ∧ i64ok t.num ∧ i64ok t.pos
/-- the tokens from a place on: an error and its place, or the tokens -/
def lexAll (s : ByteArray) : Nat → Nat → List Tok → (Int × Nat) × List Tok
  | 0, _, _ => ((0, 0), [])
  | fuel + 1, k, l =>
    if h : k < s.size then
      if (lexOne s k s[k]).1 = 0 then lexAll s fuel (lexOne s k s[k]).2.1 (l ++ (lexOne s k s[k]).2.2) else (((lexOne s k s[k]).1, k), [])
    else ((0, 0), l ++ [⟨4, ⟨#[]⟩, 0, s.size⟩])

theorem runLen_pos {p : Int → Bool} {s : ByteArray} {k : Nat} (h : k < s.size) (hp : p s[k].toNat = true) : 0 < runLen p (s.data.toList.drop k) := by
  rw [runLen_at p s k h, if_pos hp]; omega

theorem lexOne_up (s : ByteArray) (k : Nat) (h : k < s.size) (h0 : (lexOne s k s[k]).1 = 0) : k < (lexOne s k s[k]).2.1 ∧ (lexOne s k s[k]).2.1 ≤ s.size := by
  have l1 := runLen_le innerB (s.data.toList.drop k)
  have l2 := runLen_le digitB (s.data.toList.drop k)
  have l3 := runLen_le noteB (s.data.toList.drop k)
  simp at l1 l2 l3
  unfold lexOne at h0 ⊢
  by_cases hL : letterB s[k].toNat = true
  · rw [if_pos hL] at h0 ⊢
    have := runLen_pos (p := innerB) h (by simp [innerB, hL])
    by_cases h16 : 16 < wordLen s k
    · rw [if_pos h16] at h0; cases h0
    · rw [if_neg h16]; simp only [wordLen]; omega
  rw [if_neg hL] at h0 ⊢
  by_cases hD : digitB s[k].toNat = true
  · rw [if_pos hD] at h0 ⊢
    have := runLen_pos (p := digitB) h hD
    by_cases h16 : numErr (s.extract k (k + digLen s k)) = 0
    · rw [if_pos h16]; simp only [digLen]; omega
    · rw [if_neg h16] at h0; exact absurd h0 h16
  rw [if_neg hD] at h0 ⊢
  by_cases h47 : s[k] = 47
  · rw [if_pos h47] at h0 ⊢
    have := runLen_pos (p := noteB) h (by rw [h47]; decide)
    by_cases hN : noteAt s k = true
    · rw [if_pos hN]; simp only [notLen]; omega
    · rw [if_neg hN] at h0; cases h0
  rw [if_neg h47] at h0 ⊢
  by_cases h4 : s[k] = 32 ∨ s[k] = 9 ∨ s[k] = 10 ∨ s[k] = 13
  · rw [if_pos h4]; simp only []; omega
  rw [if_neg h4] at h0 ⊢
  by_cases h5 : Lib.indexByte signs s[k] < 0
  · rw [if_pos h5] at h0; cases h0
  · rw [if_neg h5]; simp only []; omega

theorem lexOne_short (s : ByteArray) (k : Nat) (c : UInt8) : (lexOne s k c).2.2.length ≤ 1 := by
  unfold lexOne
  repeat' split
  all_goals simp

theorem lexAll_stop {s : ByteArray} {k : Nat} (h : k < s.size) (h0 : (lexOne s k s[k]).1 ≠ 0) (l : List Tok) (f : Nat) : lexAll s (f + 1) k l = (((lexOne s k s[k]).1, k), []) := by
  simp only [lexAll, h, dif_pos, if_neg h0]
theorem lexAll_go {s : ByteArray} {k : Nat} (h : k < s.size) (h0 : (lexOne s k s[k]).1 = 0) (l : List Tok) (f : Nat) : lexAll s (f + 1) k l = lexAll s f (lexOne s k s[k]).2.1 (l ++ (lexOne s k s[k]).2.2) := by
  simp only [lexAll, h, dif_pos, if_pos h0]
theorem lexAll_end {s : ByteArray} (l : List Tok) (f : Nat) : lexAll s (f + 1) s.size l = ((0, 0), l ++ [⟨4, ⟨#[]⟩, 0, s.size⟩]) := by
  simp [lexAll]

theorem own_mono {w : World} {base base' size n : Nat} {e : TypeId} {v : Value} {xs : List Value} (h : w.ownsRow base e size v n xs) (hb : base' ≤ base) : w.ownsRow base' e size v n xs := by
  refine ⟨h.1, ?_⟩
  rcases h.2 with h | ⟨g, cap, cur, h1, h2, h3⟩
  · exact .inl h
  · exact .inr ⟨g, cap, cur, h1, Nat.le_trans hb h2, h3⟩

/-- the tokens, or what is wrong, and where -/
def lexS (s : ByteArray) : (Int × Nat) × List Tok := if 1024 < s.size then ((3, 0), []) else lexAll s (s.size + 1) 0 []

def TokensPost (s : ByteArray) (w : World) (e : Ending) (w' : World) : Prop :=
  Below w.heap.size w w' ∧ ∃ a cap, e = .returned (.tuple #[.slice a (lexS s).2.length cap, .agg #[.int .i64 (lexS s).1.1, .int .i64 (lexS s).1.2]]) ∧
    w'.ownsRow w.heap.size 320 4 (.slice a (lexS s).2.length cap) (lexS s).2.length (tokCells (lexS s).2)

theorem Tokens_calls (s : ByteArray) (w : World) (hs : s.size ≤ 1048576) :
    Calls Tryz.prog 183 #[.string s] w (TokensPost s w) := by
  by_cases h1 : 1024 < s.size
  · have E : Hid (lexS s = ((3, 0), [])) := by unfold lexS; rw [if_pos h1]; rfl
    go_enter Tryz.func183, Tryz.ntmps183
    go_wp2_with fail
    refine bodyPost_ret (v := .tuple #[.slice none 0 0, .agg #[.int .i64 3, .int .i64 0]]) (by simp [results, Tryz.results183, go_sem]) rfl ?_
    refine ⟨(Below.refl _ _).alloc (Nat.le_refl _) _, none, 0, ?_⟩
    rw [E.out]
    exact ⟨rfl, World.ownsRow_nil _ _ _ _⟩
  · have E : Hid (lexS s = lexAll s (s.size + 1) 0 []) := by unfold lexS; rw [if_neg h1]; rfl
    go_enter Tryz.func183, Tryz.ntmps183
    go_wp2_with fail
    go_loopw [14] (fun _ wr => ∃ (k f : Nat) (l : List Tok), k ≤ s.size ∧ s.size - k < f ∧ l.length ≤ k ∧ Hid (lexAll s (s.size + 1) 0 [] = lexAll s f k l) ∧ Lexer (w.heap.size + 1) (w.heap.size + 1) s k l wr ∧
        Below (w.heap.size + 1) (w.alloc (.cells #[.int .i64 0, .int .i64 0] 221)) wr) (fun _ wr => s.size - (intOf ((wr.cell? ⟨w.heap.size + 1, 1, none⟩).getD undef)).toNat)
    case atStart =>
      have e1 : (w.alloc (.cells #[.int .i64 0, .int .i64 0] 221)).heap.size = w.heap.size + 1 := by simp
      have hb0 : Blk ((w.alloc (.cells #[.int .i64 0, .int .i64 0] 221)).alloc (.cells #[.string s, .int .i64 0, .slice none 0 0] 358)) (w.heap.size + 1) [.string s, .int .i64 ((0 : Nat) : Int), .slice none 0 0] 358 := by
        have := Blk.new (w.alloc (.cells #[.int .i64 0, .int .i64 0] 221)) [.string s, .int .i64 ((0 : Nat) : Int), .slice none 0 0] 358
        rw [e1] at this; exact this
      exact ⟨0, s.size + 1, [], by omega, by omega, by simp, rfl, ⟨⟨_, hb0, World.ownsRow_nil _ _ _ _, by simp [Value.ownBlock]⟩, Nat.le_refl _⟩, (Below.refl _ _).alloc (by simp) _⟩
    case round =>
      obtain ⟨k, f, l, hk, hf, hll, hH, hX, hB⟩ := hrel
      obtain ⟨ov, hb, hown, hne⟩ := hX.blk
      have c0 := hb.cell 0
      have c1 := hb.cell 1
      have c2 := hb.cell 2
      simp at c0 c1 c2
      have d0 := hB.box 0
      have d1 := hB.box 1
      have df0 := hB.boxfree 0
      have df1 := hB.boxfree 1
      have hwr : w.heap.size + 1 < wr.heap.size := hb.lt
      obtain ⟨f', rfl⟩ : ∃ f', f = f' + 1 := ⟨f - 1, by omega⟩
      by_cases hlt : k < s.size
      · by_cases h0 : (lexOne s k s[k]).1 = 0
        · have hup := lexOne_up s k hlt h0
          have hsh := lexOne_short s k s[k]
          have HG : Hid (lexAll s (s.size + 1) 0 [] = lexAll s f' (lexOne s k s[k]).2.1 (l ++ (lexOne s k s[k]).2.2)) := by
            have := hH.out
            rw [lexAll_go hlt h0] at this
            exact this
          have ho := one_calls (w.heap.size + 1) (w.heap.size + 1) s k l wr hX hs hlt (by omega)
          rw [h0, if_pos rfl] at ho
          generalize (lexOne s k s[k]).2 = r at *
          have HO := Lib.hid ho
          clear ho h0 hH
          go_wp2_with (go_at_call 224; refine HO.out.mono ?_; rintro e w2 ⟨rfl, hB2, k', hk', hk2, hX2⟩)
          obtain rfl : k' = r.1 := hk' trivial
          obtain ⟨ov2, hb2, hown2, hne2⟩ := hX2.blk
          refine ⟨⟨r.1, f', l ++ r.2, hk2, by omega, by simp; omega, HG, hX2, hB.trans hB2⟩, ?_⟩
          rw [hb2.cell 1, hb.cell 1]
          simp [intOf]
          omega
        · have HG : Hid (lexS s = (((lexOne s k s[k]).1, k), [])) := by
            show _ = _
            rw [E.out, hH.out, lexAll_stop hlt h0]
          have ho := one_calls (w.heap.size + 1) (w.heap.size + 1) s k l wr hX hs hlt (by omega)
          rw [if_neg h0] at ho
          generalize (lexOne s k s[k]).1 = er at *
          generalize (lexOne s k s[k]).2 = r at *
          have HO := Lib.hid ho
          have hne0 : (er == 0) = false := beq_eq_false_iff_ne.2 h0
          have hne1 : (er != 0) = true := by rw [bne_iff_ne]; exact h0
          clear ho h0 hH
          go_wp2_with fail
          refine HO.out.mono ?_
          rintro e w2 ⟨rfl, hB2, k', hk', hk2, hX2⟩
          have hB3 := hB.trans hB2
          have x0 := hB3.box 0
          have x1 := hB3.box 1
          have xf0 := hB3.boxfree 0
          have xf1 := hB3.boxfree 1
          have hw2 : w.heap.size < w2.heap.size := by have := hB3.szlt; omega
          simp at x0 x1
          clear d0 d1 df0 df1 c0 c1 c2
          go_wp2_with fail
          refine bodyPost_ret (v := .tuple #[.slice none 0 0, .agg #[.int .i64 er, .int .i64 k]]) (by simp [results, Tryz.results183, go_sem, x0, x1]) rfl ?_
          refine ⟨(hB3.pop.setCell (Nat.le_refl _) _).setCell (Nat.le_refl _) _, none, 0, ?_⟩
          rw [HG.out]
          exact ⟨rfl, World.ownsRow_nil _ _ _ _⟩
      · obtain rfl : k = s.size := by omega
        have HG : Hid (lexS s = ((0, 0), l ++ [⟨4, ⟨#[]⟩, 0, s.size⟩])) := by
          show _ = _
          rw [E.out, hH.out, lexAll_end]
        clear hH
        go_wp2_with fail
        refine (put_calls (w.heap.size + 1) (w.heap.size + 1) s _ _ 4 0 _ ov _ _ _ hb (Nat.le_refl _) hown (by omega) hne).mono ?_
        rintro e w2 ⟨ov2, rfl, hb2, hown2, hne2, hB2⟩
        have hB3 := hB.trans hB2
        have x0 := hB3.box 0
        have x1 := hB3.box 1
        have xf0 := hB3.boxfree 0
        have xf1 := hB3.boxfree 1
        have y2 := hb2.cell 2
        have hw2 : w.heap.size < w2.heap.size := by have := hB3.szlt; omega
        simp at x0 x1 y2
        clear d0 d1 df0 df1 c0 c1 c2
        obtain ⟨oa, oc, rfl⟩ := own_form hown2
        go_wp2_with fail
        refine bodyPost_ret (v := .tuple #[.slice oa (l.length + 1) oc, .agg #[.int .i64 0, .int .i64 0]]) (by simp [results, Tryz.results183, go_sem, x0, x1]) rfl ?_
        refine ⟨(hB3.pop.setCell (Nat.le_refl _) _).setCell (Nat.le_refl _) _, oa, oc, ?_⟩
        rw [HG.out]
        refine ⟨by simp, ?_⟩
        have h2 := ownsRow_setCell_below (ownsRow_setCell_below hown2 (a := ⟨w.heap.size, 0, none⟩) (Nat.lt_succ_self _) (.int .i64 0)) (a := ⟨w.heap.size, 1, none⟩) (Nat.lt_succ_self _) (.int .i64 0)
        have h3 := own_mono h2 (Nat.le_succ w.heap.size)
        rw [tokCells_snoc, List.length_append]
        exact h3
end Go.Proofs.YtfoihafhpmbaeaaGreatDoor
