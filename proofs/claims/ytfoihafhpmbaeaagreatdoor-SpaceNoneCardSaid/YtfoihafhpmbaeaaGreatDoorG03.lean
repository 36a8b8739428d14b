/- The scanner takes bytes as long as something holds. -/
import Derived.BigQuiet
import Derived.Deep.QuietTactic
import Derived.Test.YtfoihafhpmbaeaaGreatDoorG01
namespace Go.Proofs.YtfoihafhpmbaeaaGreatDoor
open Go.RowKit

/-- how many bytes from here on hold -/
def runLen (p : Int → Bool) : List UInt8 → Nat
  | [] => 0
  | c :: r => if p c.toNat then runLen p r + 1 else 0
theorem runLen_le (p : Int → Bool) (l : List UInt8) : runLen p l ≤ l.length := by
  induction l with
  | nil => simp [runLen]
  | cons c r ih => simp only [runLen]; split <;> simp <;> omega
theorem runLen_at (p : Int → Bool) (s : ByteArray) (k : Nat) (h : k < s.size) :
    runLen p (s.data.toList.drop k) = if p (s[k].toNat) then runLen p (s.data.toList.drop (k + 1)) + 1 else 0 := by
  rw [List.drop_eq_getElem_cons (show k < s.data.toList.length by simpa using h)]
  rfl
theorem runLen_end (p : Int → Bool) (s : ByteArray) : runLen p (s.data.toList.drop s.size) = 0 := by
  rw [List.drop_of_length_le (by simp)]
  rfl

theorem _root_.Go.Calls.quiet_eq {P : Program} {f : FuncId} {args : Array Value} {w : World} {n : Nat} {v : Value}
    (h : Calls P f args (w.drewN n) fun e w' => e = .returned v ∧ w.drewN n = w') : Calls P f args (w.drewN n) fun e w'' => e = .returned v ∧ ∃ m, w'' = w.drewN m :=
  h.mono fun _ _ ⟨he, hm⟩ => ⟨he, n, hm.symm⟩

theorem while_inner (s : ByteArray) (k0 bl : Nat) (vo : Value) (w : World) (hs : s.size ≤ 1048576) (hk0 : k0 ≤ s.size) (hb : Blk w bl [.string s, .int .i64 k0, vo] 358) :
    Calls Tryz.prog 306 #[.pointer (some ⟨bl, 0, none⟩), .func (.func 307) #[] #[]] w fun e w' =>
      e = .returned (.string (s.extract k0 (k0 + runLen innerB (s.data.toList.drop k0)))) ∧ Blk w' bl [.string s, .int .i64 (k0 + runLen innerB (s.data.toList.drop k0) : Nat), vo] 358 ∧ But bl w w' := by
  have c0 := hb.cell 0
  have c1 := hb.cell 1
  simp at c0 c1
  go_enter Tryz.func306, Tryz.ntmps306
  go_wp2_with fail
  go_loopw [10] (fun _ wr => ∃ k : Nat, k0 ≤ k ∧ k ≤ s.size ∧ runLen innerB (s.data.toList.drop k0) = (k - k0) + runLen innerB (s.data.toList.drop k) ∧ Blk wr bl [.string s, .int .i64 k, vo] 358 ∧ But bl w wr) (fun _ wr => s.size - (intOf ((wr.cell? ⟨bl, 1, none⟩).getD undef)).toNat)
  case atStart => exact ⟨k0, Nat.le_refl _, hk0, by simp, hb, But.refl _ _⟩
  case round =>
    obtain ⟨k, hk1, hk2, hrun, hbk, hbut⟩ := hrel
    have HR := Lib.hid hrun
    clear hrun c0 c1
    have c0 := hbk.cell 0
    have c1 := hbk.cell 1
    have f1 := hbk.free 1
    simp at c0 c1
    by_cases hlt : k < s.size
    · have hat := Lib.hid (runLen_at innerB s k hlt)
      by_cases hp : innerB (s[k].toNat) = true
      · have Hc : Hid (∀ W : World, Calls Tryz.prog 307 #[.int .u8 (s[k].toNat : Int)] W fun e w' => e = .returned (.bool true) ∧ W = w') := fun W => (inner_calls _ W).mono (by rintro e w' ⟨rfl, rfl⟩; exact ⟨by rw [hp], rfl⟩)
        have hr2 : Hid (runLen innerB (s.data.toList.drop k0) = (k + 1 - k0) + runLen innerB (s.data.toList.drop (k + 1))) := by
          have h1 := HR.out
          rw [hat.out, if_pos hp] at h1
          show _ = _
          omega
        clear hp HR hat
        go_wp2_with fail
        go_quiet ((go_at_call 307; exact Calls.quiet_eq (Hc.out _)))
        go_wp2_with fail
        have e1 : ((k : Int) + 1) = ((k + 1 : Nat) : Int) := by omega
        rw [e1]
        have hb2 : Blk ((wr.drewN nq).setCell ⟨bl, 1, none⟩ (.int .i64 ((k + 1 : Nat) : Int))) bl [.string s, .int .i64 ((k + 1 : Nat) : Int), vo] 358 := (hbk.drewN nq).set 1 _
        refine ⟨⟨k + 1, by omega, by omega, hr2.out, hb2, (hbut.drewN nq).set 1 _⟩, ?_⟩
        rw [hb2.cell 1, hbk.cell 1]
        simp [intOf]
        omega
      · have Hc : Hid (∀ W : World, Calls Tryz.prog 307 #[.int .u8 (s[k].toNat : Int)] W fun e w' => e = .returned (.bool false) ∧ W = w') := fun W => (inner_calls _ W).mono (by rintro e w' ⟨rfl, rfl⟩; exact ⟨by simp at hp; rw [hp], rfl⟩)
        have hr2 : Hid (k0 + runLen innerB (s.data.toList.drop k0) = k) := by
          have h1 := HR.out
          rw [hat.out, if_neg hp] at h1
          show _ = _
          omega
        clear hp HR hat
        go_wp2_with fail
        go_quiet ((go_at_call 307; exact Calls.quiet_eq (Hc.out _)))
        go_wp2_with fail
        go_quiet (fail)
        go_wp2_with fail
        go_ret
        rw [hr2.out]
        exact ⟨rfl, (hbk.drewN _).drewN _, (hbut.drewN _).drewN _⟩
    · obtain rfl : k = s.size := by omega
      have hr2 : Hid (k0 + runLen innerB (s.data.toList.drop k0) = s.size) := by
        have h1 := HR.out
        rw [runLen_end] at h1
        show _ = _
        omega
      clear HR
      go_wp2_with fail
      go_quiet (fail)
      go_wp2_with fail
      go_quiet (fail)
      go_wp2_with fail
      go_ret
      rw [hr2.out]
      exact ⟨rfl, (hbk.drewN _).drewN _, (hbut.drewN _).drewN _⟩
theorem while_digit (s : ByteArray) (k0 bl : Nat) (vo : Value) (w : World) (hs : s.size ≤ 1048576) (hk0 : k0 ≤ s.size) (hb : Blk w bl [.string s, .int .i64 k0, vo] 358) :
    Calls Tryz.prog 306 #[.pointer (some ⟨bl, 0, none⟩), .func (.func 275) #[] #[]] w fun e w' =>
      e = .returned (.string (s.extract k0 (k0 + runLen digitB (s.data.toList.drop k0)))) ∧ Blk w' bl [.string s, .int .i64 (k0 + runLen digitB (s.data.toList.drop k0) : Nat), vo] 358 ∧ But bl w w' := by
  have c0 := hb.cell 0
  have c1 := hb.cell 1
  simp at c0 c1
  go_enter Tryz.func306, Tryz.ntmps306
  go_wp2_with fail
  go_loopw [10] (fun _ wr => ∃ k : Nat, k0 ≤ k ∧ k ≤ s.size ∧ runLen digitB (s.data.toList.drop k0) = (k - k0) + runLen digitB (s.data.toList.drop k) ∧ Blk wr bl [.string s, .int .i64 k, vo] 358 ∧ But bl w wr) (fun _ wr => s.size - (intOf ((wr.cell? ⟨bl, 1, none⟩).getD undef)).toNat)
  case atStart => exact ⟨k0, Nat.le_refl _, hk0, by simp, hb, But.refl _ _⟩
  case round =>
    obtain ⟨k, hk1, hk2, hrun, hbk, hbut⟩ := hrel
    have HR := Lib.hid hrun
    clear hrun c0 c1
    have c0 := hbk.cell 0
    have c1 := hbk.cell 1
    have f1 := hbk.free 1
    simp at c0 c1
    by_cases hlt : k < s.size
    · have hat := Lib.hid (runLen_at digitB s k hlt)
      by_cases hp : digitB (s[k].toNat) = true
      · have Hc : Hid (∀ W : World, Calls Tryz.prog 275 #[.int .u8 (s[k].toNat : Int)] W fun e w' => e = .returned (.bool true) ∧ W = w') := fun W => (digit_calls _ W).mono (by rintro e w' ⟨rfl, rfl⟩; exact ⟨by rw [hp], rfl⟩)
        have hr2 : Hid (runLen digitB (s.data.toList.drop k0) = (k + 1 - k0) + runLen digitB (s.data.toList.drop (k + 1))) := by
          have h1 := HR.out
          rw [hat.out, if_pos hp] at h1
          show _ = _
          omega
        clear hp HR hat
        go_wp2_with fail
        go_quiet ((go_at_call 275; exact Calls.quiet_eq (Hc.out _)))
        go_wp2_with fail
        have e1 : ((k : Int) + 1) = ((k + 1 : Nat) : Int) := by omega
        rw [e1]
        have hb2 : Blk ((wr.drewN nq).setCell ⟨bl, 1, none⟩ (.int .i64 ((k + 1 : Nat) : Int))) bl [.string s, .int .i64 ((k + 1 : Nat) : Int), vo] 358 := (hbk.drewN nq).set 1 _
        refine ⟨⟨k + 1, by omega, by omega, hr2.out, hb2, (hbut.drewN nq).set 1 _⟩, ?_⟩
        rw [hb2.cell 1, hbk.cell 1]
        simp [intOf]
        omega
      · have Hc : Hid (∀ W : World, Calls Tryz.prog 275 #[.int .u8 (s[k].toNat : Int)] W fun e w' => e = .returned (.bool false) ∧ W = w') := fun W => (digit_calls _ W).mono (by rintro e w' ⟨rfl, rfl⟩; exact ⟨by simp at hp; rw [hp], rfl⟩)
        have hr2 : Hid (k0 + runLen digitB (s.data.toList.drop k0) = k) := by
          have h1 := HR.out
          rw [hat.out, if_neg hp] at h1
          show _ = _
          omega
        clear hp HR hat
        go_wp2_with fail
        go_quiet ((go_at_call 275; exact Calls.quiet_eq (Hc.out _)))
        go_wp2_with fail
        go_quiet (fail)
        go_wp2_with fail
        go_ret
        rw [hr2.out]
        exact ⟨rfl, (hbk.drewN _).drewN _, (hbut.drewN _).drewN _⟩
    · obtain rfl : k = s.size := by omega
      have hr2 : Hid (k0 + runLen digitB (s.data.toList.drop k0) = s.size) := by
        have h1 := HR.out
        rw [runLen_end] at h1
        show _ = _
        omega
      clear HR
      go_wp2_with fail
      go_quiet (fail)
      go_wp2_with fail
      go_quiet (fail)
      go_wp2_with fail
      go_ret
      rw [hr2.out]
      exact ⟨rfl, (hbk.drewN _).drewN _, (hbut.drewN _).drewN _⟩
theorem while_note (s : ByteArray) (k0 bl : Nat) (vo : Value) (w : World) (hs : s.size ≤ 1048576) (hk0 : k0 ≤ s.size) (hb : Blk w bl [.string s, .int .i64 k0, vo] 358) :
    Calls Tryz.prog 306 #[.pointer (some ⟨bl, 0, none⟩), .func (.func 308) #[] #[]] w fun e w' =>
      e = .returned (.string (s.extract k0 (k0 + runLen noteB (s.data.toList.drop k0)))) ∧ Blk w' bl [.string s, .int .i64 (k0 + runLen noteB (s.data.toList.drop k0) : Nat), vo] 358 ∧ But bl w w' := by
  have c0 := hb.cell 0
  have c1 := hb.cell 1
  simp at c0 c1
  go_enter Tryz.func306, Tryz.ntmps306
  go_wp2_with fail
  go_loopw [10] (fun _ wr => ∃ k : Nat, k0 ≤ k ∧ k ≤ s.size ∧ runLen noteB (s.data.toList.drop k0) = (k - k0) + runLen noteB (s.data.toList.drop k) ∧ Blk wr bl [.string s, .int .i64 k, vo] 358 ∧ But bl w wr) (fun _ wr => s.size - (intOf ((wr.cell? ⟨bl, 1, none⟩).getD undef)).toNat)
  case atStart => exact ⟨k0, Nat.le_refl _, hk0, by simp, hb, But.refl _ _⟩
  case round =>
    obtain ⟨k, hk1, hk2, hrun, hbk, hbut⟩ := hrel
    have HR := Lib.hid hrun
    clear hrun c0 c1
    have c0 := hbk.cell 0
    have c1 := hbk.cell 1
    have f1 := hbk.free 1
    simp at c0 c1
    by_cases hlt : k < s.size
    · have hat := Lib.hid (runLen_at noteB s k hlt)
      by_cases hp : noteB (s[k].toNat) = true
      · have Hc : Hid (∀ W : World, Calls Tryz.prog 308 #[.int .u8 (s[k].toNat : Int)] W fun e w' => e = .returned (.bool true) ∧ W = w') := fun W => (noteEnd_calls _ W).mono (by rintro e w' ⟨rfl, rfl⟩; exact ⟨by rw [hp], rfl⟩)
        have hr2 : Hid (runLen noteB (s.data.toList.drop k0) = (k + 1 - k0) + runLen noteB (s.data.toList.drop (k + 1))) := by
          have h1 := HR.out
          rw [hat.out, if_pos hp] at h1
          show _ = _
          omega
        clear hp HR hat
        go_wp2_with fail
        go_quiet ((go_at_call 308; exact Calls.quiet_eq (Hc.out _)))
        go_wp2_with fail
        have e1 : ((k : Int) + 1) = ((k + 1 : Nat) : Int) := by omega
        rw [e1]
        have hb2 : Blk ((wr.drewN nq).setCell ⟨bl, 1, none⟩ (.int .i64 ((k + 1 : Nat) : Int))) bl [.string s, .int .i64 ((k + 1 : Nat) : Int), vo] 358 := (hbk.drewN nq).set 1 _
        refine ⟨⟨k + 1, by omega, by omega, hr2.out, hb2, (hbut.drewN nq).set 1 _⟩, ?_⟩
        rw [hb2.cell 1, hbk.cell 1]
        simp [intOf]
        omega
      · have Hc : Hid (∀ W : World, Calls Tryz.prog 308 #[.int .u8 (s[k].toNat : Int)] W fun e w' => e = .returned (.bool false) ∧ W = w') := fun W => (noteEnd_calls _ W).mono (by rintro e w' ⟨rfl, rfl⟩; exact ⟨by simp at hp; rw [hp], rfl⟩)
        have hr2 : Hid (k0 + runLen noteB (s.data.toList.drop k0) = k) := by
          have h1 := HR.out
          rw [hat.out, if_neg hp] at h1
          show _ = _
          omega
        clear hp HR hat
        go_wp2_with fail
        go_quiet ((go_at_call 308; exact Calls.quiet_eq (Hc.out _)))
        go_wp2_with fail
        go_quiet (fail)
        go_wp2_with fail
        go_ret
        rw [hr2.out]
        exact ⟨rfl, (hbk.drewN _).drewN _, (hbut.drewN _).drewN _⟩
    · obtain rfl : k = s.size := by omega
      have hr2 : Hid (k0 + runLen noteB (s.data.toList.drop k0) = s.size) := by
        have h1 := HR.out
        rw [runLen_end] at h1
        show _ = _
        omega
      clear HR
      go_wp2_with fail
      go_quiet (fail)
      go_wp2_with fail
      go_quiet (fail)
      go_wp2_with fail
      go_ret
      rw [hr2.out]
      exact ⟨rfl, (hbk.drewN _).drewN _, (hbut.drewN _).drewN _⟩
end Go.Proofs.YtfoihafhpmbaeaaGreatDoor
