/- A cancel is dealt with; a frame is dealt with. -/
import Derived.Test.YtfoihafhpmbaeaaGreatDoorG28
namespace Go.Proofs.YtfoihafhpmbaeaaGreatDoor
open Go.RowKit


set_option maxHeartbeats 400000 in
theorem cancelA (w : World) (x : Nat) (s : Sp) (body : ByteArray) (id : Int) (hid : takeCancelS body = (id, 0)) (hy : YdAt w x s []) (hn : s.n = 0) (hb : body.size ≤ 140737488355328) :
    Calls Tryz.prog 14 #[.pointer (some ⟨x, 0, none⟩), .string body] w fun e w' => e = .returned (.string (replyS id 0 ⟨#[]⟩)) ∧ (∃ v, YdAt w' x { s with yard := v } [id]) ∧ Below x w w' := by
  have hx := hy.blk.lt
  have HT := Lib.hid (TakeCancel_calls body w hb)
  rw [hid] at HT
  simp only at HT
  have hu : u64ok id := by have := takeCancel_u64 body; rw [hid] at this; exact this
  have HF := Lib.hid (fun W => Fail_calls id 0 W hu (by omega) (by omega))
  have HG : Hid (∀ W, YdAt W x s [] → Calls Tryz.prog 25 #[.pointer (some ⟨x, 10, none⟩), .int .u64 id] W fun e w' => e = .returned (.tuple #[.string ⟨#[]⟩, .bool false]) ∧ Below W.heap.size W w') := fun W hW => Get_none W x s _ _ hW hn
  have HP : Hid (∀ W, YdAt W x s [] → Calls Tryz.prog 26 #[.pointer (some ⟨x, 28, none⟩), .int .u64 id] W fun e w' => e = .returned (.bool true) ∧ (∃ v, YdAt w' x { s with yard := v } [id]) ∧ Below x W w') := fun W hW => by
    have := YardPut_new W x s [] id hW (by simp) (by simp)
    simpa using this
  have HYd := Lib.hid hy
  clear hy hn hu hb hid
  generalize replyS id 0 ⟨#[]⟩ = Rp at *
  go_enter Tryz.func14, Tryz.ntmps14
  go_wp2_with fail
  refine HT.out.mono ?_
  rintro e w1 ⟨rfl, B1⟩
  have Y1 := HYd.out.below B1 (Nat.le_refl _)
  have hz1 := B1.size
  have hgx : Below x w w1 := B1.mono (Nat.le_of_lt hx)
  go_wp2_with fail
  refine (HG.out _ Y1).mono ?_
  rintro e w2 ⟨rfl, B2⟩
  have Y2 := Y1.below B2 (Nat.le_refl _)
  have hg2 : Below x w w2 := hgx.trans (B2.mono (by omega))
  go_wp2_with fail
  refine (HP.out _ Y2).mono ?_
  rintro e w3 ⟨rfl, ⟨v, Y3⟩, G3⟩
  go_wp2_with fail
  refine (HF.out _).mono ?_
  rintro e w4 ⟨rfl, B4⟩
  have HFi : Hid ((∃ v, YdAt w4 x { s with yard := v } [id]) ∧ Below x w w4) := ⟨⟨v, Y3.below B4 (Nat.le_refl _)⟩, (hg2.trans G3).trans (B4.mono (Nat.le_of_lt Y3.blk.lt))⟩
  clear Y3 Y2 Y1
  go_wp2_with fail
  go_ret
  exact ⟨rfl, HFi.out⟩

set_option maxHeartbeats 400000 in
theorem cancelB (w : World) (x : Nat) (s : Sp) (body : ByteArray) (id : Int) (l : List Int) (hl : id ∈ l) (hid : takeCancelS body = (id, 0)) (hy : YdAt w x s l) (hn : s.n = 0) (hb : body.size ≤ 140737488355328) :
    Calls Tryz.prog 14 #[.pointer (some ⟨x, 0, none⟩), .string body] w fun e w' => e = .returned (.string (replyS id 0 ⟨#[]⟩)) ∧ YdAt w' x s l ∧ Below x w w' := by
  have hx := hy.blk.lt
  have HT := Lib.hid (TakeCancel_calls body w hb)
  rw [hid] at HT
  simp only at HT
  have hu : u64ok id := by have := takeCancel_u64 body; rw [hid] at this; exact this
  have HF := Lib.hid (fun W => Fail_calls id 0 W hu (by omega) (by omega))
  have HG : Hid (∀ W, YdAt W x s l → Calls Tryz.prog 25 #[.pointer (some ⟨x, 10, none⟩), .int .u64 id] W fun e w' => e = .returned (.tuple #[.string ⟨#[]⟩, .bool false]) ∧ Below W.heap.size W w') := fun W hW => Get_none W x s _ _ hW hn
  have HP : Hid (∀ W, YdAt W x s l → Calls Tryz.prog 26 #[.pointer (some ⟨x, 28, none⟩), .int .u64 id] W fun e w' => e = .returned (.bool false) ∧ W = w') := fun W hW => YardPut_has W x s l id hW hl
  have HYd := Lib.hid hy
  clear hy hn hu hb hid hl
  generalize replyS id 0 ⟨#[]⟩ = Rp at *
  go_enter Tryz.func14, Tryz.ntmps14
  go_wp2_with fail
  refine HT.out.mono ?_
  rintro e w1 ⟨rfl, B1⟩
  have Y1 := HYd.out.below B1 (Nat.le_refl _)
  have hz1 := B1.size
  have hgx : Below x w w1 := B1.mono (Nat.le_of_lt hx)
  go_wp2_with fail
  refine (HG.out _ Y1).mono ?_
  rintro e w2 ⟨rfl, B2⟩
  have Y2 := Y1.below B2 (Nat.le_refl _)
  have hg2 : Below x w w2 := hgx.trans (B2.mono (by omega))
  go_wp2_with fail
  refine (HP.out _ Y2).mono ?_
  rintro e w3 ⟨rfl, rfl⟩
  go_wp2_with fail
  refine (HF.out _).mono ?_
  rintro e w4 ⟨rfl, B4⟩
  have HFi : Hid (YdAt w4 x s l ∧ Below x w w4) := ⟨Y2.below B4 (Nat.le_refl _), hg2.trans (B4.mono (Nat.le_of_lt Y2.blk.lt))⟩
  clear Y2 Y1
  go_wp2_with fail
  go_ret
  exact ⟨rfl, HFi.out⟩

set_option maxHeartbeats 400000 in
theorem cancelC (w : World) (x : Nat) (s : Sp) (body : ByteArray) (id : Int) (l : List Int) (b : ByteArray) (hk : getK (ksOf s.ring s.next s.n) id = (b, true)) (hid : takeCancelS body = (id, 0)) (hy : YdAt w x s l) (hb : body.size ≤ 140737488355328) :
    Calls Tryz.prog 14 #[.pointer (some ⟨x, 0, none⟩), .string body] w fun e w' => e = .returned (.string (replyS id 17 ⟨#[]⟩)) ∧ YdAt w' x s l ∧ Below x w w' := by
  have hx := hy.blk.lt
  have HT := Lib.hid (TakeCancel_calls body w hb)
  rw [hid] at HT
  simp only at HT
  have hu : u64ok id := by have := takeCancel_u64 body; rw [hid] at this; exact this
  have HF := Lib.hid (fun W => Fail_calls id 17 W hu (by omega) (by omega))
  have HG : Hid (∀ W, YdAt W x s l → Calls Tryz.prog 25 #[.pointer (some ⟨x, 10, none⟩), .int .u64 id] W fun e w' => e = .returned (.tuple #[.string b, .bool true]) ∧ Below W.heap.size W w') := fun W hW => by
    have := Get_calls W x s.ring s.next s.n id (Sp.cache hW.ok hW.blk)
    rw [hk] at this
    exact this
  have HYd := Lib.hid hy
  clear hy hu hb hid hk
  generalize replyS id 17 ⟨#[]⟩ = Rp at *
  go_enter Tryz.func14, Tryz.ntmps14
  go_wp2_with fail
  refine HT.out.mono ?_
  rintro e w1 ⟨rfl, B1⟩
  have Y1 := HYd.out.below B1 (Nat.le_refl _)
  have hz1 := B1.size
  have hgx : Below x w w1 := B1.mono (Nat.le_of_lt hx)
  go_wp2_with fail
  refine (HG.out _ Y1).mono ?_
  rintro e w2 ⟨rfl, B2⟩
  have Y2 := Y1.below B2 (Nat.le_refl _)
  have hg2 : Below x w w2 := hgx.trans (B2.mono (by omega))
  go_wp2_with fail
  refine (HF.out _).mono ?_
  rintro e w4 ⟨rfl, B4⟩
  have HFi : Hid (YdAt w4 x s l ∧ Below x w w4) := ⟨Y2.below B4 (Nat.le_refl _), hg2.trans (B4.mono (Nat.le_of_lt Y2.blk.lt))⟩
  clear Y2 Y1
  go_wp2_with fail
  go_ret
  exact ⟨rfl, HFi.out⟩

theorem takeCancel_cases (b : ByteArray) : (∃ id, takeCancelS b = (id, 0)) ∨ takeCancelS b = (0, 1) := by
  unfold takeCancelS
  dsimp only
  split
  · exact .inl ⟨_, rfl⟩
  · exact .inr rfl

theorem cancelF (w : World) (x : Nat) (s : Sp) (body : ByteArray) (hid : takeCancelS body = (0, 1)) (hy : YdAt w x s []) (hb : body.size ≤ 140737488355328) :
    Calls Tryz.prog 14 #[.pointer (some ⟨x, 0, none⟩), .string body] w (AnswerPost x w) := by
  have hx := hy.blk.lt
  have HT := Lib.hid (TakeCancel_calls body w hb)
  rw [hid] at HT
  simp only at HT
  have HF := Lib.hid (fun W => Fail_calls 0 1 W (by unfold u64ok; omega) (by omega) (by omega))
  clear hy hb hid
  unfold AnswerPost
  generalize replyS 0 1 ⟨#[]⟩ = Rp at *
  go_enter Tryz.func14, Tryz.ntmps14
  go_wp2_with fail
  refine HT.out.mono ?_
  rintro e w1 ⟨rfl, B1⟩
  go_wp2_with fail
  refine (HF.out _).mono ?_
  rintro e w4 ⟨rfl, B4⟩
  have hz1 := B1.size
  go_wp2_with fail
  go_ret
  exact ⟨⟨_, rfl⟩, (B1.mono (Nat.le_of_lt hx)).trans (B4.mono (by omega))⟩

theorem cancelW (w : World) (x : Nat) (s : Sp) (body : ByteArray) (hy : YdAt w x s []) (hn : s.n = 0) (hb : body.size ≤ 140737488355328) :
    Calls Tryz.prog 14 #[.pointer (some ⟨x, 0, none⟩), .string body] w (AnswerPost x w) := by
  rcases takeCancel_cases body with ⟨id, h⟩ | h
  · exact (cancelA w x s body id h hy hn hb).mono (by rintro e w' ⟨rfl, _, g⟩; exact ⟨⟨_, rfl⟩, g⟩)
  · exact cancelF w x s body h hy hb
end Go.Proofs.YtfoihafhpmbaeaaGreatDoor

/- A frame is dealt with. -/
namespace Go.Proofs.YtfoihafhpmbaeaaGreatDoor
open Go.RowKit

def asksB (k : Int) : Bool := (decide (2 ≤ k) && decide (k ≤ 4)) || (k == 6) || (k == 7)
theorem Asks_calls (k : Int) (w : World) : Calls Tryz.prog 13 #[.int .i64 k] w fun e w' => e = .returned (.bool (asksB k)) ∧ w = w' := by
  by_cases h2 : k = 2
  · subst h2
    go_enter Tryz.func13, Tryz.ntmps13
    go_wp2_with fail
    go_ret
    exact ⟨rfl, rfl⟩
  by_cases h3 : k = 3
  · subst h3
    go_enter Tryz.func13, Tryz.ntmps13
    go_wp2_with fail
    go_ret
    exact ⟨rfl, rfl⟩
  by_cases h4 : k = 4
  · subst h4
    go_enter Tryz.func13, Tryz.ntmps13
    go_wp2_with fail
    go_ret
    exact ⟨rfl, rfl⟩
  by_cases h6 : k = 6
  · subst h6
    go_enter Tryz.func13, Tryz.ntmps13
    go_wp2_with fail
    go_ret
    exact ⟨rfl, rfl⟩
  by_cases h7 : k = 7
  · subst h7
    go_enter Tryz.func13, Tryz.ntmps13
    go_wp2_with fail
    go_ret
    exact ⟨rfl, rfl⟩
  have hB : asksB k = false := by
    unfold asksB
    simp [h6, h7]
    omega
  rw [hB]
  have k2 : (k == 2) = false := by rw [beq_eq_false_iff_ne]; exact h2
  have k3 : (k == 3) = false := by rw [beq_eq_false_iff_ne]; exact h3
  have k4 : (k == 4) = false := by rw [beq_eq_false_iff_ne]; exact h4
  have k6 : (k == 6) = false := by rw [beq_eq_false_iff_ne]; exact h6
  have k7 : (k == 7) = false := by rw [beq_eq_false_iff_ne]; exact h7
  clear h2 h3 h4 h6 h7 hB
  go_enter Tryz.func13, Tryz.ntmps13
  go_wp2_with fail
  go_ret
  exact ⟨rfl, rfl⟩

/-- a configuration's cells -/
structure Cf where
  c0 : Int
  c1 : Int
  c2 : Int
  c3 : Int
  c4 : Int
  c5 : Int
  c6 : Int
  c7 : Int
  c8 : Int
def Cf.val (c : Cf) : Value := .agg #[.int .i64 c.c0, .int .i64 c.c1, .int .i64 c.c2, .int .i64 c.c3, .int .i64 c.c4, .int .i64 c.c5, .int .i64 c.c6, .int .i64 c.c7, .int .i64 c.c8]
def Cf.mom (c : Cf) (k a n : Int) : Mom := ⟨k, max a 0, max n 0, c.c0, c.c1, c.c2, c.c3, c.c4, c.c5, c.c6, c.c7, c.c8⟩
def frV (k f : Int) (body : ByteArray) : Value := .agg #[.int .i64 k, .int .i64 f, .string body]

theorem Do_nil (w : World) (k f : Int) (body : ByteArray) (a n : Int) (c : Cf) :
    Calls Tryz.prog 4 #[.pointer none, frV k f body, .int .i64 a, .int .i64 n, c.val] w fun e w' => e = .returned (.tuple #[.string ⟨#[]⟩, .bool false]) ∧ Below w.heap.size w w' := by
  unfold frV Cf.val
  go_enter Tryz.func4, Tryz.ntmps4
  go_wp2_with fail
  go_ret2
  exact ⟨rfl, ((Below.refl _ _).alloc (Nat.le_refl _) _).alloc (by simp) _⟩

theorem Do_no (w : World) (x : Nat) (k f : Int) (body : ByteArray) (a n : Int) (c : Cf) (hk : asksB k = false) :
    Calls Tryz.prog 4 #[.pointer (some ⟨x, 0, none⟩), frV k f body, .int .i64 a, .int .i64 n, c.val] w fun e w' => e = .returned (.tuple #[.string ⟨#[]⟩, .bool false]) ∧ Below w.heap.size w w' := by
  have HA := Lib.hid (fun W => Asks_calls k W)
  rw [hk] at HA
  clear hk
  unfold frV Cf.val
  go_enter Tryz.func4, Tryz.ntmps4
  go_wp2_with fail
  refine (HA.out _).mono ?_
  rintro e w1 ⟨rfl, rfl⟩
  go_wp2_with fail
  go_ret2
  exact ⟨rfl, ((Below.refl _ _).alloc (Nat.le_refl _) _).alloc (by simp) _⟩


set_option maxHeartbeats 400000 in
theorem Do_answer2 (w : World) (x : Nat) (f : Int) (body : ByteArray) (a n : Int) (c : Cf) (Q : ByteArray → World → Prop)
    (HC : Hid (∀ W, Below w.heap.size w W → Calls Tryz.prog 15 #[.pointer (some ⟨x, 0, none⟩), .string body, .agg (c.mom 2 a n).cells.toArray] W fun e w' => ∃ b, e = .returned (.string b) ∧ Q b w')) :
    Calls Tryz.prog 4 #[.pointer (some ⟨x, 0, none⟩), frV 2 f body, .int .i64 a, .int .i64 n, c.val] w fun e w' => ∃ b, e = .returned (.tuple #[.string b, .bool true]) ∧ Q b w' := by
  have HA := Lib.hid (fun W => Asks_calls 2 W)
  rw [show asksB 2 = true by decide] at HA
  have hz : Hid (∀ o1 o2 o3 : Obj, Below w.heap.size w (((w.alloc o1).alloc o2).alloc o3)) := fun _ _ _ => (((Below.refl _ _).alloc (Nat.le_refl _) _).alloc (by simp) _).alloc (by simp; omega) _
  unfold frV Cf.val
  unfold Cf.mom Mom.cells at HC
  go_enter Tryz.func4, Tryz.ntmps4
  go_wp2_with fail
  refine (HA.out _).mono ?_
  rintro e w1 ⟨rfl, rfl⟩
  go_wp2_with fail
  refine (HC.out _ (hz.out _ _ _)).mono ?_
  rintro e w2 ⟨b, rfl, HQ⟩
  have HQ2 := Lib.hid HQ
  clear HQ
  go_wp2_with fail
  go_ret2
  exact ⟨b, rfl, HQ2.out⟩
set_option maxHeartbeats 400000 in
theorem Do_answer3 (w : World) (x : Nat) (f : Int) (body : ByteArray) (a n : Int) (c : Cf) (Q : ByteArray → World → Prop)
    (HC : Hid (∀ W, Below w.heap.size w W → Calls Tryz.prog 15 #[.pointer (some ⟨x, 0, none⟩), .string body, .agg (c.mom 3 a n).cells.toArray] W fun e w' => ∃ b, e = .returned (.string b) ∧ Q b w')) :
    Calls Tryz.prog 4 #[.pointer (some ⟨x, 0, none⟩), frV 3 f body, .int .i64 a, .int .i64 n, c.val] w fun e w' => ∃ b, e = .returned (.tuple #[.string ⟨#[]⟩, .bool false]) ∧ Q b w' := by
  have HA := Lib.hid (fun W => Asks_calls 3 W)
  rw [show asksB 3 = true by decide] at HA
  have hz : Hid (∀ o1 o2 o3 : Obj, Below w.heap.size w (((w.alloc o1).alloc o2).alloc o3)) := fun _ _ _ => (((Below.refl _ _).alloc (Nat.le_refl _) _).alloc (by simp) _).alloc (by simp; omega) _
  unfold frV Cf.val
  unfold Cf.mom Mom.cells at HC
  go_enter Tryz.func4, Tryz.ntmps4
  go_wp2_with fail
  refine (HA.out _).mono ?_
  rintro e w1 ⟨rfl, rfl⟩
  go_wp2_with fail
  refine (HC.out _ (hz.out _ _ _)).mono ?_
  rintro e w2 ⟨b, rfl, HQ⟩
  have HQ2 := Lib.hid HQ
  clear HQ
  go_wp2_with fail
  go_ret2
  exact ⟨b, rfl, HQ2.out⟩
set_option maxHeartbeats 400000 in
theorem Do_answer6 (w : World) (x : Nat) (f : Int) (body : ByteArray) (a n : Int) (c : Cf) (Q : ByteArray → World → Prop)
    (HC : Hid (∀ W, Below w.heap.size w W → Calls Tryz.prog 15 #[.pointer (some ⟨x, 0, none⟩), .string body, .agg (c.mom 6 a n).cells.toArray] W fun e w' => ∃ b, e = .returned (.string b) ∧ Q b w')) :
    Calls Tryz.prog 4 #[.pointer (some ⟨x, 0, none⟩), frV 6 f body, .int .i64 a, .int .i64 n, c.val] w fun e w' => ∃ b, e = .returned (.tuple #[.string b, .bool true]) ∧ Q b w' := by
  have HA := Lib.hid (fun W => Asks_calls 6 W)
  rw [show asksB 6 = true by decide] at HA
  have hz : Hid (∀ o1 o2 o3 : Obj, Below w.heap.size w (((w.alloc o1).alloc o2).alloc o3)) := fun _ _ _ => (((Below.refl _ _).alloc (Nat.le_refl _) _).alloc (by simp) _).alloc (by simp; omega) _
  unfold frV Cf.val
  unfold Cf.mom Mom.cells at HC
  go_enter Tryz.func4, Tryz.ntmps4
  go_wp2_with fail
  refine (HA.out _).mono ?_
  rintro e w1 ⟨rfl, rfl⟩
  go_wp2_with fail
  refine (HC.out _ (hz.out _ _ _)).mono ?_
  rintro e w2 ⟨b, rfl, HQ⟩
  have HQ2 := Lib.hid HQ
  clear HQ
  go_wp2_with fail
  go_ret2
  exact ⟨b, rfl, HQ2.out⟩
set_option maxHeartbeats 400000 in
theorem Do_answer7 (w : World) (x : Nat) (f : Int) (body : ByteArray) (a n : Int) (c : Cf) (Q : ByteArray → World → Prop)
    (HC : Hid (∀ W, Below w.heap.size w W → Calls Tryz.prog 15 #[.pointer (some ⟨x, 0, none⟩), .string body, .agg (c.mom 7 a n).cells.toArray] W fun e w' => ∃ b, e = .returned (.string b) ∧ Q b w')) :
    Calls Tryz.prog 4 #[.pointer (some ⟨x, 0, none⟩), frV 7 f body, .int .i64 a, .int .i64 n, c.val] w fun e w' => ∃ b, e = .returned (.tuple #[.string b, .bool true]) ∧ Q b w' := by
  have HA := Lib.hid (fun W => Asks_calls 7 W)
  rw [show asksB 7 = true by decide] at HA
  have hz : Hid (∀ o1 o2 o3 : Obj, Below w.heap.size w (((w.alloc o1).alloc o2).alloc o3)) := fun _ _ _ => (((Below.refl _ _).alloc (Nat.le_refl _) _).alloc (by simp) _).alloc (by simp; omega) _
  unfold frV Cf.val
  unfold Cf.mom Mom.cells at HC
  go_enter Tryz.func4, Tryz.ntmps4
  go_wp2_with fail
  refine (HA.out _).mono ?_
  rintro e w1 ⟨rfl, rfl⟩
  go_wp2_with fail
  refine (HC.out _ (hz.out _ _ _)).mono ?_
  rintro e w2 ⟨b, rfl, HQ⟩
  have HQ2 := Lib.hid HQ
  clear HQ
  go_wp2_with fail
  go_ret2
  exact ⟨b, rfl, HQ2.out⟩
set_option maxHeartbeats 400000 in
theorem Do_cancel (w : World) (x : Nat) (f : Int) (body : ByteArray) (a n : Int) (c : Cf) (Q : ByteArray → World → Prop)
    (HC : Hid (∀ W, Below w.heap.size w W → Calls Tryz.prog 14 #[.pointer (some ⟨x, 0, none⟩), .string body] W fun e w' => ∃ b, e = .returned (.string b) ∧ Q b w')) :
    Calls Tryz.prog 4 #[.pointer (some ⟨x, 0, none⟩), frV 4 f body, .int .i64 a, .int .i64 n, c.val] w fun e w' => ∃ b, e = .returned (.tuple #[.string b, .bool true]) ∧ Q b w' := by
  have HA := Lib.hid (fun W => Asks_calls 4 W)
  rw [show asksB 4 = true by decide] at HA
  have hz : Hid (∀ o1 o2 o3 : Obj, Below w.heap.size w (((w.alloc o1).alloc o2).alloc o3)) := fun _ _ _ => (((Below.refl _ _).alloc (Nat.le_refl _) _).alloc (by simp) _).alloc (by simp; omega) _
  unfold frV Cf.val
  go_enter Tryz.func4, Tryz.ntmps4
  go_wp2_with fail
  refine (HA.out _).mono ?_
  rintro e w1 ⟨rfl, rfl⟩
  go_wp2_with fail
  refine (HC.out _ (hz.out _ _ _)).mono ?_
  rintro e w2 ⟨b, rfl, HQ⟩
  have HQ2 := Lib.hid HQ
  clear HQ
  go_wp2_with fail
  go_ret2
  exact ⟨b, rfl, HQ2.out⟩
end Go.Proofs.YtfoihafhpmbaeaaGreatDoor
