/- A new space. -/
import Derived.Laws.Rows
import Derived.Test.YtfoihafhpmbaeaaGreatDoorG29
namespace Go.Proofs.YtfoihafhpmbaeaaGreatDoor
open Go.RowKit

def zeroRing : List (Int × ByteArray) := List.replicate 8 (0, ⟨#[]⟩)
def newSp : Sp := ⟨.pointer none, .slice none 0 0, [.map none, .int .i64 0, .map none, .int .i64 0, .map none, .int .i64 0, .map none, .int .i64 0], zeroRing, 0, 0, .slice none 0 0⟩
theorem newSp_ok : newSp.Ok := ⟨rfl, rfl, by decide, by decide⟩
theorem newSp_unb : Unb newSp := ⟨rfl, rfl⟩

theorem New_calls (w : World) : Calls Tryz.prog 11 #[] w fun e w' => e = .returned (.pointer (some ⟨w.heap.size, 0, none⟩)) ∧ YdAt w' w.heap.size newSp [] ∧ Below w.heap.size w w' := by
  have h1 := Blk.new w newSp.cells 72
  have h0 : YdAt (w.alloc (.cells newSp.cells.toArray 72)) w.heap.size newSp [] ∧ Below w.heap.size w (w.alloc (.cells newSp.cells.toArray 72)) :=
    ⟨⟨newSp_ok, h1, ⟨none, 0, rfl, ⟨by simp, .inl ⟨rfl, rfl⟩⟩⟩, by simp⟩, (Below.refl _ _).alloc (Nat.le_refl _) _⟩
  have HX := Lib.hid h0
  clear h0 h1
  go_enter Tryz.func11, Tryz.ntmps11
  go_wp2_with fail
  go_ret
  exact ⟨rfl, HX.out⟩

theorem SchemaNil (w : World) : Calls Tryz.prog 5 #[.pointer none] w fun e w' => e = .returned (.slice none 0 0) ∧ w = w' := by
  go_enter Tryz.func5, Tryz.ntmps5
  go_wp2_with fail
  go_ret
  exact ⟨rfl, rfl⟩
theorem BindsNil (w : World) : Calls Tryz.prog 6 #[.pointer none] w fun e w' => e = .returned (.slice none 0 0) ∧ w = w' := by
  go_enter Tryz.func6, Tryz.ntmps6
  go_wp2_with fail
  go_ret
  exact ⟨rfl, rfl⟩
theorem TextNil (w : World) : Calls Tryz.prog 7 #[.pointer none] w fun e w' => e = .returned (.string ⟨#[]⟩) ∧ w = w' := by
  go_enter Tryz.func7, Tryz.ntmps7
  go_wp2_with fail
  go_ret
  exact ⟨rfl, rfl⟩
theorem SizeNil (w : World) : Calls Tryz.prog 8 #[.pointer none] w fun e w' => e = .returned (.int .i64 0) ∧ w = w' := by
  go_enter Tryz.func8, Tryz.ntmps8
  go_wp2_with fail
  go_ret
  exact ⟨rfl, rfl⟩
theorem KeptNil (w : World) : Calls Tryz.prog 9 #[.pointer none] w fun e w' => e = .returned (.slice none 0 0) ∧ w = w' := by
  go_enter Tryz.func9, Tryz.ntmps9
  go_wp2_with fail
  go_ret
  exact ⟨rfl, rfl⟩
theorem TombsNil (w : World) : Calls Tryz.prog 10 #[.pointer none] w fun e w' => e = .returned (.slice none 0 0) ∧ w = w' := by
  go_enter Tryz.func10, Tryz.ntmps10
  go_wp2_with fail
  go_ret
  exact ⟨rfl, rfl⟩

theorem CloneNil (w : World) : Calls Tryz.prog 53 #[.slice none 0 0] w fun e w' => e = .returned (.slice none 0 0) ∧ w = w' := by
  have hq : ∀ W, (binOp .eql 37 (.slice none 0 0) (.slice none 0 0)).run Tryz.prog W = .ok (.bool true) W := fun W => by kernel_rfl
  go_enter Tryz.func53, Tryz.ntmps53
  go_wp2_with fail
  go_ret
  exact ⟨rfl, rfl⟩
theorem Tombs_none (w : World) (x : Nat) (s : Sp) (hb : SpAt w x s) (hok : s.Ok) (hy : s.yard = .slice none 0 0) :
    Calls Tryz.prog 10 #[.pointer (some ⟨x, 0, none⟩)] w fun e w' => e = .returned (.slice none 0 0) ∧ w = w' := by
  have HC := Lib.hid (fun W => CloneNil W)
  have HY : Hid (Calls Tryz.prog 20 #[.pointer (some ⟨x, 28, none⟩)] w fun e w' => e = .returned (.slice none 0 0) ∧ w = w') := by
    have d := hb.cell 28
    rw [Sp.yard_at hok, hy] at d
    go_enter Tryz.func20, Tryz.ntmps20
    go_wp2_with fail
    refine (HC.out _).mono ?_
    rintro e w' ⟨rfl, rfl⟩
    go_wp2_with fail
    go_ret
    exact ⟨rfl, rfl⟩
  clear hb hok hy
  go_enter Tryz.func10, Tryz.ntmps10
  go_wp2_with fail
  refine HY.out.mono ?_
  rintro e w' ⟨rfl, rfl⟩
  go_wp2_with fail
  go_ret
  exact ⟨rfl, rfl⟩
theorem Kept_none (w : World) (x : Nat) (s : Sp) (hb : SpAt w x s) (hok : s.Ok) (hn : s.n = 0) :
    Calls Tryz.prog 9 #[.pointer (some ⟨x, 0, none⟩)] w fun e w' => e = .returned (.slice none 0 0) ∧ Below w.heap.size w w' := by
  have hc := Sp.cache hok hb
  rw [hn] at hc
  have HA := Lib.hid (all_none w x s.ring s.next hc)
  have HI : Hid (Calls Tryz.prog 19 #[.pointer (some ⟨x, 10, none⟩)] w fun e w' => e = .returned (.slice none 0 0) ∧ Below w.heap.size w w') := by
    clear hb hok hn hc
    go_enter Tryz.func19, Tryz.ntmps19
    go_wp2_with fail
    refine HA.out.mono ?_
    rintro e w1 ⟨B1, a, c, rfl, hr⟩
    rw [ksOf_none] at *
    have HB := Lib.hid B1
    clear hr HA
    simp only [List.length_nil]
    go_wp2_with fail
    go_loop [3, 9] (fun r i => r = .slice none 0 0 ∧ i = .int .i64 0) (fun _ _ => 0)
    case atStart => exact ⟨rfl, rfl⟩
    case round =>
      obtain ⟨rfl, rfl⟩ := hrel
      go_wp2_with fail
      go_ret
      exact ⟨rfl, HB.out⟩
  clear hb hok hn hc HA
  go_enter Tryz.func9, Tryz.ntmps9
  go_wp2_with fail
  refine HI.out.mono ?_
  rintro e w' ⟨rfl, B⟩
  go_wp2_with fail
  go_ret
  exact ⟨rfl, B⟩

theorem lawCancel_calls (id : Int) (w : World) (hn : u64ok id) :
    Calls Tryz.prog 21 #[.int .u64 id] w fun e w' => e = .returned (frV 4 0 (vputS id)) ∧ Below w.heap.size w w' := by
  have HP := Lib.hid (fun W => PutCancel_calls id W hn)
  generalize vputS id = V at *
  unfold frV
  go_enter Tryz.func21, Tryz.ntmps21
  go_wp2_with fail
  refine (HP.out _).mono ?_
  rintro e w1 ⟨rfl, B⟩
  have r := (Blk.new w [.int .i64 0, .int .i64 0, .string ⟨#[]⟩] 23).below B (by simp)
  have f0 := r.free 0
  have f1 := r.free 1
  have f2 := r.free 2
  have r0 := r.cell 0
  have r1 := r.cell 1
  have r2 := r.cell 2
  simp only [List.getElem?_cons_zero, List.getElem?_cons_succ] at r0 r1 r2
  have HB := Lib.hid B
  have rf := ((r.set 0 (.int .i64 4)).set 1 (.int .i64 0)).set 2 (.string V)
  have B2 : Below w.heap.size w (((w1.setCell ⟨w.heap.size, 0, none⟩ (.int .i64 4)).setCell ⟨w.heap.size, 1, none⟩ (.int .i64 0)).setCell ⟨w.heap.size, 2, none⟩ (.string V)) :=
    ((((((Below.refl w.heap.size w).alloc (Nat.le_refl _) _).trans (B.mono (by simp))).setCell (p := ⟨w.heap.size, 0, none⟩) (Nat.le_refl _) _).setCell (p := ⟨w.heap.size, 1, none⟩) (Nat.le_refl _) _).setCell (p := ⟨w.heap.size, 2, none⟩) (Nat.le_refl _) _)
  have HX := Lib.hid (And.intro rf B2)
  clear r B rf B2
  go_wp2_with fail
  (try simp only [Exit.inBlock, Exit.then])
  refine bodyPost_ret (results_cell_row rfl _ _ w.heap.size 23 _ (0, 0) _ rfl HX.out.1 Tryz.underlying23 rfl (by kernel_rfl)) rfl ?_
  exact ⟨rfl, HX.out.2⟩
end Go.Proofs.YtfoihafhpmbaeaaGreatDoor

/- The chapter's example. -/
namespace Go.Proofs.YtfoihafhpmbaeaaGreatDoor
open Go.RowKit

theorem awake_cancel : takeCancelS (vputS 5) = (5, 0) := by kernel_rfl
theorem awake_call1 : (takeCallS (putCallS 5 ⟨#[]⟩)).1.id = 5 := by kernel_rfl
theorem awake_call2 : (takeCallS (putCallS 5 ⟨#[]⟩)).2 = 0 := by kernel_rfl
theorem awake_kept (v : Value) (b : ByteArray) : getK (ksOf (({ newSp with yard := v } : Sp).keep 5 b).ring (({ newSp with yard := v } : Sp).keep 5 b).next (({ newSp with yard := v } : Sp).keep 5 b).n) 5 = (b, true) := by rfl

def zCf : Cf := ⟨0, 0, 0, 0, 0, 0, 0, 0, 0⟩

/-- where the example stands -/
def Aw (x : Nat) (w : World) (s : Sp) (l : List Int) (W : World) : Prop := YdAt W x s l ∧ Below x w W
theorem Aw.step {x : Nat} {w W W' : World} {s : Sp} {l : List Int} (h : Aw x w s l W) (g : Below W.heap.size W W') : Aw x w s l W' :=
  ⟨h.1.below g (Nat.le_refl _), h.2.trans (g.mono (Nat.le_of_lt h.1.blk.lt))⟩

set_option maxRecDepth 100000 in
set_option maxHeartbeats 600000 in
theorem awake_calls (w : World) : Calls Tryz.prog 12 #[] w fun e w' => e = .returned (.bool true) ∧ Below w.heap.size w w' := by
  have h5 : u64ok 5 := by unfold u64ok; omega
  have sz1 : (vputS 5).size ≤ 140737488355328 := by have := vputS_size 5; omega
  have sz2 : (putCallS 5 ⟨#[]⟩).size ≤ 140737488355328 := by
    have := vputS_size 5; have := vputS_size 0
    unfold putCallS
    rw [ByteArray.size_append, ByteArray.size_append, ByteArray.size_append, show (⟨#[]⟩ : ByteArray).size = 0 from rfl]
    omega
  have HN := Lib.hid (New_calls w)
  generalize hx : w.heap.size = x at *
  have HK := Lib.hid (fun W => lawCancel_calls 5 W h5)
  have HF0 := Lib.hid (fun W => Fail_calls 5 0 W h5 (by omega) (by omega))
  have HF1 := Lib.hid (fun W => Fail_calls 5 19 W h5 (by omega) (by omega))
  have HF2 := Lib.hid (fun W => Fail_calls 5 17 W h5 (by omega) (by omega))
  have HPC := Lib.hid (fun W => PutCall_calls 5 ⟨#[]⟩ W h5 (by decide))
  have HD1 : Hid (∀ W, Aw x w newSp [] W → Calls Tryz.prog 4 #[.pointer (some ⟨x, 0, none⟩), frV 4 0 (vputS 5), .int .i64 0, .int .i64 0, zCf.val] W fun e w' => ∃ b, e = .returned (.tuple #[.string b, .bool true]) ∧ (b = replyS 5 0 ⟨#[]⟩ ∧ ∃ v, Aw x w { newSp with yard := v } [5] w')) := fun W h =>
    Do_cancel W x 0 (vputS 5) 0 0 zCf (fun b w' => b = replyS 5 0 ⟨#[]⟩ ∧ ∃ v, Aw x w { newSp with yard := v } [5] w') (fun W2 g =>
      (cancelA W2 x newSp (vputS 5) 5 awake_cancel (h.step g).1 rfl sz1).mono (by rintro e w' ⟨rfl, ⟨v, hv⟩, g2⟩; exact ⟨_, rfl, rfl, v, hv, (h.step g).2.trans g2⟩))
  have HD2 : Hid (∀ v W, Aw x w { newSp with yard := v } [5] W → Calls Tryz.prog 4 #[.pointer (some ⟨x, 0, none⟩), frV 4 0 (vputS 5), .int .i64 0, .int .i64 0, zCf.val] W fun e w' => ∃ b, e = .returned (.tuple #[.string b, .bool true]) ∧ (b = replyS 5 0 ⟨#[]⟩ ∧ Aw x w { newSp with yard := v } [5] w')) := fun v W h =>
    Do_cancel W x 0 (vputS 5) 0 0 zCf (fun b w' => b = replyS 5 0 ⟨#[]⟩ ∧ Aw x w { newSp with yard := v } [5] w') (fun W2 g =>
      (cancelB W2 x _ (vputS 5) 5 [5] (by simp) awake_cancel (h.step g).1 rfl sz1).mono (by rintro e w' ⟨rfl, hv, g2⟩; exact ⟨_, rfl, rfl, hv, (h.step g).2.trans g2⟩))
  have HD3 : Hid (∀ v W, Aw x w { newSp with yard := v } [5] W → Calls Tryz.prog 4 #[.pointer (some ⟨x, 0, none⟩), frV 2 0 (putCallS 5 ⟨#[]⟩), .int .i64 0, .int .i64 0, zCf.val] W fun e w' => ∃ b, e = .returned (.tuple #[.string b, .bool true]) ∧ (b = replyS 5 19 ⟨#[]⟩ ∧ ∃ v, Aw x w (({ newSp with yard := v } : Sp).keep 5 (replyS 5 19 ⟨#[]⟩)) [] w')) := fun v W h =>
    Do_answer2 W x 0 (putCallS 5 ⟨#[]⟩) 0 0 zCf (fun b w' => b = replyS 5 19 ⟨#[]⟩ ∧ ∃ v, Aw x w (({ newSp with yard := v } : Sp).keep 5 (replyS 5 19 ⟨#[]⟩)) [] w') (fun W2 g =>
      (answerGone W2 x _ (putCallS 5 ⟨#[]⟩) _ 5 awake_call1 (h.step g).1 rfl sz2 (by decide) (by decide) awake_call2).mono (by rintro e w' ⟨rfl, ⟨v, hv⟩, g2⟩; exact ⟨_, rfl, rfl, v, hv, (h.step g).2.trans g2⟩))
  have HD4 : Hid (∀ v W, Aw x w (({ newSp with yard := v } : Sp).keep 5 (replyS 5 19 ⟨#[]⟩)) [] W → Calls Tryz.prog 4 #[.pointer (some ⟨x, 0, none⟩), frV 4 0 (vputS 5), .int .i64 0, .int .i64 0, zCf.val] W fun e w' => ∃ b, e = .returned (.tuple #[.string b, .bool true]) ∧ (b = replyS 5 17 ⟨#[]⟩ ∧ Below x w w')) := fun v W h =>
    Do_cancel W x 0 (vputS 5) 0 0 zCf (fun b w' => b = replyS 5 17 ⟨#[]⟩ ∧ Below x w w') (fun W2 g =>
      (cancelC W2 x _ (vputS 5) 5 [] _ (awake_kept v _) awake_cancel (h.step g).1 sz1).mono (by rintro e w' ⟨rfl, hv, g2⟩; exact ⟨_, rfl, rfl, (h.step g).2.trans g2⟩))
  clear sz1 sz2
  generalize replyS 5 0 ⟨#[]⟩ = R0 at *
  generalize replyS 5 19 ⟨#[]⟩ = R1 at *
  generalize replyS 5 17 ⟨#[]⟩ = R2 at *
  generalize vputS 5 = B1 at *
  generalize putCallS 5 ⟨#[]⟩ = B2 at *
  unfold frV Cf.val zCf at *
  simp only at HD1 HD2 HD3 HD4
  go_enter Tryz.func12, Tryz.ntmps12
  go_wp2_with fail
  refine HN.out.mono ?_
  rintro e w1 ⟨rfl, Y1, g1⟩
  have A1 : Aw x w newSp [] w1 := ⟨Y1, g1⟩
  clear Y1 g1
  go_wp2_with fail
  refine (HK.out _).mono ?_
  rintro e w2 ⟨rfl, g⟩
  have A2 := A1.step g
  clear A1 g
  go_wp2_with fail
  refine (HD1.out _ A2).mono ?_
  rintro e w3 ⟨_, rfl, rfl, v, A3⟩
  clear A2
  go_wp2_with fail
  refine (HK.out _).mono ?_
  rintro e w4 ⟨rfl, g⟩
  have A4 := A3.step g
  clear A3 g
  go_wp2_with fail
  refine (HD2.out v _ A4).mono ?_
  rintro e w5 ⟨_, rfl, rfl, A5⟩
  clear A4
  go_wp2_with fail
  refine (HPC.out _).mono ?_
  rintro e w6 ⟨rfl, g⟩
  have A6 := A5.step g
  clear A5 g
  go_wp2_with fail
  refine (HD3.out v _ A6).mono ?_
  rintro e w7 ⟨_, rfl, rfl, v2, A7⟩
  clear A6
  go_wp2_with fail
  refine (HK.out _).mono ?_
  rintro e w8 ⟨rfl, g⟩
  have A8 := A7.step g
  clear A7 g
  go_wp2_with fail
  refine (HD4.out v2 _ A8).mono ?_
  rintro e w9 ⟨_, rfl, rfl, g9⟩
  clear A8
  go_wp2_with fail
  refine (HF0.out _).mono ?_
  rintro e wa ⟨rfl, ga⟩
  have g10 := g9.up ga (by rw [← hx]; exact g9.size)
  clear g9 ga
  go_wp2_with fail
  refine (HF1.out _).mono ?_
  rintro e wb ⟨rfl, gb⟩
  have g11 := g10.up gb (by rw [← hx]; exact g10.size)
  clear g10 gb
  go_wp2_with fail
  refine (HF2.out _).mono ?_
  rintro e wc ⟨rfl, gc⟩
  have g12 := g11.up gc (by rw [← hx]; exact g11.size)
  clear g11 gc
  go_wp2_with fail
  go_ret
  exact ⟨rfl, g12⟩
end Go.Proofs.YtfoihafhpmbaeaaGreatDoor

/- The law: a space that is not there. -/
namespace Go.Proofs.YtfoihafhpmbaeaaGreatDoor
open Go.RowKit

def i64top (n : Int) : Prop := n ≤ 9223372036854775807
theorem mom_ok (c : Cf) (k a n : Int) (ha : i64top a) (hn : i64top n) : (c.mom k a n).Ok := by
  unfold i64top at ha hn
  refine ⟨?_, ?_, ?_, ?_⟩ <;> simp only [Cf.mom] <;> omega

theorem Do_fresh (w : World) (x : Nat) (k f : Int) (body : ByteArray) (a n : Int) (c : Cf) (hk : asksB k = true) (hy : YdAt w x newSp []) (hm : SpMem x w) (hb : body.size ≤ 140737488355328) (ha : i64top a) (hn : i64top n) :
    Calls Tryz.prog 4 #[.pointer (some ⟨x, 0, none⟩), frV k f body, .int .i64 a, .int .i64 n, c.val] w fun e w' => (∃ b t, e = .returned (.tuple #[.string b, .bool t])) ∧ Below x w w' := by
  have hx := hy.blk.lt
  have st : ∀ W, Below w.heap.size w W → YdAt W x newSp [] ∧ SpMem x W ∧ Below x w W := fun W g =>
    ⟨hy.below g (Nat.le_refl _), hm.keep (g.mono (Nat.le_of_lt hx)), g.mono (Nat.le_of_lt hx)⟩
  have fin : ∀ W, Below w.heap.size w W → ∀ e w', AnswerPost x W e w' → ∃ b, e = .returned (.string b) ∧ Below x w w' := fun W g e w' h => by
    obtain ⟨⟨b, rfl⟩, h2⟩ := h
    exact ⟨b, rfl, (st W g).2.2.trans h2⟩
  by_cases h2 : k = 2
  · subst h2
    refine (Do_answer2 w x f body a n c (fun _ w' => Below x w w') (fun W g => (answerC W x newSp body (c.mom 2 a n) newSp_unb (st W g).1 rfl (st W g).2.1 hb (mom_ok c 2 a n ha hn) (by simp [Cf.mom]) (by simp [Cf.mom])).mono (fin W g))).mono ?_
    rintro e w' ⟨b, rfl, h⟩
    exact ⟨⟨_, _, rfl⟩, h⟩
  by_cases h3 : k = 3
  · subst h3
    refine (Do_answer3 w x f body a n c (fun _ w' => Below x w w') (fun W g => (answerC W x newSp body (c.mom 3 a n) newSp_unb (st W g).1 rfl (st W g).2.1 hb (mom_ok c 3 a n ha hn) (by simp [Cf.mom]) (by simp [Cf.mom])).mono (fin W g))).mono ?_
    rintro e w' ⟨b, rfl, h⟩
    exact ⟨⟨_, _, rfl⟩, h⟩
  by_cases h4 : k = 4
  · subst h4
    refine (Do_cancel w x f body a n c (fun _ w' => Below x w w') (fun W g => (cancelW W x newSp body (st W g).1 rfl hb).mono (fin W g))).mono ?_
    rintro e w' ⟨b, rfl, h⟩
    exact ⟨⟨_, _, rfl⟩, h⟩
  by_cases h6 : k = 6
  · subst h6
    refine (Do_answer6 w x f body a n c (fun _ w' => Below x w w') (fun W g => (answerS W x newSp body (c.mom 6 a n) newSp_unb (st W g).1 rfl (st W g).2.1 hb (by simp [Cf.mom])).mono (fin W g))).mono ?_
    rintro e w' ⟨b, rfl, h⟩
    exact ⟨⟨_, _, rfl⟩, h⟩
  by_cases h7 : k = 7
  · subst h7
    refine (Do_answer7 w x f body a n c (fun _ w' => Below x w w') (fun W g => (answerB W x newSp body (c.mom 7 a n) newSp_unb (st W g).1 rfl (st W g).2.1 hb (by simp [Cf.mom]) (by simp [Cf.mom])).mono (fin W g))).mono ?_
    rintro e w' ⟨b, rfl, h⟩
    exact ⟨⟨_, _, rfl⟩, h⟩
  exfalso
  unfold asksB at hk
  simp [h6, h7] at hk
  omega

def stepV (k f : Int) (body : ByteArray) (a n : Int) : Value := .agg #[.int .i64 k, .int .i64 f, .string body, .int .i64 a, .int .i64 n]

/-- the two boxes -/
structure Lw (w : World) (k f : Int) (body : ByteArray) (a n : Int) (c : Cf) (W : World) : Prop where
  below : Below w.heap.size w W
  s : Blk W w.heap.size [.int .i64 k, .int .i64 f, .string body, .int .i64 a, .int .i64 n] 25
  c : Blk W (w.heap.size + 1) [.int .i64 c.c0, .int .i64 c.c1, .int .i64 c.c2, .int .i64 c.c3, .int .i64 c.c4, .int .i64 c.c5, .int .i64 c.c6, .int .i64 c.c7, .int .i64 c.c8] 27
theorem Lw.step {w W W' : World} {k f : Int} {body : ByteArray} {a n : Int} {c : Cf} (h : Lw w k f body a n c W) {B : Nat} (hB : w.heap.size + 1 < B) (g : Below B W W') : Lw w k f body a n c W' :=
  ⟨h.below.trans (g.mono (by omega)), h.s.below g (by omega), h.c.below g hB⟩
theorem Lw.start (w : World) (k f : Int) (body : ByteArray) (a n : Int) (c : Cf) : Lw w k f body a n c ((w.alloc (.cells #[.int .i64 k, .int .i64 f, .string body, .int .i64 a, .int .i64 n] 25)).alloc (.cells #[.int .i64 c.c0, .int .i64 c.c1, .int .i64 c.c2, .int .i64 c.c3, .int .i64 c.c4, .int .i64 c.c5, .int .i64 c.c6, .int .i64 c.c7, .int .i64 c.c8] 27)) := by
  have e1 : (w.alloc (.cells #[.int .i64 k, .int .i64 f, .string body, .int .i64 a, .int .i64 n] 25)).heap.size = w.heap.size + 1 := by simp
  have n1 := Blk.new (w.alloc (.cells #[.int .i64 k, .int .i64 f, .string body, .int .i64 a, .int .i64 n] 25)) [.int .i64 c.c0, .int .i64 c.c1, .int .i64 c.c2, .int .i64 c.c3, .int .i64 c.c4, .int .i64 c.c5, .int .i64 c.c6, .int .i64 c.c7, .int .i64 c.c8] 27
  rw [e1] at n1
  exact ⟨((Below.refl _ _).alloc (Nat.le_refl _) _).alloc (by rw [e1]; omega) _, (Blk.new w [.int .i64 k, .int .i64 f, .string body, .int .i64 a, .int .i64 n] 25).alloc _, n1⟩


set_option maxHeartbeats 400000 in
theorem law2 (w : World) (f : Int) (body : ByteArray) (a n : Int) (c : Cf) (hML : MaxL w) (hlow : 3 < w.heap.size) (hb : body.size ≤ 140737488355328) (ha : i64top a) (hn : i64top n) :
    Calls Tryz.prog 3 #[stepV 2 f body a n, c.val] w fun e w' => e = .returned (.bool true) ∧ Below w.heap.size w w' := by
  have HD : Hid (∀ W x, YdAt W x newSp [] → SpMem x W → Calls Tryz.prog 4 #[.pointer (some ⟨x, 0, none⟩), frV 2 f body, .int .i64 a, .int .i64 n, c.val] W fun e w' => (∃ b t, e = .returned (.tuple #[.string b, .bool t])) ∧ Below x W w') := fun W x h1 h2 => Do_fresh W x 2 f body a n c (by decide) h1 h2 hb ha hn
  clear hb ha hn
  have HM := Lib.hid (And.intro hML hlow)
  have HL := Lib.hid (Lw.start w 2 f body a n c)
  have HD0 := Lib.hid (fun W => Do_nil W 2 f body a n c)
  have HN := Lib.hid (fun W => New_calls W)
  have G1 := Lib.hid (fun W => SchemaNil W)
  have G2 := Lib.hid (fun W => BindsNil W)
  have G3 := Lib.hid (fun W => TextNil W)
  have G4 := Lib.hid (fun W => SizeNil W)
  have G5 := Lib.hid (fun W => KeptNil W)
  have G6 := Lib.hid (fun W => TombsNil W)
  have HA := Lib.hid (fun W => awake_calls W)
  clear hML hlow
  unfold frV Cf.val at *
  unfold stepV
  go_enter Tryz.func3, Tryz.ntmps3
  go_wp2_with fail
  refine (HD0.out _).mono ?_
  rintro e w1 ⟨rfl, g1⟩
  have hs1 := HL.out.c.lt
  have L1 := HL.out.step (by omega) g1
  have z1 : w.heap.size + 1 < w1.heap.size := L1.c.lt
  have s0 := L1.s.cell 0
  have s1 := L1.s.cell 1
  have s2 := L1.s.cell 2
  have s3 := L1.s.cell 3
  have s4 := L1.s.cell 4
  have c0 := L1.c.cell 0
  have c1 := L1.c.cell 1
  have c2 := L1.c.cell 2
  have c3 := L1.c.cell 3
  have c4 := L1.c.cell 4
  have c5 := L1.c.cell 5
  have c6 := L1.c.cell 6
  have c7 := L1.c.cell 7
  have c8 := L1.c.cell 8
  simp only [List.getElem?_cons_zero, List.getElem?_cons_succ] at s0 s1 s2 s3 s4 c0 c1 c2 c3 c4 c5 c6 c7 c8
  go_wp2_with ((first
    | (go_at_call 5; refine (G1.out _).mono ?_; rintro e w2 ⟨rfl, rfl⟩)
    | (go_at_call 6; refine (G2.out _).mono ?_; rintro e w2 ⟨rfl, rfl⟩)
    | (go_at_call 7; refine (G3.out _).mono ?_; rintro e w2 ⟨rfl, rfl⟩)
    | (go_at_call 8; refine (G4.out _).mono ?_; rintro e w2 ⟨rfl, rfl⟩)
    | (go_at_call 9; refine (G5.out _).mono ?_; rintro e w2 ⟨rfl, rfl⟩)
    | (go_at_call 10; refine (G6.out _).mono ?_; rintro e w2 ⟨rfl, rfl⟩)))
  refine (HN.out _).mono ?_
  rintro e w2 ⟨rfl, Y2, g2⟩
  have L2 := L1.step (by omega) g2
  have hz2 := g2.size
  clear s0 s1 s2 s3 s4 c0 c1 c2 c3 c4 c5 c6 c7 c8
  have s0 := L2.s.cell 0
  have s1 := L2.s.cell 1
  have s2 := L2.s.cell 2
  have s3 := L2.s.cell 3
  have s4 := L2.s.cell 4
  have c0 := L2.c.cell 0
  have c1 := L2.c.cell 1
  have c2 := L2.c.cell 2
  have c3 := L2.c.cell 3
  have c4 := L2.c.cell 4
  have c5 := L2.c.cell 5
  have c6 := L2.c.cell 6
  have c7 := L2.c.cell 7
  have c8 := L2.c.cell 8
  simp only [List.getElem?_cons_zero, List.getElem?_cons_succ] at s0 s1 s2 s3 s4 c0 c1 c2 c3 c4 c5 c6 c7 c8
  have hm2 : SpMem w1.heap.size w2 := ⟨HM.out.1.keep (L2.below.block _ HM.out.2), by have := HM.out.2; omega, Y2.blk.lt⟩
  go_wp2_with fail
  refine (HD.out w2 _ Y2 hm2).mono ?_
  rintro e w3 ⟨⟨b, t, rfl⟩, g3⟩
  have L3 := L2.step (by omega) g3
  clear s0 s1 s2 s3 s4 c0 c1 c2 c3 c4 c5 c6 c7 c8
  have s0 := L3.s.cell 0
  have s1 := L3.s.cell 1
  have s2 := L3.s.cell 2
  have s3 := L3.s.cell 3
  have s4 := L3.s.cell 4
  have c0 := L3.c.cell 0
  have c1 := L3.c.cell 1
  have c2 := L3.c.cell 2
  have c3 := L3.c.cell 3
  have c4 := L3.c.cell 4
  have c5 := L3.c.cell 5
  have c6 := L3.c.cell 6
  have c7 := L3.c.cell 7
  have c8 := L3.c.cell 8
  simp only [List.getElem?_cons_zero, List.getElem?_cons_succ] at s0 s1 s2 s3 s4 c0 c1 c2 c3 c4 c5 c6 c7 c8
  go_wp2_with fail
  refine (HA.out _).mono ?_
  rintro e w4 ⟨rfl, g4⟩
  have L4 := L3.step (by have := L3.c.lt; omega) g4
  go_wp2_with fail
  go_ret
  exact ⟨rfl, L4.below⟩
set_option maxHeartbeats 400000 in
theorem law3 (w : World) (f : Int) (body : ByteArray) (a n : Int) (c : Cf) (hML : MaxL w) (hlow : 3 < w.heap.size) (hb : body.size ≤ 140737488355328) (ha : i64top a) (hn : i64top n) :
    Calls Tryz.prog 3 #[stepV 3 f body a n, c.val] w fun e w' => e = .returned (.bool true) ∧ Below w.heap.size w w' := by
  have HD : Hid (∀ W x, YdAt W x newSp [] → SpMem x W → Calls Tryz.prog 4 #[.pointer (some ⟨x, 0, none⟩), frV 3 f body, .int .i64 a, .int .i64 n, c.val] W fun e w' => (∃ b t, e = .returned (.tuple #[.string b, .bool t])) ∧ Below x W w') := fun W x h1 h2 => Do_fresh W x 3 f body a n c (by decide) h1 h2 hb ha hn
  clear hb ha hn
  have HM := Lib.hid (And.intro hML hlow)
  have HL := Lib.hid (Lw.start w 3 f body a n c)
  have HD0 := Lib.hid (fun W => Do_nil W 3 f body a n c)
  have HN := Lib.hid (fun W => New_calls W)
  have G1 := Lib.hid (fun W => SchemaNil W)
  have G2 := Lib.hid (fun W => BindsNil W)
  have G3 := Lib.hid (fun W => TextNil W)
  have G4 := Lib.hid (fun W => SizeNil W)
  have G5 := Lib.hid (fun W => KeptNil W)
  have G6 := Lib.hid (fun W => TombsNil W)
  have HA := Lib.hid (fun W => awake_calls W)
  clear hML hlow
  unfold frV Cf.val at *
  unfold stepV
  go_enter Tryz.func3, Tryz.ntmps3
  go_wp2_with fail
  refine (HD0.out _).mono ?_
  rintro e w1 ⟨rfl, g1⟩
  have hs1 := HL.out.c.lt
  have L1 := HL.out.step (by omega) g1
  have z1 : w.heap.size + 1 < w1.heap.size := L1.c.lt
  have s0 := L1.s.cell 0
  have s1 := L1.s.cell 1
  have s2 := L1.s.cell 2
  have s3 := L1.s.cell 3
  have s4 := L1.s.cell 4
  have c0 := L1.c.cell 0
  have c1 := L1.c.cell 1
  have c2 := L1.c.cell 2
  have c3 := L1.c.cell 3
  have c4 := L1.c.cell 4
  have c5 := L1.c.cell 5
  have c6 := L1.c.cell 6
  have c7 := L1.c.cell 7
  have c8 := L1.c.cell 8
  simp only [List.getElem?_cons_zero, List.getElem?_cons_succ] at s0 s1 s2 s3 s4 c0 c1 c2 c3 c4 c5 c6 c7 c8
  go_wp2_with ((first
    | (go_at_call 5; refine (G1.out _).mono ?_; rintro e w2 ⟨rfl, rfl⟩)
    | (go_at_call 6; refine (G2.out _).mono ?_; rintro e w2 ⟨rfl, rfl⟩)
    | (go_at_call 7; refine (G3.out _).mono ?_; rintro e w2 ⟨rfl, rfl⟩)
    | (go_at_call 8; refine (G4.out _).mono ?_; rintro e w2 ⟨rfl, rfl⟩)
    | (go_at_call 9; refine (G5.out _).mono ?_; rintro e w2 ⟨rfl, rfl⟩)
    | (go_at_call 10; refine (G6.out _).mono ?_; rintro e w2 ⟨rfl, rfl⟩)))
  refine (HN.out _).mono ?_
  rintro e w2 ⟨rfl, Y2, g2⟩
  have L2 := L1.step (by omega) g2
  have hz2 := g2.size
  clear s0 s1 s2 s3 s4 c0 c1 c2 c3 c4 c5 c6 c7 c8
  have s0 := L2.s.cell 0
  have s1 := L2.s.cell 1
  have s2 := L2.s.cell 2
  have s3 := L2.s.cell 3
  have s4 := L2.s.cell 4
  have c0 := L2.c.cell 0
  have c1 := L2.c.cell 1
  have c2 := L2.c.cell 2
  have c3 := L2.c.cell 3
  have c4 := L2.c.cell 4
  have c5 := L2.c.cell 5
  have c6 := L2.c.cell 6
  have c7 := L2.c.cell 7
  have c8 := L2.c.cell 8
  simp only [List.getElem?_cons_zero, List.getElem?_cons_succ] at s0 s1 s2 s3 s4 c0 c1 c2 c3 c4 c5 c6 c7 c8
  have hm2 : SpMem w1.heap.size w2 := ⟨HM.out.1.keep (L2.below.block _ HM.out.2), by have := HM.out.2; omega, Y2.blk.lt⟩
  go_wp2_with fail
  refine (HD.out w2 _ Y2 hm2).mono ?_
  rintro e w3 ⟨⟨b, t, rfl⟩, g3⟩
  have L3 := L2.step (by omega) g3
  clear s0 s1 s2 s3 s4 c0 c1 c2 c3 c4 c5 c6 c7 c8
  have s0 := L3.s.cell 0
  have s1 := L3.s.cell 1
  have s2 := L3.s.cell 2
  have s3 := L3.s.cell 3
  have s4 := L3.s.cell 4
  have c0 := L3.c.cell 0
  have c1 := L3.c.cell 1
  have c2 := L3.c.cell 2
  have c3 := L3.c.cell 3
  have c4 := L3.c.cell 4
  have c5 := L3.c.cell 5
  have c6 := L3.c.cell 6
  have c7 := L3.c.cell 7
  have c8 := L3.c.cell 8
  simp only [List.getElem?_cons_zero, List.getElem?_cons_succ] at s0 s1 s2 s3 s4 c0 c1 c2 c3 c4 c5 c6 c7 c8
  go_wp2_with fail
  refine (HA.out _).mono ?_
  rintro e w4 ⟨rfl, g4⟩
  have L4 := L3.step (by have := L3.c.lt; omega) g4
  go_wp2_with fail
  go_ret
  exact ⟨rfl, L4.below⟩
set_option maxHeartbeats 400000 in
theorem law4 (w : World) (f : Int) (body : ByteArray) (a n : Int) (c : Cf) (hML : MaxL w) (hlow : 3 < w.heap.size) (hb : body.size ≤ 140737488355328) (ha : i64top a) (hn : i64top n) :
    Calls Tryz.prog 3 #[stepV 4 f body a n, c.val] w fun e w' => e = .returned (.bool true) ∧ Below w.heap.size w w' := by
  have HD : Hid (∀ W x, YdAt W x newSp [] → SpMem x W → Calls Tryz.prog 4 #[.pointer (some ⟨x, 0, none⟩), frV 4 f body, .int .i64 a, .int .i64 n, c.val] W fun e w' => (∃ b t, e = .returned (.tuple #[.string b, .bool t])) ∧ Below x W w') := fun W x h1 h2 => Do_fresh W x 4 f body a n c (by decide) h1 h2 hb ha hn
  clear hb ha hn
  have HM := Lib.hid (And.intro hML hlow)
  have HL := Lib.hid (Lw.start w 4 f body a n c)
  have HD0 := Lib.hid (fun W => Do_nil W 4 f body a n c)
  have HN := Lib.hid (fun W => New_calls W)
  have G1 := Lib.hid (fun W => SchemaNil W)
  have G2 := Lib.hid (fun W => BindsNil W)
  have G3 := Lib.hid (fun W => TextNil W)
  have G4 := Lib.hid (fun W => SizeNil W)
  have G5 := Lib.hid (fun W => KeptNil W)
  have G6 := Lib.hid (fun W => TombsNil W)
  have HA := Lib.hid (fun W => awake_calls W)
  clear hML hlow
  unfold frV Cf.val at *
  unfold stepV
  go_enter Tryz.func3, Tryz.ntmps3
  go_wp2_with fail
  refine (HD0.out _).mono ?_
  rintro e w1 ⟨rfl, g1⟩
  have hs1 := HL.out.c.lt
  have L1 := HL.out.step (by omega) g1
  have z1 : w.heap.size + 1 < w1.heap.size := L1.c.lt
  have s0 := L1.s.cell 0
  have s1 := L1.s.cell 1
  have s2 := L1.s.cell 2
  have s3 := L1.s.cell 3
  have s4 := L1.s.cell 4
  have c0 := L1.c.cell 0
  have c1 := L1.c.cell 1
  have c2 := L1.c.cell 2
  have c3 := L1.c.cell 3
  have c4 := L1.c.cell 4
  have c5 := L1.c.cell 5
  have c6 := L1.c.cell 6
  have c7 := L1.c.cell 7
  have c8 := L1.c.cell 8
  simp only [List.getElem?_cons_zero, List.getElem?_cons_succ] at s0 s1 s2 s3 s4 c0 c1 c2 c3 c4 c5 c6 c7 c8
  go_wp2_with ((first
    | (go_at_call 5; refine (G1.out _).mono ?_; rintro e w2 ⟨rfl, rfl⟩)
    | (go_at_call 6; refine (G2.out _).mono ?_; rintro e w2 ⟨rfl, rfl⟩)
    | (go_at_call 7; refine (G3.out _).mono ?_; rintro e w2 ⟨rfl, rfl⟩)
    | (go_at_call 8; refine (G4.out _).mono ?_; rintro e w2 ⟨rfl, rfl⟩)
    | (go_at_call 9; refine (G5.out _).mono ?_; rintro e w2 ⟨rfl, rfl⟩)
    | (go_at_call 10; refine (G6.out _).mono ?_; rintro e w2 ⟨rfl, rfl⟩)))
  refine (HN.out _).mono ?_
  rintro e w2 ⟨rfl, Y2, g2⟩
  have L2 := L1.step (by omega) g2
  have hz2 := g2.size
  clear s0 s1 s2 s3 s4 c0 c1 c2 c3 c4 c5 c6 c7 c8
  have s0 := L2.s.cell 0
  have s1 := L2.s.cell 1
  have s2 := L2.s.cell 2
  have s3 := L2.s.cell 3
  have s4 := L2.s.cell 4
  have c0 := L2.c.cell 0
  have c1 := L2.c.cell 1
  have c2 := L2.c.cell 2
  have c3 := L2.c.cell 3
  have c4 := L2.c.cell 4
  have c5 := L2.c.cell 5
  have c6 := L2.c.cell 6
  have c7 := L2.c.cell 7
  have c8 := L2.c.cell 8
  simp only [List.getElem?_cons_zero, List.getElem?_cons_succ] at s0 s1 s2 s3 s4 c0 c1 c2 c3 c4 c5 c6 c7 c8
  have hm2 : SpMem w1.heap.size w2 := ⟨HM.out.1.keep (L2.below.block _ HM.out.2), by have := HM.out.2; omega, Y2.blk.lt⟩
  go_wp2_with fail
  refine (HD.out w2 _ Y2 hm2).mono ?_
  rintro e w3 ⟨⟨b, t, rfl⟩, g3⟩
  have L3 := L2.step (by omega) g3
  clear s0 s1 s2 s3 s4 c0 c1 c2 c3 c4 c5 c6 c7 c8
  have s0 := L3.s.cell 0
  have s1 := L3.s.cell 1
  have s2 := L3.s.cell 2
  have s3 := L3.s.cell 3
  have s4 := L3.s.cell 4
  have c0 := L3.c.cell 0
  have c1 := L3.c.cell 1
  have c2 := L3.c.cell 2
  have c3 := L3.c.cell 3
  have c4 := L3.c.cell 4
  have c5 := L3.c.cell 5
  have c6 := L3.c.cell 6
  have c7 := L3.c.cell 7
  have c8 := L3.c.cell 8
  simp only [List.getElem?_cons_zero, List.getElem?_cons_succ] at s0 s1 s2 s3 s4 c0 c1 c2 c3 c4 c5 c6 c7 c8
  go_wp2_with fail
  refine (HA.out _).mono ?_
  rintro e w4 ⟨rfl, g4⟩
  have L4 := L3.step (by have := L3.c.lt; omega) g4
  go_wp2_with fail
  go_ret
  exact ⟨rfl, L4.below⟩
set_option maxHeartbeats 400000 in
theorem law6 (w : World) (f : Int) (body : ByteArray) (a n : Int) (c : Cf) (hML : MaxL w) (hlow : 3 < w.heap.size) (hb : body.size ≤ 140737488355328) (ha : i64top a) (hn : i64top n) :
    Calls Tryz.prog 3 #[stepV 6 f body a n, c.val] w fun e w' => e = .returned (.bool true) ∧ Below w.heap.size w w' := by
  have HD : Hid (∀ W x, YdAt W x newSp [] → SpMem x W → Calls Tryz.prog 4 #[.pointer (some ⟨x, 0, none⟩), frV 6 f body, .int .i64 a, .int .i64 n, c.val] W fun e w' => (∃ b t, e = .returned (.tuple #[.string b, .bool t])) ∧ Below x W w') := fun W x h1 h2 => Do_fresh W x 6 f body a n c (by decide) h1 h2 hb ha hn
  clear hb ha hn
  have HM := Lib.hid (And.intro hML hlow)
  have HL := Lib.hid (Lw.start w 6 f body a n c)
  have HD0 := Lib.hid (fun W => Do_nil W 6 f body a n c)
  have HN := Lib.hid (fun W => New_calls W)
  have G1 := Lib.hid (fun W => SchemaNil W)
  have G2 := Lib.hid (fun W => BindsNil W)
  have G3 := Lib.hid (fun W => TextNil W)
  have G4 := Lib.hid (fun W => SizeNil W)
  have G5 := Lib.hid (fun W => KeptNil W)
  have G6 := Lib.hid (fun W => TombsNil W)
  have HA := Lib.hid (fun W => awake_calls W)
  clear hML hlow
  unfold frV Cf.val at *
  unfold stepV
  go_enter Tryz.func3, Tryz.ntmps3
  go_wp2_with fail
  refine (HD0.out _).mono ?_
  rintro e w1 ⟨rfl, g1⟩
  have hs1 := HL.out.c.lt
  have L1 := HL.out.step (by omega) g1
  have z1 : w.heap.size + 1 < w1.heap.size := L1.c.lt
  have s0 := L1.s.cell 0
  have s1 := L1.s.cell 1
  have s2 := L1.s.cell 2
  have s3 := L1.s.cell 3
  have s4 := L1.s.cell 4
  have c0 := L1.c.cell 0
  have c1 := L1.c.cell 1
  have c2 := L1.c.cell 2
  have c3 := L1.c.cell 3
  have c4 := L1.c.cell 4
  have c5 := L1.c.cell 5
  have c6 := L1.c.cell 6
  have c7 := L1.c.cell 7
  have c8 := L1.c.cell 8
  simp only [List.getElem?_cons_zero, List.getElem?_cons_succ] at s0 s1 s2 s3 s4 c0 c1 c2 c3 c4 c5 c6 c7 c8
  go_wp2_with ((first
    | (go_at_call 5; refine (G1.out _).mono ?_; rintro e w2 ⟨rfl, rfl⟩)
    | (go_at_call 6; refine (G2.out _).mono ?_; rintro e w2 ⟨rfl, rfl⟩)
    | (go_at_call 7; refine (G3.out _).mono ?_; rintro e w2 ⟨rfl, rfl⟩)
    | (go_at_call 8; refine (G4.out _).mono ?_; rintro e w2 ⟨rfl, rfl⟩)
    | (go_at_call 9; refine (G5.out _).mono ?_; rintro e w2 ⟨rfl, rfl⟩)
    | (go_at_call 10; refine (G6.out _).mono ?_; rintro e w2 ⟨rfl, rfl⟩)))
  refine (HN.out _).mono ?_
  rintro e w2 ⟨rfl, Y2, g2⟩
  have L2 := L1.step (by omega) g2
  have hz2 := g2.size
  clear s0 s1 s2 s3 s4 c0 c1 c2 c3 c4 c5 c6 c7 c8
  have s0 := L2.s.cell 0
  have s1 := L2.s.cell 1
  have s2 := L2.s.cell 2
  have s3 := L2.s.cell 3
  have s4 := L2.s.cell 4
  have c0 := L2.c.cell 0
  have c1 := L2.c.cell 1
  have c2 := L2.c.cell 2
  have c3 := L2.c.cell 3
  have c4 := L2.c.cell 4
  have c5 := L2.c.cell 5
  have c6 := L2.c.cell 6
  have c7 := L2.c.cell 7
  have c8 := L2.c.cell 8
  simp only [List.getElem?_cons_zero, List.getElem?_cons_succ] at s0 s1 s2 s3 s4 c0 c1 c2 c3 c4 c5 c6 c7 c8
  have hm2 : SpMem w1.heap.size w2 := ⟨HM.out.1.keep (L2.below.block _ HM.out.2), by have := HM.out.2; omega, Y2.blk.lt⟩
  go_wp2_with fail
  refine (HD.out w2 _ Y2 hm2).mono ?_
  rintro e w3 ⟨⟨b, t, rfl⟩, g3⟩
  have L3 := L2.step (by omega) g3
  clear s0 s1 s2 s3 s4 c0 c1 c2 c3 c4 c5 c6 c7 c8
  have s0 := L3.s.cell 0
  have s1 := L3.s.cell 1
  have s2 := L3.s.cell 2
  have s3 := L3.s.cell 3
  have s4 := L3.s.cell 4
  have c0 := L3.c.cell 0
  have c1 := L3.c.cell 1
  have c2 := L3.c.cell 2
  have c3 := L3.c.cell 3
  have c4 := L3.c.cell 4
  have c5 := L3.c.cell 5
  have c6 := L3.c.cell 6
  have c7 := L3.c.cell 7
  have c8 := L3.c.cell 8
  simp only [List.getElem?_cons_zero, List.getElem?_cons_succ] at s0 s1 s2 s3 s4 c0 c1 c2 c3 c4 c5 c6 c7 c8
  go_wp2_with fail
  refine (HA.out _).mono ?_
  rintro e w4 ⟨rfl, g4⟩
  have L4 := L3.step (by have := L3.c.lt; omega) g4
  go_wp2_with fail
  go_ret
  exact ⟨rfl, L4.below⟩
set_option maxHeartbeats 400000 in
theorem law7 (w : World) (f : Int) (body : ByteArray) (a n : Int) (c : Cf) (hML : MaxL w) (hlow : 3 < w.heap.size) (hb : body.size ≤ 140737488355328) (ha : i64top a) (hn : i64top n) :
    Calls Tryz.prog 3 #[stepV 7 f body a n, c.val] w fun e w' => e = .returned (.bool true) ∧ Below w.heap.size w w' := by
  have HD : Hid (∀ W x, YdAt W x newSp [] → SpMem x W → Calls Tryz.prog 4 #[.pointer (some ⟨x, 0, none⟩), frV 7 f body, .int .i64 a, .int .i64 n, c.val] W fun e w' => (∃ b t, e = .returned (.tuple #[.string b, .bool t])) ∧ Below x W w') := fun W x h1 h2 => Do_fresh W x 7 f body a n c (by decide) h1 h2 hb ha hn
  clear hb ha hn
  have HM := Lib.hid (And.intro hML hlow)
  have HL := Lib.hid (Lw.start w 7 f body a n c)
  have HD0 := Lib.hid (fun W => Do_nil W 7 f body a n c)
  have HN := Lib.hid (fun W => New_calls W)
  have G1 := Lib.hid (fun W => SchemaNil W)
  have G2 := Lib.hid (fun W => BindsNil W)
  have G3 := Lib.hid (fun W => TextNil W)
  have G4 := Lib.hid (fun W => SizeNil W)
  have G5 := Lib.hid (fun W => KeptNil W)
  have G6 := Lib.hid (fun W => TombsNil W)
  have HA := Lib.hid (fun W => awake_calls W)
  clear hML hlow
  unfold frV Cf.val at *
  unfold stepV
  go_enter Tryz.func3, Tryz.ntmps3
  go_wp2_with fail
  refine (HD0.out _).mono ?_
  rintro e w1 ⟨rfl, g1⟩
  have hs1 := HL.out.c.lt
  have L1 := HL.out.step (by omega) g1
  have z1 : w.heap.size + 1 < w1.heap.size := L1.c.lt
  have s0 := L1.s.cell 0
  have s1 := L1.s.cell 1
  have s2 := L1.s.cell 2
  have s3 := L1.s.cell 3
  have s4 := L1.s.cell 4
  have c0 := L1.c.cell 0
  have c1 := L1.c.cell 1
  have c2 := L1.c.cell 2
  have c3 := L1.c.cell 3
  have c4 := L1.c.cell 4
  have c5 := L1.c.cell 5
  have c6 := L1.c.cell 6
  have c7 := L1.c.cell 7
  have c8 := L1.c.cell 8
  simp only [List.getElem?_cons_zero, List.getElem?_cons_succ] at s0 s1 s2 s3 s4 c0 c1 c2 c3 c4 c5 c6 c7 c8
  go_wp2_with ((first
    | (go_at_call 5; refine (G1.out _).mono ?_; rintro e w2 ⟨rfl, rfl⟩)
    | (go_at_call 6; refine (G2.out _).mono ?_; rintro e w2 ⟨rfl, rfl⟩)
    | (go_at_call 7; refine (G3.out _).mono ?_; rintro e w2 ⟨rfl, rfl⟩)
    | (go_at_call 8; refine (G4.out _).mono ?_; rintro e w2 ⟨rfl, rfl⟩)
    | (go_at_call 9; refine (G5.out _).mono ?_; rintro e w2 ⟨rfl, rfl⟩)
    | (go_at_call 10; refine (G6.out _).mono ?_; rintro e w2 ⟨rfl, rfl⟩)))
  refine (HN.out _).mono ?_
  rintro e w2 ⟨rfl, Y2, g2⟩
  have L2 := L1.step (by omega) g2
  have hz2 := g2.size
  clear s0 s1 s2 s3 s4 c0 c1 c2 c3 c4 c5 c6 c7 c8
  have s0 := L2.s.cell 0
  have s1 := L2.s.cell 1
  have s2 := L2.s.cell 2
  have s3 := L2.s.cell 3
  have s4 := L2.s.cell 4
  have c0 := L2.c.cell 0
  have c1 := L2.c.cell 1
  have c2 := L2.c.cell 2
  have c3 := L2.c.cell 3
  have c4 := L2.c.cell 4
  have c5 := L2.c.cell 5
  have c6 := L2.c.cell 6
  have c7 := L2.c.cell 7
  have c8 := L2.c.cell 8
  simp only [List.getElem?_cons_zero, List.getElem?_cons_succ] at s0 s1 s2 s3 s4 c0 c1 c2 c3 c4 c5 c6 c7 c8
  have hm2 : SpMem w1.heap.size w2 := ⟨HM.out.1.keep (L2.below.block _ HM.out.2), by have := HM.out.2; omega, Y2.blk.lt⟩
  go_wp2_with fail
  refine (HD.out w2 _ Y2 hm2).mono ?_
  rintro e w3 ⟨⟨b, t, rfl⟩, g3⟩
  have L3 := L2.step (by omega) g3
  clear s0 s1 s2 s3 s4 c0 c1 c2 c3 c4 c5 c6 c7 c8
  have s0 := L3.s.cell 0
  have s1 := L3.s.cell 1
  have s2 := L3.s.cell 2
  have s3 := L3.s.cell 3
  have s4 := L3.s.cell 4
  have c0 := L3.c.cell 0
  have c1 := L3.c.cell 1
  have c2 := L3.c.cell 2
  have c3 := L3.c.cell 3
  have c4 := L3.c.cell 4
  have c5 := L3.c.cell 5
  have c6 := L3.c.cell 6
  have c7 := L3.c.cell 7
  have c8 := L3.c.cell 8
  simp only [List.getElem?_cons_zero, List.getElem?_cons_succ] at s0 s1 s2 s3 s4 c0 c1 c2 c3 c4 c5 c6 c7 c8
  go_wp2_with fail
  refine (HA.out _).mono ?_
  rintro e w4 ⟨rfl, g4⟩
  have L4 := L3.step (by have := L3.c.lt; omega) g4
  go_wp2_with fail
  go_ret
  exact ⟨rfl, L4.below⟩

set_option maxHeartbeats 400000 in
theorem lawLo (w : World) (k f : Int) (body : ByteArray) (a n : Int) (c : Cf) (hML : MaxL w) (hlow : 3 < w.heap.size) (h2 : ¬ 2 ≤ k) (k6 : (k == 6) = false) (k7 : (k == 7) = false) (hk : asksB k = false) :
    Calls Tryz.prog 3 #[stepV k f body a n, c.val] w fun e w' => e = .returned (.bool true) ∧ Below w.heap.size w w' := by
  have HD : Hid (∀ W x, Calls Tryz.prog 4 #[.pointer (some ⟨x, 0, none⟩), frV k f body, .int .i64 a, .int .i64 n, c.val] W fun e w' => e = .returned (.tuple #[.string ⟨#[]⟩, .bool false]) ∧ Below W.heap.size W w') := fun W x => Do_no W x k f body a n c hk
  have HKe : Hid (∀ W x, YdAt W x newSp [] → Calls Tryz.prog 9 #[.pointer (some ⟨x, 0, none⟩)] W fun e w' => e = .returned (.slice none 0 0) ∧ Below W.heap.size W w') := fun W x h => Kept_none W x newSp h.blk h.ok rfl
  have HTo : Hid (∀ W x, YdAt W x newSp [] → Calls Tryz.prog 10 #[.pointer (some ⟨x, 0, none⟩)] W fun e w' => e = .returned (.slice none 0 0) ∧ W = w') := fun W x h => Tombs_none W x newSp h.blk h.ok rfl
  clear hk
  have HM := Lib.hid (And.intro hML hlow)
  have HL := Lib.hid (Lw.start w k f body a n c)
  have HD0 := Lib.hid (fun W => Do_nil W k f body a n c)
  have HN := Lib.hid (fun W => New_calls W)
  have G1 := Lib.hid (fun W => SchemaNil W)
  have G2 := Lib.hid (fun W => BindsNil W)
  have G3 := Lib.hid (fun W => TextNil W)
  have G4 := Lib.hid (fun W => SizeNil W)
  have G5 := Lib.hid (fun W => KeptNil W)
  have G6 := Lib.hid (fun W => TombsNil W)
  have HA := Lib.hid (fun W => awake_calls W)
  clear hML hlow
  unfold frV Cf.val at *
  unfold stepV
  go_enter Tryz.func3, Tryz.ntmps3
  go_wp2_with fail
  refine (HD0.out _).mono ?_
  rintro e w1 ⟨rfl, g1⟩
  have hs1 := HL.out.c.lt
  have L1 := HL.out.step (by omega) g1
  have z1 : w.heap.size + 1 < w1.heap.size := L1.c.lt
  have s0 := L1.s.cell 0
  have s1 := L1.s.cell 1
  have s2 := L1.s.cell 2
  have s3 := L1.s.cell 3
  have s4 := L1.s.cell 4
  have c0 := L1.c.cell 0
  have c1 := L1.c.cell 1
  have c2 := L1.c.cell 2
  have c3 := L1.c.cell 3
  have c4 := L1.c.cell 4
  have c5 := L1.c.cell 5
  have c6 := L1.c.cell 6
  have c7 := L1.c.cell 7
  have c8 := L1.c.cell 8
  simp only [List.getElem?_cons_zero, List.getElem?_cons_succ] at s0 s1 s2 s3 s4 c0 c1 c2 c3 c4 c5 c6 c7 c8
  go_wp2_with ((first
    | (go_at_call 5; refine (G1.out _).mono ?_; rintro e w2 ⟨rfl, rfl⟩)
    | (go_at_call 6; refine (G2.out _).mono ?_; rintro e w2 ⟨rfl, rfl⟩)
    | (go_at_call 7; refine (G3.out _).mono ?_; rintro e w2 ⟨rfl, rfl⟩)
    | (go_at_call 8; refine (G4.out _).mono ?_; rintro e w2 ⟨rfl, rfl⟩)
    | (go_at_call 9; refine (G5.out _).mono ?_; rintro e w2 ⟨rfl, rfl⟩)
    | (go_at_call 10; refine (G6.out _).mono ?_; rintro e w2 ⟨rfl, rfl⟩)))
  refine (HN.out _).mono ?_
  rintro e w2 ⟨rfl, Y2, g2⟩
  have L2 := L1.step (by omega) g2
  have hz2 := g2.size
  clear s0 s1 s2 s3 s4 c0 c1 c2 c3 c4 c5 c6 c7 c8
  have s0 := L2.s.cell 0
  have s1 := L2.s.cell 1
  have s2 := L2.s.cell 2
  have s3 := L2.s.cell 3
  have s4 := L2.s.cell 4
  have c0 := L2.c.cell 0
  have c1 := L2.c.cell 1
  have c2 := L2.c.cell 2
  have c3 := L2.c.cell 3
  have c4 := L2.c.cell 4
  have c5 := L2.c.cell 5
  have c6 := L2.c.cell 6
  have c7 := L2.c.cell 7
  have c8 := L2.c.cell 8
  simp only [List.getElem?_cons_zero, List.getElem?_cons_succ] at s0 s1 s2 s3 s4 c0 c1 c2 c3 c4 c5 c6 c7 c8
  go_wp2_with fail
  refine (HD.out w2 _).mono ?_
  rintro e w3 ⟨rfl, g3⟩
  have Y3 := Y2.below g3 (Nat.le_refl _)
  have L3 := L2.step (by have := L2.c.lt; omega) g3
  clear s0 s1 s2 s3 s4 c0 c1 c2 c3 c4 c5 c6 c7 c8
  have s0 := L3.s.cell 0
  have s1 := L3.s.cell 1
  have s2 := L3.s.cell 2
  have s3 := L3.s.cell 3
  have s4 := L3.s.cell 4
  have c0 := L3.c.cell 0
  have c1 := L3.c.cell 1
  have c2 := L3.c.cell 2
  have c3 := L3.c.cell 3
  have c4 := L3.c.cell 4
  have c5 := L3.c.cell 5
  have c6 := L3.c.cell 6
  have c7 := L3.c.cell 7
  have c8 := L3.c.cell 8
  simp only [List.getElem?_cons_zero, List.getElem?_cons_succ] at s0 s1 s2 s3 s4 c0 c1 c2 c3 c4 c5 c6 c7 c8
  go_wp2_with fail
  refine (HKe.out w3 _ Y3).mono ?_
  rintro e w4 ⟨rfl, g4⟩
  have Y4 := Y3.below g4 (Nat.le_refl _)
  have L4 := L3.step (by have := L3.c.lt; omega) g4
  go_wp2_with fail
  refine (HTo.out w4 _ Y4).mono ?_
  rintro e w5 ⟨rfl, rfl⟩
  go_wp2_with fail
  refine (HA.out _).mono ?_
  rintro e w6 ⟨rfl, g6⟩
  have L6 := L4.step (by have := L4.c.lt; omega) g6
  go_wp2_with fail
  go_ret
  exact ⟨rfl, L6.below⟩
set_option maxHeartbeats 400000 in
theorem lawHi (w : World) (k f : Int) (body : ByteArray) (a n : Int) (c : Cf) (hML : MaxL w) (hlow : 3 < w.heap.size) (h2 : 2 ≤ k) (h4 : ¬ k ≤ 4) (k6 : (k == 6) = false) (k7 : (k == 7) = false) (hk : asksB k = false) :
    Calls Tryz.prog 3 #[stepV k f body a n, c.val] w fun e w' => e = .returned (.bool true) ∧ Below w.heap.size w w' := by
  have HD : Hid (∀ W x, Calls Tryz.prog 4 #[.pointer (some ⟨x, 0, none⟩), frV k f body, .int .i64 a, .int .i64 n, c.val] W fun e w' => e = .returned (.tuple #[.string ⟨#[]⟩, .bool false]) ∧ Below W.heap.size W w') := fun W x => Do_no W x k f body a n c hk
  have HKe : Hid (∀ W x, YdAt W x newSp [] → Calls Tryz.prog 9 #[.pointer (some ⟨x, 0, none⟩)] W fun e w' => e = .returned (.slice none 0 0) ∧ Below W.heap.size W w') := fun W x h => Kept_none W x newSp h.blk h.ok rfl
  have HTo : Hid (∀ W x, YdAt W x newSp [] → Calls Tryz.prog 10 #[.pointer (some ⟨x, 0, none⟩)] W fun e w' => e = .returned (.slice none 0 0) ∧ W = w') := fun W x h => Tombs_none W x newSp h.blk h.ok rfl
  clear hk
  have HM := Lib.hid (And.intro hML hlow)
  have HL := Lib.hid (Lw.start w k f body a n c)
  have HD0 := Lib.hid (fun W => Do_nil W k f body a n c)
  have HN := Lib.hid (fun W => New_calls W)
  have G1 := Lib.hid (fun W => SchemaNil W)
  have G2 := Lib.hid (fun W => BindsNil W)
  have G3 := Lib.hid (fun W => TextNil W)
  have G4 := Lib.hid (fun W => SizeNil W)
  have G5 := Lib.hid (fun W => KeptNil W)
  have G6 := Lib.hid (fun W => TombsNil W)
  have HA := Lib.hid (fun W => awake_calls W)
  clear hML hlow
  unfold frV Cf.val at *
  unfold stepV
  go_enter Tryz.func3, Tryz.ntmps3
  go_wp2_with fail
  refine (HD0.out _).mono ?_
  rintro e w1 ⟨rfl, g1⟩
  have hs1 := HL.out.c.lt
  have L1 := HL.out.step (by omega) g1
  have z1 : w.heap.size + 1 < w1.heap.size := L1.c.lt
  have s0 := L1.s.cell 0
  have s1 := L1.s.cell 1
  have s2 := L1.s.cell 2
  have s3 := L1.s.cell 3
  have s4 := L1.s.cell 4
  have c0 := L1.c.cell 0
  have c1 := L1.c.cell 1
  have c2 := L1.c.cell 2
  have c3 := L1.c.cell 3
  have c4 := L1.c.cell 4
  have c5 := L1.c.cell 5
  have c6 := L1.c.cell 6
  have c7 := L1.c.cell 7
  have c8 := L1.c.cell 8
  simp only [List.getElem?_cons_zero, List.getElem?_cons_succ] at s0 s1 s2 s3 s4 c0 c1 c2 c3 c4 c5 c6 c7 c8
  go_wp2_with ((first
    | (go_at_call 5; refine (G1.out _).mono ?_; rintro e w2 ⟨rfl, rfl⟩)
    | (go_at_call 6; refine (G2.out _).mono ?_; rintro e w2 ⟨rfl, rfl⟩)
    | (go_at_call 7; refine (G3.out _).mono ?_; rintro e w2 ⟨rfl, rfl⟩)
    | (go_at_call 8; refine (G4.out _).mono ?_; rintro e w2 ⟨rfl, rfl⟩)
    | (go_at_call 9; refine (G5.out _).mono ?_; rintro e w2 ⟨rfl, rfl⟩)
    | (go_at_call 10; refine (G6.out _).mono ?_; rintro e w2 ⟨rfl, rfl⟩)))
  refine (HN.out _).mono ?_
  rintro e w2 ⟨rfl, Y2, g2⟩
  have L2 := L1.step (by omega) g2
  have hz2 := g2.size
  clear s0 s1 s2 s3 s4 c0 c1 c2 c3 c4 c5 c6 c7 c8
  have s0 := L2.s.cell 0
  have s1 := L2.s.cell 1
  have s2 := L2.s.cell 2
  have s3 := L2.s.cell 3
  have s4 := L2.s.cell 4
  have c0 := L2.c.cell 0
  have c1 := L2.c.cell 1
  have c2 := L2.c.cell 2
  have c3 := L2.c.cell 3
  have c4 := L2.c.cell 4
  have c5 := L2.c.cell 5
  have c6 := L2.c.cell 6
  have c7 := L2.c.cell 7
  have c8 := L2.c.cell 8
  simp only [List.getElem?_cons_zero, List.getElem?_cons_succ] at s0 s1 s2 s3 s4 c0 c1 c2 c3 c4 c5 c6 c7 c8
  go_wp2_with fail
  refine (HD.out w2 _).mono ?_
  rintro e w3 ⟨rfl, g3⟩
  have Y3 := Y2.below g3 (Nat.le_refl _)
  have L3 := L2.step (by have := L2.c.lt; omega) g3
  clear s0 s1 s2 s3 s4 c0 c1 c2 c3 c4 c5 c6 c7 c8
  have s0 := L3.s.cell 0
  have s1 := L3.s.cell 1
  have s2 := L3.s.cell 2
  have s3 := L3.s.cell 3
  have s4 := L3.s.cell 4
  have c0 := L3.c.cell 0
  have c1 := L3.c.cell 1
  have c2 := L3.c.cell 2
  have c3 := L3.c.cell 3
  have c4 := L3.c.cell 4
  have c5 := L3.c.cell 5
  have c6 := L3.c.cell 6
  have c7 := L3.c.cell 7
  have c8 := L3.c.cell 8
  simp only [List.getElem?_cons_zero, List.getElem?_cons_succ] at s0 s1 s2 s3 s4 c0 c1 c2 c3 c4 c5 c6 c7 c8
  go_wp2_with fail
  refine (HKe.out w3 _ Y3).mono ?_
  rintro e w4 ⟨rfl, g4⟩
  have Y4 := Y3.below g4 (Nat.le_refl _)
  have L4 := L3.step (by have := L3.c.lt; omega) g4
  go_wp2_with fail
  refine (HTo.out w4 _ Y4).mono ?_
  rintro e w5 ⟨rfl, rfl⟩
  go_wp2_with fail
  refine (HA.out _).mono ?_
  rintro e w6 ⟨rfl, g6⟩
  have L6 := L4.step (by have := L4.c.lt; omega) g6
  go_wp2_with fail
  go_ret
  exact ⟨rfl, L6.below⟩

theorem law_calls (w : World) (k f : Int) (body : ByteArray) (a n : Int) (c : Cf) (hML : MaxL w) (hlow : 3 < w.heap.size) (hb : body.size ≤ 140737488355328) (ha : i64top a) (hn : i64top n) :
    Calls Tryz.prog 3 #[stepV k f body a n, c.val] w fun e w' => e = .returned (.bool true) ∧ Below w.heap.size w w' := by
  by_cases h2 : k = 2
  · subst h2; exact law2 w f body a n c hML hlow hb ha hn
  by_cases h3 : k = 3
  · subst h3; exact law3 w f body a n c hML hlow hb ha hn
  by_cases h4 : k = 4
  · subst h4; exact law4 w f body a n c hML hlow hb ha hn
  by_cases h6 : k = 6
  · subst h6; exact law6 w f body a n c hML hlow hb ha hn
  by_cases h7 : k = 7
  · subst h7; exact law7 w f body a n c hML hlow hb ha hn
  have k6 : (k == 6) = false := by rw [beq_eq_false_iff_ne]; exact h6
  have k7 : (k == 7) = false := by rw [beq_eq_false_iff_ne]; exact h7
  have hk : asksB k = false := by unfold asksB; simp [h6, h7]; omega
  by_cases l2 : 2 ≤ k
  · exact lawHi w k f body a n c hML hlow l2 (by omega) k6 k7 hk
  · exact lawLo w k f body a n c hML hlow l2 k6 k7 hk
end Go.Proofs.YtfoihafhpmbaeaaGreatDoor
