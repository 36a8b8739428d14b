/- Texts are padded. -/
import Derived.Deep.RegionHeld3
import Derived.Deep.RegionWith
import Derived.IntWalk
import Derived.Outline
import Derived.Test.YtfoihafhpmbaeaaGreatDoorG06
import Derived.Test.YtfoihafhpmbaeaaGreatDoorG07
namespace Go.Proofs.YtfoihafhpmbaeaaGreatDoor
open Go.RowKit

theorem bcell {W w1 : World} (hb : Below W.heap.size W w1) : (∀ b o, b < W.heap.size → w1.cell? ⟨b, o, none⟩ = W.cell? ⟨b, o, none⟩) ∧ (∀ b o, b < W.heap.size → w1.frozen? ⟨b, o, none⟩ = W.frozen? ⟨b, o, none⟩) :=
  ⟨fun b o h => hb.cell (p := ⟨b, o, none⟩) h, fun b o h => hb.frozen (p := ⟨b, o, none⟩) h⟩
theorem Most_calls (w : World) : Calls Tryz.prog 123 #[] w fun e w' => e = .returned (.int .i64 1022) ∧ w = w' := by
  go_enter Tryz.func123, Tryz.ntmps123
  go_wp2_with fail
  go_ret
  exact ⟨rfl, rfl⟩

def classI (n : Int) : Int := if n ≤ 30 then 32 else if n ≤ 62 then 64 else if n ≤ 126 then 128 else if n ≤ 254 then 256 else if n ≤ 510 then 512 else 1024
theorem Class_long (n : Int) (w : World) (h : 1022 < n) :
    Calls Tryz.prog 95 #[.int .i64 n] w fun e w' => e = .returned (.tuple #[.int .i64 0, .int .i64 3]) ∧ w = w' := by
  have h0 : ¬ n < 0 := by omega
  go_enter Tryz.func95, Tryz.ntmps95
  go_wp2_with fail
  go_step3
  go_wp2_with (go_at_call 123; refine (Most_calls _).mono ?_; rintro e w' ⟨rfl, rfl⟩)
  rw [Exit.noGoto_ret]
  go_ret2
  exact ⟨rfl, rfl⟩
theorem Class_calls (n : Int) (w : World) (h0 : 0 ≤ n) (h1 : n ≤ 1022) :
    Calls Tryz.prog 95 #[.int .i64 n] w fun e w' => e = .returned (.tuple #[.int .i64 (classI n), .int .i64 0]) ∧ w = w' := by
  have h2 : ¬ n < 0 := by omega
  have h3 : ¬ 1022 < n := by omega
  obtain ⟨R, hR⟩ : ∃ R, classI n = R := ⟨_, rfl⟩
  rw [hR]
  have HR := Lib.hid hR
  clear hR
  go_enter Tryz.func95, Tryz.ntmps95
  go_wp2_with fail
  go_step3
  go_wp2_with (go_at_call 123; refine (Most_calls _).mono ?_; rintro e w' ⟨rfl, rfl⟩)
  go_step3
  go_wp2_with fail
  go_loop [4] (fun c => ∃ k : Int, (k = 32 ∨ (k = 64 ∧ 30 < n) ∨ (k = 128 ∧ 62 < n) ∨ (k = 256 ∧ 126 < n) ∨ (k = 512 ∧ 254 < n) ∨ (k = 1024 ∧ 510 < n)) ∧ c = .int .i64 k) (fun c => (2048 - intOf c).toNat)
  case atStart => exact ⟨32, .inl rfl, rfl⟩
  case round =>
    obtain ⟨k, hk, rfl⟩ := hrel
    have HK := Lib.hid hk
    have k1 : 32 ≤ k := by omega
    have k2 : k ≤ 1024 := by omega
    clear hk
    by_cases hlt : n ≤ k - 2
    · have HG : Hid (R = k) := by
        have := HK.out
        have hR := HR.out
        unfold classI at hR
        show _ = _
        rw [← hR]
        repeat (first | rw [if_pos (by omega)] | rw [if_neg (by omega)])
        omega
      go_wp2_with fail
      go_ret2
      rw [HG.out]
      exact ⟨rfl, rfl⟩
    · go_wp2_with fail
      go_round
      case rel => exact ⟨k * 2, by have := HK.out; omega, rfl⟩
      case measure => simp [intOf]; omega

theorem classI_ok (n : Int) (h0 : 0 ≤ n) (h1 : n ≤ 1022) : n + 2 ≤ classI n ∧ classI n ≤ 1024 := by
  unfold classI
  repeat (first | rw [if_pos (by omega)]; omega | split)
  all_goals omega
def zerosS (n : Nat) : ByteArray := ⟨(Lib.repeatL [0] n).toArray⟩
theorem zerosS_size (n : Nat) : (zerosS n).size = n := by
  show (Lib.repeatL [0] n).toArray.size = n
  simp [Lib.repeatL_length]
def padS (s : ByteArray) : ByteArray := strOfNums [IntKind.u8.wrap ((s.size : Int) / 256), IntKind.u8.wrap (s.size : Int)] ++ s ++ zerosS (classI s.size - 2 - s.size).toNat
theorem padS_size (s : ByteArray) (h : s.size ≤ 1022) : (padS s).size ≤ 1024 := by
  have := classI_ok s.size (by omega) (by omega)
  unfold padS
  simp only [ByteArray.size_append, strOfNums_size, zerosS_size, List.length_cons, List.length_nil]
  omega
set_option maxRecDepth 100000 in
set_option maxHeartbeats 600000 in
theorem Pad_calls (s : ByteArray) (w : World) (h1 : s.size ≤ 1022) :
    Calls Tryz.prog 68 #[.string s] w fun e w' => e = .returned (.tuple #[.string (padS s), .int .i64 0]) ∧ Below w.heap.size w w' := by
  have HC := Lib.hid (fun W => Class_calls s.size W (by omega) (by omega))
  obtain ⟨k1, k2⟩ := classI_ok s.size (by omega) (by omega)
  obtain ⟨R, hR⟩ : ∃ R, padS s = R := ⟨_, rfl⟩
  rw [hR]
  unfold padS at hR
  generalize classI s.size = c at *
  obtain ⟨cc, hcc⟩ : ∃ cc : Nat, c = cc + 2 + s.size := ⟨(c - 2 - s.size).toNat, by omega⟩
  have e1 : c - 2 - s.size = cc := by omega
  have HRp : Hid (∀ W, Calls Tryz.prog 96 #[.string ⟨#[0]⟩, .int .i64 (c - 2 - s.size)] W fun e w' => e = .returned (.string ⟨(Lib.repeatL [0] cc).toArray⟩) ∧ Below W.heap.size W w') := fun W => by
    rw [e1]
    exact Tryz.strings_Repeat ⟨#[0]⟩ cc W (by omega) (by show 1 * cc ≤ _; omega)
  have hcb : (cc : Int) ≤ 1022 := by omega
  have ez : (c - 2 - (s.size : Int)).toNat = cc := by omega
  clear e1 hcc
  obtain ⟨Z, hZ⟩ : ∃ Z : ByteArray, zerosS cc = Z := ⟨_, rfl⟩
  replace HRp : Hid (∀ W, Calls Tryz.prog 96 #[.string ⟨#[0]⟩, .int .i64 (c - 2 - s.size)] W fun e w' => e = .returned (.string Z) ∧ Below W.heap.size W w') := by rw [← hZ]; exact HRp
  have zs : Z.size = cc := by rw [← hZ]; exact zerosS_size _
  rw [ez, hZ] at hR
  clear hZ ez
  have HR0 := Lib.hid hR
  clear hR
  go_enter Tryz.func68, Tryz.ntmps68
  go_wp2_with fail
  refine (HC.out _).mono ?_
  rintro e w1 ⟨rfl, rfl⟩
  go_wp2_with fail
  have hR := HR0.out
  clear HR0
  have hw1 : IntKind.i64.wrap (c - 2) = c - 2 := by rw [IntWalk.i64_in _ (by omega)]
  have hw2 : IntKind.i64.wrap (c - 2 - (s.size : Int)) = c - 2 - (s.size : Int) := by rw [IntWalk.i64_in _ (by omega)]
  obtain ⟨u, hu⟩ : ∃ u : Int, IntKind.u8.wrap ((s.size : Int) / 256) = u := ⟨_, rfl⟩
  obtain ⟨v, hv⟩ : ∃ u : Int, IntKind.u8.wrap (s.size : Int) = u := ⟨_, rfl⟩
  rw [hu, hv] at hR
  have hcv : ∀ (W : World) (B : Nat), W.cell? ⟨B, 0, none⟩ = some (.int .u8 u) → W.cell? ⟨B, 1, none⟩ = some (.int .u8 v) → (convert 153 9 (.slice (some ⟨B, 0, none⟩) 2 2)).run Tryz.prog W = .ok (.string (strOfNums [u, v])) W := fun W B h0 h1 =>
    run_convert_bytes_arg W 153 5 Tryz.underlying153 Tryz.underlying5 B 0 2 2 [u, v] rfl (fun i hi => by
      match i, hi with
      | 0, _ => exact h0
      | 1, _ => exact h1) 9 Tryz.underlying9
  have hz : (strOfNums [u, v]).size = 2 := strOfNums_size _
  generalize strOfNums [u, v] = H2 at *
  have HH : Hid (R = H2 ++ s ++ Z) := hR.symm
  clear hR
  have a1 : ∀ W : World, (Op.stringOp .add H2 s).run Tryz.prog W = .ok (.string (H2 ++ s)) W := fun W => run_string_add_sum W _ _ (by omega)
  have a2 : ∀ W : World, (Op.stringOp .add (H2 ++ s) Z).run Tryz.prog W = .ok (.string (H2 ++ s ++ Z)) W := fun W => run_string_add_sum W _ _ (by simp [ByteArray.size_append]; omega)
  go_region_with ((go_at_call 96; refine (HRp.out _).mono ?_; rintro e w2 ⟨rfl, hB2⟩; obtain ⟨hc2, hf2⟩ := bcell hB2))
  all_goals
    go_wp2_with fail
    go_ret2
    rw [HH.out]
    refine ⟨rfl, ?_⟩
    first
      | exact (((Below.refl _ _).alloc (Nat.le_refl _) _).drew.up hB2 (by simp))
      | exact (((Below.refl _ _).drew.up hB2 (Nat.le_refl _)).alloc (by have := hB2.size; simpa using this) _)
theorem Pad_long (s : ByteArray) (w : World) (h : 1022 < s.size) (hs : s.size ≤ 140737488355328) :
    Calls Tryz.prog 68 #[.string s] w fun e w' => e = .returned (.tuple #[.string ⟨#[]⟩, .int .i64 3]) ∧ w = w' := by
  have HC := Lib.hid (fun W => Class_long s.size W (by omega))
  go_enter Tryz.func68, Tryz.ntmps68
  go_wp2_with fail
  refine (HC.out _).mono ?_
  rintro e w1 ⟨rfl, rfl⟩
  go_wp2_with fail
  go_ret2
  exact ⟨rfl, rfl⟩
end Go.Proofs.YtfoihafhpmbaeaaGreatDoor

/- Replies. -/
namespace Go.Proofs.YtfoihafhpmbaeaaGreatDoor
open Go.RowKit

theorem known_calls (k : Int) (w : World) (h : 1 ≤ k) (h9 : k ≤ 9) : Calls Tryz.prog 98 #[.int .i64 k] w fun e w' => e = .returned (.bool true) ∧ w = w' := by
  go_enter Tryz.func98, Tryz.ntmps98
  go_wp2_with fail
  go_ret
  exact ⟨rfl, rfl⟩
theorem bounded_calls (k : Int) (w : World) (h : 0 ≤ k) (h9 : k ≤ 1048576) : Calls Tryz.prog 57 #[.int .i64 k] w fun e w' => e = .returned (.bool true) ∧ w = w' := by
  go_enter Tryz.func57, Tryz.ntmps57
  go_wp2_with fail
  go_ret
  exact ⟨rfl, rfl⟩

/-- the bytes of a reply's envelope -/
def frameS (b : ByteArray) : ByteArray := strOfNums [9, 0, (b.size : Int) / 256, (b.size : Int) % 256] ++ b

set_option maxRecDepth 100000 in
theorem FramePut_calls (b : ByteArray) (w : World) (hb : b.size ≤ 1024) :
    Calls Tryz.prog 70 #[.agg #[.int .i64 9, .int .i64 0, .string b]] w fun e w' => e = .returned (.tuple #[.string (frameS b), .int .i64 0]) ∧ Below w.heap.size w w' := by
  have HK := Lib.hid (fun W => known_calls 9 W (by decide) (by decide))
  have hb' : (b.size : Int) ≤ 1024 := by omega
  obtain ⟨R, hR⟩ : ∃ R, frameS b = R := ⟨_, rfl⟩
  rw [hR]
  unfold frameS at hR
  have HR := Lib.hid hR
  clear hR
  go_enter Tryz.func70, Tryz.ntmps70
  go_wp2_with (go_at_call 98; refine (HK.out _).mono ?_; rintro e w1 ⟨rfl, rfl⟩)
  obtain ⟨u, hu⟩ : ∃ u : Int, (b.size : Int) / 256 = u := ⟨_, rfl⟩
  obtain ⟨v, hv⟩ : ∃ u : Int, (b.size : Int) % 256 = u := ⟨_, rfl⟩
  have hcv : ∀ (W : World) (B : Nat), W.cell? ⟨B, 0, none⟩ = some (.int .u8 9) → W.cell? ⟨B, 1, none⟩ = some (.int .u8 0) → W.cell? ⟨B, 2, none⟩ = some (.int .u8 u) → W.cell? ⟨B, 3, none⟩ = some (.int .u8 v) → (convert 153 9 (.slice (some ⟨B, 0, none⟩) 4 4)).run Tryz.prog W = .ok (.string (strOfNums [9, 0, u, v])) W := fun W B h0 h1 h2 h3 =>
    run_convert_bytes_arg W 153 5 Tryz.underlying153 Tryz.underlying5 B 0 4 4 [9, 0, u, v] rfl (fun i hi => by
      match i, hi with
      | 0, _ => exact h0
      | 1, _ => exact h1
      | 2, _ => exact h2
      | 3, _ => exact h3) 9 Tryz.underlying9
  have hz : (strOfNums [9, 0, u, v]).size = 4 := strOfNums_size _
  have hR := HR.out
  rw [hu, hv] at hR
  generalize strOfNums [9, 0, u, v] = H4 at *
  have HH : Hid (R = H4 ++ b) := hR.symm
  clear hR HR
  have a1 : ∀ W : World, (Op.stringOp .add H4 b).run Tryz.prog W = .ok (.string (H4 ++ b)) W := fun W => run_string_add_sum W _ _ (by omega)
  go_region
  all_goals
    go_wp2_with fail
    go_ret2
    rw [HH.out]
    refine ⟨rfl, ?_⟩
    exact (((Below.refl _ _).alloc (Nat.le_refl _) _).alloc (by simp) _).drew
end Go.Proofs.YtfoihafhpmbaeaaGreatDoor

/- Replies are put. -/
namespace Go.Proofs.YtfoihafhpmbaeaaGreatDoor
open Go.RowKit

def cat3 (a b c : ByteArray) : ByteArray := a ++ b ++ c
theorem cat3_size (a b c : ByteArray) : (cat3 a b c).size = a.size + b.size + c.size := by simp [cat3, ByteArray.size_append]
theorem join3 (a b c : ByteArray) : (⟨(Lib.join ([a, b, c].map (·.data.toList)) []).toArray⟩ : ByteArray) = cat3 a b c := by
  apply ByteArray.ext
  apply Array.toList_inj.1
  simp [Lib.join, List.intercalate, cat3]
theorem row_calls (a b c : ByteArray) (bk : Nat) (w : World) (h : Blk w bk [.string a, .string b, .string c] 9) (hs : a.size + b.size + c.size ≤ 140737488355328) :
    Calls Tryz.prog 69 #[.slice (some ⟨bk, 0, none⟩) 3 3] w fun e w' => e = .returned (.string (cat3 a b c)) ∧ Below w.heap.size w w' := by
  have HJ : Hid (Calls Tryz.prog 97 #[.slice (some ⟨bk, 0, none⟩) 3 3, .string ⟨#[]⟩] w fun e w' => e = .returned (.string (cat3 a b c)) ∧ Below w.heap.size w w') := by
    have := Tryz.strings_Join bk 0 3 [a, b, c] ⟨#[]⟩ w (fun j x hj => by
      match j, hj with
      | 0, hj => injection hj with hj; subst hj; exact h.cell 0
      | 1, hj => injection hj with hj; subst hj; exact h.cell 1
      | 2, hj => injection hj with hj; subst hj; exact h.cell 2) h.lt (by simp) (by simp) (by
        have e := congrArg ByteArray.size (join3 a b c)
        rw [cat3_size] at e
        have e2 : (Lib.join ([a, b, c].map (·.data.toList)) []).length = a.size + b.size + c.size := by
          rw [← e]
          show _ = (Array.size _)
          simp
        show (Lib.join ([a, b, c].map (·.data.toList)) []).length ≤ _
        rw [e2]; exact hs)
    have e3 := join3 a b c
    rw [show (⟨(Lib.join ([a, b, c].map (·.data.toList)) (⟨#[]⟩ : ByteArray).data.toList).toArray⟩ : ByteArray) = cat3 a b c from e3] at this
    exact this
  generalize cat3 a b c = r at *
  go_enter Tryz.func69, Tryz.ntmps69
  go_wp2_with fail
  refine HJ.out.mono ?_
  rintro e w' ⟨rfl, hB⟩
  go_wp2_with fail
  go_ret
  exact ⟨rfl, hB⟩

/-- a reply's bytes -/
def replyS (id st : Int) (d : ByteArray) : ByteArray := frameS (padS (cat3 (vputS st) (vputS id) d))

/-- the boxed reply -/
def RB (b0 : Nat) (id st : Int) (d : ByteArray) (W0 W : World) : Prop := Below b0 W0 W ∧ Blk W b0 [.int .u64 id, .int .i64 st, .string d] 96
theorem RB.cells {b0 : Nat} {id st : Int} {d : ByteArray} {W0 W : World} (h : RB b0 id st d W0 W) :
    W.cell? ⟨b0, 0, none⟩ = some (.int .u64 id) ∧ W.cell? ⟨b0, 1, none⟩ = some (.int .i64 st) ∧ W.cell? ⟨b0, 2, none⟩ = some (.string d) :=
  ⟨h.2.cell 0, h.2.cell 1, h.2.cell 2⟩
theorem RB.step {b0 : Nat} {id st : Int} {d : ByteArray} {W0 W W' : World} (h : RB b0 id st d W0 W) (g : Below W.heap.size W W') : RB b0 id st d W0 W' :=
  ⟨h.1.up g (Nat.le_of_lt h.2.lt), h.2.below g h.2.lt⟩
theorem RB.alloc {b0 : Nat} {id st : Int} {d : ByteArray} {W0 W : World} (h : RB b0 id st d W0 W) (o : Obj) : RB b0 id st d W0 (W.alloc o) :=
  h.step ((Below.refl _ _).alloc (Nat.le_refl _) _)

set_option maxRecDepth 100000 in
set_option maxHeartbeats 600000 in
theorem ReplyPut_calls (id st : Int) (d : ByteArray) (w : World) (hi : u64ok id) (h0 : 0 ≤ st) (h1 : st ≤ 1048576) (hd : d.size ≤ 1000) :
    Calls Tryz.prog 29 #[.agg #[.int .u64 id, .int .i64 st, .string d]] w fun e w' => e = .returned (.tuple #[.string (replyS id st d), .int .i64 0]) ∧ Below w.heap.size w w' := by
  have HB := Lib.hid (fun W => bounded_calls st W h0 h1)
  have H1 : Hid (∀ W, RB w.heap.size id st d w W → Calls Tryz.prog 55 #[.int .u64 st] W fun e w' => e = .returned (.string (vputS st)) ∧ RB w.heap.size id st d w w' ∧ w'.cell? ⟨w.heap.size, 0, none⟩ = some (.int .u64 id) ∧ w'.cell? ⟨w.heap.size, 1, none⟩ = some (.int .i64 st) ∧ w'.cell? ⟨w.heap.size, 2, none⟩ = some (.string d)) := fun W h =>
    (Put_calls st W ⟨h0, by omega⟩).mono (by rintro e w' ⟨rfl, g⟩; exact ⟨rfl, h.step g, (h.step g).cells⟩)
  have H2 : Hid (∀ W, RB w.heap.size id st d w W → Calls Tryz.prog 55 #[.int .u64 id] W fun e w' => e = .returned (.string (vputS id)) ∧ RB w.heap.size id st d w w' ∧ w'.cell? ⟨w.heap.size, 0, none⟩ = some (.int .u64 id) ∧ w'.cell? ⟨w.heap.size, 1, none⟩ = some (.int .i64 st) ∧ w'.cell? ⟨w.heap.size, 2, none⟩ = some (.string d)) := fun W h =>
    (Put_calls id W hi).mono (by rintro e w' ⟨rfl, g⟩; exact ⟨rfl, h.step g, (h.step g).cells⟩)
  have s1 := vputS_size st
  have s2 := vputS_size id
  have hsz : (cat3 (vputS st) (vputS id) d).size ≤ 1022 := by rw [cat3_size]; omega
  have H3 : Hid (∀ W, RB w.heap.size id st d w W → Calls Tryz.prog 69 #[.slice (some ⟨W.heap.size, 0, none⟩) 3 3] (W.alloc (.cells #[.string (vputS st), .string (vputS id), .string d] 9)) fun e w' => e = .returned (.string (cat3 (vputS st) (vputS id) d)) ∧ RB w.heap.size id st d w w' ∧ w'.cell? ⟨w.heap.size, 0, none⟩ = some (.int .u64 id) ∧ w'.cell? ⟨w.heap.size, 1, none⟩ = some (.int .i64 st) ∧ w'.cell? ⟨w.heap.size, 2, none⟩ = some (.string d)) := fun W h =>
    (row_calls _ _ _ W.heap.size _ (Blk.new W _ _) (by omega)).mono (by rintro e w' ⟨rfl, g⟩; exact ⟨rfl, (h.alloc _).step g, ((h.alloc _).step g).cells⟩)
  have H4 : Hid (∀ W, RB w.heap.size id st d w W → Calls Tryz.prog 68 #[.string (cat3 (vputS st) (vputS id) d)] W fun e w' => e = .returned (.tuple #[.string (padS (cat3 (vputS st) (vputS id) d)), .int .i64 0]) ∧ RB w.heap.size id st d w w' ∧ w'.cell? ⟨w.heap.size, 0, none⟩ = some (.int .u64 id) ∧ w'.cell? ⟨w.heap.size, 1, none⟩ = some (.int .i64 st) ∧ w'.cell? ⟨w.heap.size, 2, none⟩ = some (.string d)) := fun W h =>
    (Pad_calls _ W hsz).mono (by rintro e w' ⟨rfl, g⟩; exact ⟨rfl, h.step g, (h.step g).cells⟩)
  have hps := padS_size _ hsz
  have H5 : Hid (∀ W, Calls Tryz.prog 70 #[.agg #[.int .i64 9, .int .i64 0, .string (padS (cat3 (vputS st) (vputS id) d))]] W fun e w' => e = .returned (.tuple #[.string (replyS id st d), .int .i64 0]) ∧ Below W.heap.size W w') := fun W => FramePut_calls _ W hps
  have h00 : RB w.heap.size id st d w ((w.alloc (.cells #[.int .u64 id, .int .i64 st, .string d] 96)).drew) := ⟨((Below.refl _ _).alloc (Nat.le_refl _) _).drew, (Blk.new w _ _).keep rfl⟩
  generalize replyS id st d = R at *
  clear hps hsz
  generalize cat3 (vputS st) (vputS id) d = X at *
  generalize padS X = Y at *
  generalize vputS st = A at *
  generalize vputS id = B at *
  go_enter Tryz.func29, Tryz.ntmps29
  go_wp2_with (go_at_call 57; refine (HB.out _).mono ?_; rintro e w1 ⟨rfl, rfl⟩)
  have hw1 : IntKind.u64.wrap st = st := by rw [IntKind.wrap_u64]; omega
  go_region_held3 (fun W => W.cell? ⟨w.heap.size, 0, none⟩ = some (.int .u64 id) ∧ W.cell? ⟨w.heap.size, 1, none⟩ = some (.int .i64 st) ∧ W.cell? ⟨w.heap.size, 2, none⟩ = some (.string d))
    (first | go_keep | exact ⟨c0, c1, c2⟩)
    ((first
      | (go_at_call 55; first
          | ((with_reducible refine (H2.out _ h2).mono ?_); rintro e w3 ⟨rfl, h3, c0, c1, c2⟩)
          | ((with_reducible refine (H1.out _ h00).mono ?_); rintro e w2 ⟨rfl, h2, c0, c1, c2⟩))
      | (go_at_call 69; refine (H3.out _ h3).mono ?_; rintro e w4 ⟨rfl, h4, c0, c1, c2⟩)
      | (go_at_call 68; refine (H4.out _ h4).mono ?_; rintro e w5 ⟨rfl, h5, c0, c1, c2⟩)))
  go_wp2_with (go_at_call 70; refine (H5.out _).mono ?_; rintro e w6 ⟨rfl, B6⟩)
  go_ret2
  exact ⟨rfl, h5.1.up B6 (Nat.le_of_lt h5.2.lt)⟩

theorem Fail_calls (id st : Int) (w : World) (hi : u64ok id) (h0 : 0 ≤ st) (h1 : st ≤ 1048576) :
    Calls Tryz.prog 23 #[.int .u64 id, .int .i64 st] w fun e w' => e = .returned (.string (replyS id st ⟨#[]⟩)) ∧ Below w.heap.size w w' := by
  have HB := Lib.hid (fun W => bounded_calls st W h0 h1)
  have HP := Lib.hid (fun W => ReplyPut_calls id st ⟨#[]⟩ W hi h0 h1 (by decide))
  generalize replyS id st ⟨#[]⟩ = R at *
  go_enter Tryz.func23, Tryz.ntmps23
  go_wp2_with (go_at_call 57; refine (HB.out _).mono ?_; rintro e w1 ⟨rfl, rfl⟩)
  refine (HP.out _).mono ?_
  rintro e w1 ⟨rfl, hB⟩
  go_wp2_with fail
  go_ret
  exact ⟨rfl, hB⟩
end Go.Proofs.YtfoihafhpmbaeaaGreatDoor
