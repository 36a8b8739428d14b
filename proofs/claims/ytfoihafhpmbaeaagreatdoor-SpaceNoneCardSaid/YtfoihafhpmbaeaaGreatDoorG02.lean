/- Numbers are taken from bytes. -/
import Derived.BigQuiet
import Derived.Deep.QuietTactic
import Derived.Laws.Bits64
import Derived.Test.YtfoihafhpmbaeaaGreatDoorG01
namespace Go.Proofs.YtfoihafhpmbaeaaGreatDoor
open Go.RowKit

theorem index_str (b : ByteArray) (k : Nat) (h : k < b.size) (W : World) : (Instr.index 9 (.string b) (.int .i64 (k : Int))).run Tryz.prog W = .ok (.int .u8 (b[k].toNat : Int)) W := by
  go_simp

def u64ok (n : Int) : Prop := 0 ≤ n ∧ n ≤ 18446744073709551615
theorem wrap_u64ok (n : Int) : u64ok (IntKind.u64.wrap n) := by rw [IntKind.wrap_u64]; unfold u64ok; omega
theorem or_u64ok (a b : Int) : u64ok (bits .or .u64 a b) := wrap_u64ok _

/-- a number and a further byte of it -/
def vstep (n : Int) (k : Nat) (c : Int) : Int := bits .or .u64 n (IntKind.u64.wrap (IntKind.u64.wrap (bits .and .u8 c 127) * 2 ^ (7 * k)))
/-- from byte k on, n taken: the number, how many bytes, what is wrong -/
def vtakeF (b : ByteArray) : Nat → Nat → Int → Int × Int × Int
  | 0, _, _ => (0, 0, 2)
  | f + 1, k, n => if h : k < b.size then
      if (k = 9 ∧ 1 < (b[k].toNat : Int)) ∨ ((b[k].toNat : Int) = 0 ∧ 0 < k) then (0, 0, 1)
      else if (b[k].toNat : Int) < 128 then (vstep n k b[k].toNat, (k : Int) + 1, 0)
      else vtakeF b f (k + 1) (vstep n k b[k].toNat)
    else (0, 0, 2)
def vtake (b : ByteArray) : Int × Int × Int := vtakeF b 10 0 0

theorem vtakeF_ok (b : ByteArray) : ∀ f k n, u64ok (vtakeF b f k n).1 ∧ 0 ≤ (vtakeF b f k n).2.1 ∧ (vtakeF b f k n).2.1 ≤ b.size ∧ (vtakeF b f k n).2.1 ≤ k + f ∧ 0 ≤ (vtakeF b f k n).2.2 ∧ (vtakeF b f k n).2.2 ≤ 2
  | 0, k, n => by unfold vtakeF u64ok; simp
  | f + 1, k, n => by
    have ih := vtakeF_ok b f (k + 1) (vstep n k (b[k]?.map (fun c => (c.toNat : Int)) |>.getD 0))
    unfold vtakeF
    by_cases h : k < b.size
    · rw [dif_pos h]
      by_cases h1 : (k = 9 ∧ 1 < (b[k].toNat : Int)) ∨ ((b[k].toNat : Int) = 0 ∧ 0 < k)
      · rw [if_pos h1]; unfold u64ok; simp; omega
      · rw [if_neg h1]
        by_cases h2 : (b[k].toNat : Int) < 128
        · rw [if_pos h2]; exact ⟨or_u64ok _ _, by simp; omega, by simp; omega, by simp; omega, by simp, by simp⟩
        · rw [if_neg h2]
          simp only [h, getElem?_pos, Option.map_some, Option.getD_some] at ih
          refine ⟨ih.1, ih.2.1, ih.2.2.1, by have := ih.2.2.2.1; omega, ih.2.2.2.2⟩
    · rw [dif_neg h]; unfold u64ok; simp; omega
theorem vtake_ok (b : ByteArray) : u64ok (vtake b).1 ∧ 0 ≤ (vtake b).2.1 ∧ (vtake b).2.1 ≤ b.size ∧ (vtake b).2.1 ≤ 10 ∧ 0 ≤ (vtake b).2.2 ∧ (vtake b).2.2 ≤ 2 := by
  have := vtakeF_ok b 10 0 0
  simpa [vtake] using this

theorem ret3 {k1 k2 k3 : IntKind} {a b c a' b' c' : Int} (h : (a, b, c) = (a', b', c')) : Ending.returned (.tuple #[.int k1 a, .int k2 b, .int k3 c]) = .returned (.tuple #[.int k1 a', .int k2 b', .int k3 c']) := by
  injection h with h1 h2; injection h2 with h2 h3; rw [h1, h2, h3]

theorem vtakeF_lo {b : ByteArray} {f k : Nat} {n : Int} (h : ¬ k < b.size) : vtakeF b f k n = (0, 0, 2) := by cases f <;> simp [vtakeF, h]
theorem vtakeF_form {b : ByteArray} {f k : Nat} {n c : Int} (h : k < b.size) (hc : (b[k].toNat : Int) = c) (h1 : (k = 9 ∧ 1 < c) ∨ (c = 0 ∧ 0 < k)) : vtakeF b (f + 1) k n = (0, 0, 1) := by subst hc; rw [vtakeF, dif_pos h, if_pos h1]
theorem vtakeF_end {b : ByteArray} {f k : Nat} {n c : Int} (h : k < b.size) (hc : (b[k].toNat : Int) = c) (h1 : ¬ ((k = 9 ∧ 1 < c) ∨ (c = 0 ∧ 0 < k))) (h2 : c < 128) : vtakeF b (f + 1) k n = (vstep n k c, (k : Int) + 1, 0) := by
  subst hc; rw [vtakeF, dif_pos h, if_neg h1, if_pos h2]
theorem vtakeF_go {b : ByteArray} {f k : Nat} {n c : Int} (h : k < b.size) (hc : (b[k].toNat : Int) = c) (h1 : ¬ ((k = 9 ∧ 1 < c) ∨ (c = 0 ∧ 0 < k))) (h2 : ¬ c < 128) : vtakeF b (f + 1) k n = vtakeF b f (k + 1) (vstep n k c) := by
  subst hc; rw [vtakeF, dif_pos h, if_neg h1, if_neg h2]

theorem Take_calls (b : ByteArray) (w : World) (hs : b.size ≤ 140737488355328) :
    Calls Tryz.prog 83 #[.string b] w fun e w' => e = .returned (.tuple #[.int .u64 (vtake b).1, .int .i64 (vtake b).2.1, .int .i64 (vtake b).2.2]) ∧ w = w' := by
  obtain ⟨R, hR⟩ : ∃ R, vtake b = R := ⟨_, rfl⟩
  rw [hR]
  have HR : Hid (R = vtakeF b (10 - 0) 0 0) := hR.symm
  clear hR
  by_cases h : (b.size : Int) ≤ 10
  · go_enter Tryz.func83, Tryz.ntmps83
    go_wp2_with fail
    go_loop [5, 6, 7, 11] (fun v _ _ i => ∃ (k : Nat) (n : Int), k ≤ 10 ∧ k ≤ b.size ∧ i = .int .i64 k ∧ v = .int .u64 n ∧ Hid (R = vtakeF b (10 - k) k n)) (fun _ _ _ i => 10 - (intOf i).toNat)
    case atStart => exact ⟨0, 0, by omega, by omega, rfl, rfl, HR⟩
    case round =>
      obtain ⟨k, n, hk, hk2, rfl, rfl, HK⟩ := hrel
      by_cases hlt : k < 10 ∧ k < b.size
      · obtain ⟨hlt, hkb⟩ := hlt
        obtain ⟨f, hf⟩ : ∃ f, 10 - k = f + 1 := ⟨9 - k, by omega⟩
        rw [hf] at HK
        have hf' : 10 - (k + 1) = f := by omega
        have hix := index_str b k hkb
        have hc0 : 0 ≤ (b[k].toNat : Int) := by omega
        obtain ⟨c, hc⟩ : ∃ c, (b[k].toNat : Int) = c := ⟨_, rfl⟩
        rw [hc] at hix hc0
        have HC := Lib.hid hc
        have Hf := Lib.hid hf'
        clear hc hf hf'
        have L1 := fun h1 => Lib.hid (HK.out.trans (vtakeF_form hkb HC.out h1))
        have L2 := fun h1 h2 => Lib.hid (HK.out.trans (vtakeF_end hkb HC.out h1 h2))
        have L3 := fun h1 h2 => Lib.hid (HK.out.trans (vtakeF_go hkb HC.out h1 h2))
        clear HK
        by_cases h9 : k = 9
        · have e9 : ((k : Int) == 9) = true := by rw [beq_iff_eq]; omega
          have ep : (0 : Int) < k := by omega
          by_cases hc1 : 1 < c
          · have HL := L1 (.inl ⟨h9, hc1⟩)
            clear L1 L2 L3 h9
            go_wp2_with fail
            go_ret3
            exact ⟨ret3 HL.out.symm, rfl⟩
          · by_cases hz : c = 0
            · have HL := L1 (.inr ⟨hz, by omega⟩)
              have ez : (c == 0) = true := by rw [beq_iff_eq]; omega
              clear L1 L2 L3 h9 hz
              go_wp2_with fail
              go_ret3
              exact ⟨ret3 HL.out.symm, rfl⟩
            · have hn : ¬ ((k = 9 ∧ 1 < c) ∨ (c = 0 ∧ 0 < k)) := by omega
              have h128 : c < 128 := by omega
              have HL := L2 hn h128
              have ez : (c == 0) = false := by rw [beq_eq_false_iff_ne]; exact hz
              clear L1 L2 L3 h9 hz hn
              go_wp2_with fail
              go_ret3
              exact ⟨ret3 HL.out.symm, rfl⟩
        · have e9 : ((k : Int) == 9) = false := by rw [beq_eq_false_iff_ne]; omega
          by_cases hz : c = 0
          · have ez : (c == 0) = true := by rw [beq_iff_eq]; omega
            by_cases hk0 : 0 < k
            · have HL := L1 (.inr ⟨hz, hk0⟩)
              have ep : (0 : Int) < k := by omega
              clear L1 L2 L3 h9 hz hk0
              go_wp2_with fail
              go_ret3
              exact ⟨ret3 HL.out.symm, rfl⟩
            · have hn : ¬ ((k = 9 ∧ 1 < c) ∨ (c = 0 ∧ 0 < k)) := by omega
              have h128 : c < 128 := by omega
              have HL := L2 hn h128
              have ep : ¬ (0 : Int) < k := by omega
              clear L1 L2 L3 h9 hz hn hk0
              go_wp2_with fail
              go_ret3
              exact ⟨ret3 HL.out.symm, rfl⟩
          · have ez : (c == 0) = false := by rw [beq_eq_false_iff_ne]; exact hz
            have hn : ¬ ((k = 9 ∧ 1 < c) ∨ (c = 0 ∧ 0 < k)) := by omega
            by_cases h128 : c < 128
            · have HL := L2 hn h128
              clear L1 L2 L3 h9 hz hn
              go_wp2_with fail
              go_ret3
              exact ⟨ret3 HL.out.symm, rfl⟩
            · have HL := L3 hn h128
              rw [← Hf.out] at HL
              clear L1 L2 L3 h9 hz hn
              go_wp2_with fail
              go_round
              case rel => exact ⟨k + 1, vstep n k c, by omega, by omega, by go_num, rfl, HL⟩
              case measure => simp [intOf]; omega
      · have HL : Hid (R = (0, 0, 2)) := by
          by_cases hkb : k < b.size
          · have : k = 10 := by omega
            subst this
            exact HK.out
          · exact HK.out.trans (vtakeF_lo hkb)
        clear HK
        have hlt2 : ¬ ((k : Int) < b.size) := by omega
        clear hlt
        go_wp2_with fail
        go_ret3
        exact ⟨ret3 HL.out.symm, rfl⟩
  · go_enter Tryz.func83, Tryz.ntmps83
    go_wp2_with fail
    go_loop [5, 6, 7, 11] (fun v _ _ i => ∃ (k : Nat) (n : Int), k ≤ 10 ∧ k ≤ b.size ∧ i = .int .i64 k ∧ v = .int .u64 n ∧ Hid (R = vtakeF b (10 - k) k n)) (fun _ _ _ i => 10 - (intOf i).toNat)
    case atStart => exact ⟨0, 0, by omega, by omega, rfl, rfl, HR⟩
    case round =>
      obtain ⟨k, n, hk, hk2, rfl, rfl, HK⟩ := hrel
      by_cases hlt : k < 10 ∧ k < b.size
      · obtain ⟨hlt, hkb⟩ := hlt
        obtain ⟨f, hf⟩ : ∃ f, 10 - k = f + 1 := ⟨9 - k, by omega⟩
        rw [hf] at HK
        have hf' : 10 - (k + 1) = f := by omega
        have hix := index_str b k hkb
        have hc0 : 0 ≤ (b[k].toNat : Int) := by omega
        obtain ⟨c, hc⟩ : ∃ c, (b[k].toNat : Int) = c := ⟨_, rfl⟩
        rw [hc] at hix hc0
        have HC := Lib.hid hc
        have Hf := Lib.hid hf'
        clear hc hf hf'
        have L1 := fun h1 => Lib.hid (HK.out.trans (vtakeF_form hkb HC.out h1))
        have L2 := fun h1 h2 => Lib.hid (HK.out.trans (vtakeF_end hkb HC.out h1 h2))
        have L3 := fun h1 h2 => Lib.hid (HK.out.trans (vtakeF_go hkb HC.out h1 h2))
        clear HK
        by_cases h9 : k = 9
        · have e9 : ((k : Int) == 9) = true := by rw [beq_iff_eq]; omega
          have ep : (0 : Int) < k := by omega
          by_cases hc1 : 1 < c
          · have HL := L1 (.inl ⟨h9, hc1⟩)
            clear L1 L2 L3 h9
            go_wp2_with fail
            go_ret3
            exact ⟨ret3 HL.out.symm, rfl⟩
          · by_cases hz : c = 0
            · have HL := L1 (.inr ⟨hz, by omega⟩)
              have ez : (c == 0) = true := by rw [beq_iff_eq]; omega
              clear L1 L2 L3 h9 hz
              go_wp2_with fail
              go_ret3
              exact ⟨ret3 HL.out.symm, rfl⟩
            · have hn : ¬ ((k = 9 ∧ 1 < c) ∨ (c = 0 ∧ 0 < k)) := by omega
              have h128 : c < 128 := by omega
              have HL := L2 hn h128
              have ez : (c == 0) = false := by rw [beq_eq_false_iff_ne]; exact hz
              clear L1 L2 L3 h9 hz hn
              go_wp2_with fail
              go_ret3
              exact ⟨ret3 HL.out.symm, rfl⟩
        · have e9 : ((k : Int) == 9) = false := by rw [beq_eq_false_iff_ne]; omega
          by_cases hz : c = 0
          · have ez : (c == 0) = true := by rw [beq_iff_eq]; omega
            by_cases hk0 : 0 < k
            · have HL := L1 (.inr ⟨hz, hk0⟩)
              have ep : (0 : Int) < k := by omega
              clear L1 L2 L3 h9 hz hk0
              go_wp2_with fail
              go_ret3
              exact ⟨ret3 HL.out.symm, rfl⟩
            · have hn : ¬ ((k = 9 ∧ 1 < c) ∨ (c = 0 ∧ 0 < k)) := by omega
              have h128 : c < 128 := by omega
              have HL := L2 hn h128
              have ep : ¬ (0 : Int) < k := by omega
              clear L1 L2 L3 h9 hz hn hk0
              go_wp2_with fail
              go_ret3
              exact ⟨ret3 HL.out.symm, rfl⟩
          · have ez : (c == 0) = false := by rw [beq_eq_false_iff_ne]; exact hz
            have hn : ¬ ((k = 9 ∧ 1 < c) ∨ (c = 0 ∧ 0 < k)) := by omega
            by_cases h128 : c < 128
            · have HL := L2 hn h128
              clear L1 L2 L3 h9 hz hn
              go_wp2_with fail
              go_ret3
              exact ⟨ret3 HL.out.symm, rfl⟩
            · have HL := L3 hn h128
              rw [← Hf.out] at HL
              clear L1 L2 L3 h9 hz hn
              go_wp2_with fail
              go_round
              case rel => exact ⟨k + 1, vstep n k c, by omega, by omega, by go_num, rfl, HL⟩
              case measure => simp [intOf]; omega
      · have HL : Hid (R = (0, 0, 2)) := by
          by_cases hkb : k < b.size
          · have : k = 10 := by omega
            subst this
            exact HK.out
          · exact HK.out.trans (vtakeF_lo hkb)
        clear HK
        have hlt2 : ¬ ((k : Int) < 10) := by omega
        clear hlt
        go_wp2_with fail
        go_ret3
        exact ⟨ret3 HL.out.symm, rfl⟩
end Go.Proofs.YtfoihafhpmbaeaaGreatDoor
