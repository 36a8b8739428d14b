/- Numbers are put as bytes. -/
import Derived.Laws.BytesArg
import Derived.Outline
import Derived.Test.YtfoihafhpmbaeaaGreatDoorG02
import Derived.Test.YtfoihafhpmbaeaaGreatDoorG04
namespace Go.Proofs.YtfoihafhpmbaeaaGreatDoor
open Go.RowKit

theorem info_u8 : (Tryz.prog.info? 5).map (fun i => (i.zero, i.size, i.bytes)) = some (some (.int .u8 0), 1, 1) := by kernel_rfl

/-- the bytes of a number -/
def vputI : Nat → Int → List Int
  | 0, _ => []
  | f + 1, n => if n < 128 then [n % 256] else bits .or .u8 (n % 256) 128 :: vputI f (n / 128)
def vputS (n : Int) : ByteArray := strOfNums (vputI 10 n)

theorem vputI_len : ∀ (f : Nat) (n : Int), (vputI f n).length ≤ f
  | 0, _ => by simp [vputI]
  | f + 1, n => by
    unfold vputI
    split
    · simp
    · have := vputI_len f (n / 128); simp; omega
theorem vputS_size (n : Int) : (vputS n).size ≤ 10 := by rw [vputS, strOfNums_size]; exact vputI_len _ _

theorem run_own_string {w : World} {base n : Nat} {src dst e : TypeId} {a : Option Addr} {c : Nat} {l : List Int} (hs : Tryz.prog.underlying src = some (.slice e)) (he : Tryz.prog.underlying e = some (.int .u8)) (hd : Tryz.prog.underlying dst = some .string)
    (h : w.ownsRow base e 1 (.slice a n c) n (l.map (Value.int .u8))) (hn : l.length = n) : (convert src dst (.slice a n c)).run Tryz.prog w = .ok (.string (strOfNums l)) w := by
  have hc := fun g hg => World.ownsRow.cells (g := g) h hg
  rcases h.2 with ⟨h1, h2⟩ | ⟨g, cap, cur, h1, _⟩
  · simp only [Value.slice.injEq] at h1
    obtain ⟨rfl, h3, h4⟩ := h1
    rw [run_convert_bytes_nil w src e hs he n c dst hd]
    obtain rfl : l = [] := List.length_eq_zero_iff.1 (by omega)
    rfl
  · simp only [Value.slice.injEq] at h1
    obtain ⟨rfl, h3, h4⟩ := h1
    refine run_convert_bytes_arg w src e hs he g 0 n c l hn (fun i hi => ?_) dst hd
    have := hc g rfl i (.int .u8 (l.getD i 0)) (by simp [List.getD, List.getElem?_eq_getElem (show i < l.length by omega)])
    rw [← this]
    have e : (⟨g, 0, none⟩ : Addr).add i = ⟨g, 0 + i, none⟩ := by unfold Addr.add; split <;> simp_all
    rw [e]

def cap128 : Nat → Int
  | 0 => 128
  | f + 1 => 128 * cap128 f
theorem cap128_9 (n : Int) (h : u64ok n) : n < cap128 9 := by
  simp only [cap128]
  have := h.2
  omega

theorem vputI_lt {f : Nat} {n : Int} (h : n < 128) : vputI (f + 1) n = [n % 256] := by simp [vputI, h]
theorem vputI_ge {f : Nat} {n : Int} (h : ¬ n < 128) : vputI (f + 1) n = bits .or .u8 (n % 256) 128 :: vputI f (n / 128) := by simp [vputI, h]

set_option maxHeartbeats 400000 in
theorem Put_calls (n0 : Int) (w : World) (hs : u64ok n0)  :
    Calls Tryz.prog 55 #[.int .u64 n0] w fun e w' => e = .returned (.string (vputS n0)) ∧ Below w.heap.size w w' := by
  obtain ⟨i0, hi, hz0, hz1, hz2⟩ := info_parts info_u8
  obtain ⟨R, hR⟩ : ∃ R, vputS n0 = R := ⟨_, rfl⟩
  rw [hR]
  have HR := Lib.hid hR
  clear hR
  go_enter Tryz.func55, Tryz.ntmps55
  go_wp2_with fail
  go_step3
  go_wp2_with fail
  go_step3
  go_wp2_with fail
  go_loopw [0, 3] (fun x v wr => ∃ (f : Nat) (n : Int) (l : List Int) (a : Option Addr) (c : Nat), x = .int .u64 n ∧ v = .slice a l.length c ∧ u64ok n ∧ n < cap128 f ∧ l.length + (f + 1) ≤ 10 ∧
      Hid (vputI 10 n0 = l ++ vputI (f + 1) n) ∧ wr.ownsRow w.heap.size 5 1 (.slice a l.length c) l.length (l.map (Value.int .u8)) ∧ Below w.heap.size w wr) (fun x _ _ => (intOf x).toNat)
  case atStart => exact ⟨9, n0, [], none, 0, rfl, rfl, hs, cap128_9 _ hs, by simp, rfl, World.ownsRow_nil _ _ _ _, Below.refl _ _⟩
  case round =>
    obtain ⟨f, n, l, a, c, rfl, rfl, hn, hf, hl, HG, hown, hB⟩ := hrel
    have hsz := hB.size
    have hrl : ∀ k, (Value.slice a l.length c).ownBlock = some k → w.heap.size ≤ k := fun k e => (hown.lt k e).1
    by_cases hlt : n < 128
    · have HG2 : Hid (strOfNums (l ++ [n % 256]) = R) := by
        have := HG.out
        rw [vputI_lt hlt] at this
        show _ = _
        rw [← this, ← HR.out]
        rfl
      clear hf hn HG
      go_wp2_with (at_builtin; refine wpList_append_own _ rfl _ _ 153 rfl w.heap.size 5 i0 _ 1 1 Tryz.underlying153 hi hz0 hz1 hz2 rfl (by decide) _ _ _ rfl (hown.alloc _) ⟨wr.heap.size, 0, none⟩ 1 1 [.int .u8 (n % 256)] rfl rfl ?c1 ?c2 ?c3 ?c4 ?c5 ?_)
      case c1 => exact news_new wr [.int .u8 (n % 256)] _
      case c2 => simp [Value.oneCell']
      case c3 => unfold maxLen; omega
      case c4 => omega
      case c5 => simp; omega
      intro v' w1 hown' hg _
      obtain ⟨a', c', rfl⟩ := own_form hown'
      have hB2 : Below w.heap.size w w1 := (hB.alloc hsz _).grown hg (by simp; omega) hrl
      have hcv := run_own_string (dst := 9) (l := l ++ [n % 256]) Tryz.underlying153 Tryz.underlying5 Tryz.underlying9 (by simpa using hown') (by simp)
      rw [HG2.out] at hcv
      clear hown hown' hg hB hrl
      go_wp2_with fail
      rw [Exit.noGoto_ret]
      go_ret
      exact ⟨rfl, hB2⟩
    · obtain ⟨f', rfl⟩ : ∃ f', f = f' + 1 := by
        cases f with
        | zero => simp only [cap128] at hf; omega
        | succ f' => exact ⟨f', rfl⟩
      have HG2 : Hid (vputI 10 n0 = (l ++ [bits .or .u8 (n % 256) 128]) ++ vputI (f' + 1) (n / 128)) := by
        have := HG.out
        rw [vputI_ge hlt] at this
        show _ = _
        rw [this, List.append_assoc]
        rfl
      have hn2 : u64ok (n / 128) := by have h1 := hn.1; have h2 := hn.2; unfold u64ok; omega
      have hf2 : n / 128 < cap128 f' := by simp only [cap128] at hf; omega
      have h0 : 0 ≤ n := hn.1
      have HN := Lib.hid (And.intro hn2 hf2)
      clear hf hn HG hn2 hf2
      go_wp2_with (at_builtin; refine wpList_append_own _ rfl _ _ 153 rfl w.heap.size 5 i0 _ 1 1 Tryz.underlying153 hi hz0 hz1 hz2 rfl (by decide) _ _ _ rfl (hown.alloc _) ⟨wr.heap.size, 0, none⟩ 1 1 [.int .u8 (bits .or .u8 (n % 256) 128)] rfl rfl ?d1 ?d2 ?d3 ?d4 ?d5 ?_)
      case d2 => simp [Value.oneCell']
      case d3 => unfold maxLen; omega
      case d4 => omega
      case d5 => omega
      intro v' w1 hown' hg _
      obtain ⟨a', c', rfl⟩ := own_form hown'
      have hB2 : Below w.heap.size w w1 := (hB.alloc hsz _).grown hg (by simp; omega) hrl
      clear hown hg hB hrl
      go_wp2_with fail
      go_roundw
      case rel => exact ⟨f', n / 128, l ++ [bits .or .u8 (n % 256) 128], a', c', rfl, by simp, HN.out.1, HN.out.2, by simp; omega, HG2, by simpa using hown', hB2⟩
      case measure => simp [intOf]; omega
end Go.Proofs.YtfoihafhpmbaeaaGreatDoor

/- Bytes are taken piece by piece. -/
namespace Go.Proofs.YtfoihafhpmbaeaaGreatDoor
open Go.RowKit

/-- where a reader is, and what was wrong first -/
structure RS where
  pos : Nat
  err : Int
structure Rd (w : World) (rb : Nat) (b : ByteArray) (s : RS) : Prop where
  blk : Blk w rb [.string b, .int .i64 s.pos, .int .i64 s.err] 183
  inb : s.pos ≤ b.size
  siz : b.size ≤ 140737488355328
theorem Rd.keep {w w' : World} {rb : Nat} {b : ByteArray} {s : RS} (h : Rd w rb b s) (k : w'.heap[rb]? = w.heap[rb]?) : Rd w' rb b s := ⟨h.blk.keep k, h.inb, h.siz⟩

theorem run_tail {P : Program} (t : TypeId) (ht : P.underlying t = some .string) (b : ByteArray) (k : Nat) (h : k ≤ b.size) (W : World) :
    (Instr.slice t (.string b) (some (.int .i64 (k : Int))) none none).run P W = .ok (.string (b.extract k b.size)) W := by
  go_simp

/-- what is taken: all that is taken of it, how much, what is wrong -/
def takeR {α : Type} (none : α) (s : RS) (x : α) (k : Nat) (e : Int) : α × RS :=
  if s.err = 0 then (if e = 0 then (x, ⟨s.pos + k, 0⟩) else (none, ⟨s.pos, e⟩)) else (none, s)

set_option maxHeartbeats 400000 in
theorem takeN_calls {b : ByteArray} {s : RS} {rb  : Nat} {w : World} (h : Rd w rb b s) (v : Value) (k : Nat) (e2 : Int) (hk : s.err = 0 → e2 = 0 → s.pos + k ≤ b.size)
    (hc : ∀ n, Calls Tryz.prog 83 (#[.string (b.extract s.pos b.size)] ++ (#[] : Array Value)) (w.drewN n) fun e w' => e = .returned (.tuple #[v, .int .i64 k, .int .i64 e2]) ∧ w.drewN n = w') :
    Calls Tryz.prog 82 #[.pointer (some ⟨rb, 0, none⟩), .func (.func 83) #[] (#[] : Array Value)] w fun e w' =>
      e = .returned (takeR (Value.int .u64 0) s v k e2).1 ∧ Rd w' rb b (takeR (Value.int .u64 0) s v k e2).2 ∧ But rb w w' := by
  obtain ⟨p, er⟩ := s
  obtain ⟨hb, hp, hs⟩ := h
  have c0 := hb.cell 0
  have c1 := hb.cell 1
  have c2 := hb.cell 2
  simp at c0 c1 c2 hp
  by_cases h0 : er = 0
  · subst h0
    have HC := Lib.hid hc
    have hsl := fun W => run_tail 9 Tryz.underlying9 b p hp W
    have hk2 := hk rfl
    clear hc hk
    by_cases he : e2 = 0
    · subst he
      have hk3 : p + k ≤ b.size := hk2 rfl
      clear hk2
      have HR : Hid (takeR (Value.int .u64 0) ⟨p, 0⟩ v k 0 = (v, ⟨p + k, 0⟩)) := by unfold takeR; rfl
      rw [HR.out]
      go_enter Tryz.func82, Tryz.ntmps82
      go_wp2_with fail
      go_quiet ((go_at_call 83; exact Calls.quiet_eq (HC.out _)))
      have d1 := (hb.drewN nq).cell 1
      have d0 := (hb.drewN nq).cell 0
      have f1 := (hb.drewN nq).free 1
      simp at d0 d1
      go_wp2_with fail
      go_ret
      refine ⟨rfl, ⟨?_, hk3, hs⟩, (But.drewN (But.refl _ _) nq).set 1 _⟩
      have := (hb.drewN nq).set 1 (.int .i64 ((p + k : Nat) : Int))
      simpa using this
    · have e2t : (e2 != 0) = true := by rw [bne_iff_ne]; exact he
      have HR : Hid (takeR (Value.int .u64 0) ⟨p, 0⟩ v k e2 = ((Value.int .u64 0), ⟨p, e2⟩)) := by unfold takeR; rw [if_pos rfl, if_neg he]; rfl
      rw [HR.out]
      clear hk2 he
      go_enter Tryz.func82, Tryz.ntmps82
      go_wp2_with fail
      go_quiet ((go_at_call 83; exact Calls.quiet_eq (HC.out _)))
      have d2 := (hb.drewN nq).cell 2
      have f2 := (hb.drewN nq).free 2
      simp at d2
      go_wp2_with fail
      go_ret
      exact ⟨rfl, ⟨(hb.drewN nq).set 2 _, hp, hs⟩, (But.drewN (But.refl _ _) nq).set 2 _⟩
  · have et : (er != 0) = true := by rw [bne_iff_ne]; exact h0
    have HR : Hid (takeR (Value.int .u64 0) ⟨p, er⟩ v k e2 = ((Value.int .u64 0), ⟨p, er⟩)) := by unfold takeR; rw [if_neg h0]; rfl
    rw [HR.out]
    clear hc hk h0
    go_enter Tryz.func82, Tryz.ntmps82
    go_wp2_with fail
    go_ret
    exact ⟨rfl, ⟨hb, hp, hs⟩, But.refl _ _⟩
set_option maxHeartbeats 400000 in
theorem takeI_calls {b : ByteArray} {s : RS} {rb cb : Nat} {w : World} (h : Rd w rb b s) (v : Value) (k : Nat) (e2 : Int) (hk : s.err = 0 → e2 = 0 → s.pos + k ≤ b.size)
    (hc : ∀ n, Calls Tryz.prog 158 (#[.string (b.extract s.pos b.size)] ++ #[Value.pointer (some ⟨cb, 0, none⟩)]) (w.drewN n) fun e w' => e = .returned (.tuple #[v, .int .i64 k, .int .i64 e2]) ∧ w.drewN n = w') :
    Calls Tryz.prog 157 #[.pointer (some ⟨rb, 0, none⟩), .func (.func 158) #[] #[Value.pointer (some ⟨cb, 0, none⟩)]] w fun e w' =>
      e = .returned (takeR (Value.int .i64 0) s v k e2).1 ∧ Rd w' rb b (takeR (Value.int .i64 0) s v k e2).2 ∧ But rb w w' := by
  obtain ⟨p, er⟩ := s
  obtain ⟨hb, hp, hs⟩ := h
  have c0 := hb.cell 0
  have c1 := hb.cell 1
  have c2 := hb.cell 2
  simp at c0 c1 c2 hp
  by_cases h0 : er = 0
  · subst h0
    have HC := Lib.hid hc
    have hsl := fun W => run_tail 9 Tryz.underlying9 b p hp W
    have hk2 := hk rfl
    clear hc hk
    by_cases he : e2 = 0
    · subst he
      have hk3 : p + k ≤ b.size := hk2 rfl
      clear hk2
      have HR : Hid (takeR (Value.int .i64 0) ⟨p, 0⟩ v k 0 = (v, ⟨p + k, 0⟩)) := by unfold takeR; rfl
      rw [HR.out]
      go_enter Tryz.func157, Tryz.ntmps157
      go_wp2_with fail
      go_quiet ((go_at_call 158; exact Calls.quiet_eq (HC.out _)))
      have d1 := (hb.drewN nq).cell 1
      have d0 := (hb.drewN nq).cell 0
      have f1 := (hb.drewN nq).free 1
      simp at d0 d1
      go_wp2_with fail
      go_ret
      refine ⟨rfl, ⟨?_, hk3, hs⟩, (But.drewN (But.refl _ _) nq).set 1 _⟩
      have := (hb.drewN nq).set 1 (.int .i64 ((p + k : Nat) : Int))
      simpa using this
    · have e2t : (e2 != 0) = true := by rw [bne_iff_ne]; exact he
      have HR : Hid (takeR (Value.int .i64 0) ⟨p, 0⟩ v k e2 = ((Value.int .i64 0), ⟨p, e2⟩)) := by unfold takeR; rw [if_pos rfl, if_neg he]; rfl
      rw [HR.out]
      clear hk2 he
      go_enter Tryz.func157, Tryz.ntmps157
      go_wp2_with fail
      go_quiet ((go_at_call 158; exact Calls.quiet_eq (HC.out _)))
      have d2 := (hb.drewN nq).cell 2
      have f2 := (hb.drewN nq).free 2
      simp at d2
      go_wp2_with fail
      go_ret
      exact ⟨rfl, ⟨(hb.drewN nq).set 2 _, hp, hs⟩, (But.drewN (But.refl _ _) nq).set 2 _⟩
  · have et : (er != 0) = true := by rw [bne_iff_ne]; exact h0
    have HR : Hid (takeR (Value.int .i64 0) ⟨p, er⟩ v k e2 = ((Value.int .i64 0), ⟨p, er⟩)) := by unfold takeR; rw [if_neg h0]; rfl
    rw [HR.out]
    clear hc hk h0
    go_enter Tryz.func157, Tryz.ntmps157
    go_wp2_with fail
    go_ret
    exact ⟨rfl, ⟨hb, hp, hs⟩, But.refl _ _⟩
set_option maxHeartbeats 400000 in
theorem takeT_calls {b : ByteArray} {s : RS} {rb cb : Nat} {w : World} (h : Rd w rb b s) (v : Value) (k : Nat) (e2 : Int) (hk : s.err = 0 → e2 = 0 → s.pos + k ≤ b.size)
    (hc : ∀ n, Calls Tryz.prog 155 (#[.string (b.extract s.pos b.size)] ++ #[Value.pointer (some ⟨cb, 0, none⟩)]) (w.drewN n) fun e w' => e = .returned (.tuple #[v, .int .i64 k, .int .i64 e2]) ∧ w.drewN n = w') :
    Calls Tryz.prog 145 #[.pointer (some ⟨rb, 0, none⟩), .func (.func 155) #[] #[Value.pointer (some ⟨cb, 0, none⟩)]] w fun e w' =>
      e = .returned (takeR (Value.string ⟨#[]⟩) s v k e2).1 ∧ Rd w' rb b (takeR (Value.string ⟨#[]⟩) s v k e2).2 ∧ But rb w w' := by
  obtain ⟨p, er⟩ := s
  obtain ⟨hb, hp, hs⟩ := h
  have c0 := hb.cell 0
  have c1 := hb.cell 1
  have c2 := hb.cell 2
  simp at c0 c1 c2 hp
  by_cases h0 : er = 0
  · subst h0
    have HC := Lib.hid hc
    have hsl := fun W => run_tail 9 Tryz.underlying9 b p hp W
    have hk2 := hk rfl
    clear hc hk
    by_cases he : e2 = 0
    · subst he
      have hk3 : p + k ≤ b.size := hk2 rfl
      clear hk2
      have HR : Hid (takeR (Value.string ⟨#[]⟩) ⟨p, 0⟩ v k 0 = (v, ⟨p + k, 0⟩)) := by unfold takeR; rfl
      rw [HR.out]
      go_enter Tryz.func145, Tryz.ntmps145
      go_wp2_with fail
      go_quiet ((go_at_call 155; exact Calls.quiet_eq (HC.out _)))
      have d1 := (hb.drewN nq).cell 1
      have d0 := (hb.drewN nq).cell 0
      have f1 := (hb.drewN nq).free 1
      simp at d0 d1
      go_wp2_with fail
      go_ret
      refine ⟨rfl, ⟨?_, hk3, hs⟩, (But.drewN (But.refl _ _) nq).set 1 _⟩
      have := (hb.drewN nq).set 1 (.int .i64 ((p + k : Nat) : Int))
      simpa using this
    · have e2t : (e2 != 0) = true := by rw [bne_iff_ne]; exact he
      have HR : Hid (takeR (Value.string ⟨#[]⟩) ⟨p, 0⟩ v k e2 = ((Value.string ⟨#[]⟩), ⟨p, e2⟩)) := by unfold takeR; rw [if_pos rfl, if_neg he]; rfl
      rw [HR.out]
      clear hk2 he
      go_enter Tryz.func145, Tryz.ntmps145
      go_wp2_with fail
      go_quiet ((go_at_call 155; exact Calls.quiet_eq (HC.out _)))
      have d2 := (hb.drewN nq).cell 2
      have f2 := (hb.drewN nq).free 2
      simp at d2
      go_wp2_with fail
      go_ret
      exact ⟨rfl, ⟨(hb.drewN nq).set 2 _, hp, hs⟩, (But.drewN (But.refl _ _) nq).set 2 _⟩
  · have et : (er != 0) = true := by rw [bne_iff_ne]; exact h0
    have HR : Hid (takeR (Value.string ⟨#[]⟩) ⟨p, er⟩ v k e2 = ((Value.string ⟨#[]⟩), ⟨p, er⟩)) := by unfold takeR; rw [if_neg h0]; rfl
    rw [HR.out]
    clear hc hk h0
    go_enter Tryz.func145, Tryz.ntmps145
    go_wp2_with fail
    go_ret
    exact ⟨rfl, ⟨hb, hp, hs⟩, But.refl _ _⟩
set_option maxHeartbeats 400000 in
theorem takeR_calls {b : ByteArray} {s : RS} {rb  : Nat} {w : World} (h : Rd w rb b s) (v : Value) (k : Nat) (e2 : Int) (hk : s.err = 0 → e2 = 0 → s.pos + k ≤ b.size)
    (hc : ∀ n, Calls Tryz.prog 146 (#[.string (b.extract s.pos b.size)] ++ (#[] : Array Value)) (w.drewN n) fun e w' => e = .returned (.tuple #[v, .int .i64 k, .int .i64 e2]) ∧ w.drewN n = w') :
    Calls Tryz.prog 145 #[.pointer (some ⟨rb, 0, none⟩), .func (.func 146) #[] (#[] : Array Value)] w fun e w' =>
      e = .returned (takeR (Value.string ⟨#[]⟩) s v k e2).1 ∧ Rd w' rb b (takeR (Value.string ⟨#[]⟩) s v k e2).2 ∧ But rb w w' := by
  obtain ⟨p, er⟩ := s
  obtain ⟨hb, hp, hs⟩ := h
  have c0 := hb.cell 0
  have c1 := hb.cell 1
  have c2 := hb.cell 2
  simp at c0 c1 c2 hp
  by_cases h0 : er = 0
  · subst h0
    have HC := Lib.hid hc
    have hsl := fun W => run_tail 9 Tryz.underlying9 b p hp W
    have hk2 := hk rfl
    clear hc hk
    by_cases he : e2 = 0
    · subst he
      have hk3 : p + k ≤ b.size := hk2 rfl
      clear hk2
      have HR : Hid (takeR (Value.string ⟨#[]⟩) ⟨p, 0⟩ v k 0 = (v, ⟨p + k, 0⟩)) := by unfold takeR; rfl
      rw [HR.out]
      go_enter Tryz.func145, Tryz.ntmps145
      go_wp2_with fail
      go_quiet ((go_at_call 146; exact Calls.quiet_eq (HC.out _)))
      have d1 := (hb.drewN nq).cell 1
      have d0 := (hb.drewN nq).cell 0
      have f1 := (hb.drewN nq).free 1
      simp at d0 d1
      go_wp2_with fail
      go_ret
      refine ⟨rfl, ⟨?_, hk3, hs⟩, (But.drewN (But.refl _ _) nq).set 1 _⟩
      have := (hb.drewN nq).set 1 (.int .i64 ((p + k : Nat) : Int))
      simpa using this
    · have e2t : (e2 != 0) = true := by rw [bne_iff_ne]; exact he
      have HR : Hid (takeR (Value.string ⟨#[]⟩) ⟨p, 0⟩ v k e2 = ((Value.string ⟨#[]⟩), ⟨p, e2⟩)) := by unfold takeR; rw [if_pos rfl, if_neg he]; rfl
      rw [HR.out]
      clear hk2 he
      go_enter Tryz.func145, Tryz.ntmps145
      go_wp2_with fail
      go_quiet ((go_at_call 146; exact Calls.quiet_eq (HC.out _)))
      have d2 := (hb.drewN nq).cell 2
      have f2 := (hb.drewN nq).free 2
      simp at d2
      go_wp2_with fail
      go_ret
      exact ⟨rfl, ⟨(hb.drewN nq).set 2 _, hp, hs⟩, (But.drewN (But.refl _ _) nq).set 2 _⟩
  · have et : (er != 0) = true := by rw [bne_iff_ne]; exact h0
    have HR : Hid (takeR (Value.string ⟨#[]⟩) ⟨p, er⟩ v k e2 = ((Value.string ⟨#[]⟩), ⟨p, er⟩)) := by unfold takeR; rw [if_neg h0]; rfl
    rw [HR.out]
    clear hc hk h0
    go_enter Tryz.func145, Tryz.ntmps145
    go_wp2_with fail
    go_ret
    exact ⟨rfl, ⟨hb, hp, hs⟩, But.refl _ _⟩
end Go.Proofs.YtfoihafhpmbaeaaGreatDoor

/- Numbers, texts and what is left are taken. -/
namespace Go.Proofs.YtfoihafhpmbaeaaGreatDoor
open Go.RowKit

def numR (b : ByteArray) (s : RS) : Int × RS :=
  let r := vtake (b.extract s.pos b.size)
  if s.err = 0 then (if r.2.2 = 0 then (r.1, ⟨s.pos + r.2.1.toNat, 0⟩) else (0, ⟨s.pos, r.2.2⟩)) else (0, s)

theorem extract_le (b : ByteArray) (k : Nat) : (b.extract k b.size).size ≤ b.size := by
  simp only [ByteArray.size_extract]; omega
theorem extract_eq (b : ByteArray) (k : Nat) (h : k ≤ b.size) : (b.extract k b.size).size = b.size - k := by
  simp only [ByteArray.size_extract]; omega

theorem Num_calls {b : ByteArray} {s : RS} {rb : Nat} {w : World} (h : Rd w rb b s) :
    Calls Tryz.prog 59 #[.pointer (some ⟨rb, 0, none⟩)] w fun e w' => e = .returned (.int .u64 (numR b s).1) ∧ Rd w' rb b (numR b s).2 ∧ But rb w w' := by
  obtain ⟨q1, q2, q3, q4, q5, q6⟩ := vtake_ok (b.extract s.pos b.size)
  have hl := extract_eq b s.pos h.inb
  have hk := h.inb
  have hsz := extract_le b s.pos
  have hs := h.siz
  have HT : Hid (∀ _u : World, Calls Tryz.prog 82 #[.pointer (some ⟨rb, 0, none⟩), .func (.func 83) #[] #[]] w fun e w' => e = .returned (.int .u64 (numR b s).1) ∧ Rd w' rb b (numR b s).2 ∧ But rb w w') := fun _ => by
    refine (takeN_calls h (.int .u64 (vtake (b.extract s.pos b.size)).1) (vtake (b.extract s.pos b.size)).2.1.toNat (vtake (b.extract s.pos b.size)).2.2 (fun _ _ => by omega) (fun n => ?_)).mono ?_
    · have := Take_calls (b.extract s.pos b.size) (w.drewN n) (by omega)
      rw [Int.toNat_of_nonneg q2]
      exact this
    · rintro e w' ⟨he, h1, h2⟩
      have e0 : (takeR (Value.int .u64 0) s (.int .u64 (vtake (b.extract s.pos b.size)).1) (vtake (b.extract s.pos b.size)).2.1.toNat (vtake (b.extract s.pos b.size)).2.2) = (.int .u64 (numR b s).1, (numR b s).2) := by
        unfold takeR numR
        split
        · simp only
          split <;> rfl
        · rfl
      rw [e0] at he h1
      exact ⟨he, h1, h2⟩
  generalize numR b s = r at *
  clear q1 q2 q3 q4 q5 q6 hl hk hsz hs
  go_enter Tryz.func59, Tryz.ntmps59
  go_wp2_with fail
  refine (HT.out w).mono ?_
  rintro e w' ⟨rfl, h1, h2⟩
  go_wp2_with fail
  go_ret
  exact ⟨rfl, h1, h2⟩
end Go.Proofs.YtfoihafhpmbaeaaGreatDoor

/- Numbers that are not too great, texts, what is left; what was wrong. -/
namespace Go.Proofs.YtfoihafhpmbaeaaGreatDoor
open Go.RowKit

def intK (m : Int) (s : ByteArray) : Int × Int × Int := (wrap64 (vtake s).1, (vtake s).2.1, if (vtake s).2.2 = 0 ∧ m < (vtake s).1 then 3 else (vtake s).2.2)

theorem intK_calls (m : Int) (s : ByteArray) (mb : Nat) (w : World) (hs : s.size ≤ 140737488355328) (h0 : 0 ≤ m) (h1 : m ≤ 1099511627776) (hc : w.cell? ⟨mb, 0, none⟩ = some (.int .i64 m)) :
    Calls Tryz.prog 158 #[.string s, .pointer (some ⟨mb, 0, none⟩)] w fun e w' => e = .returned (.tuple #[.int .i64 (intK m s).1, .int .i64 (intK m s).2.1, .int .i64 (intK m s).2.2]) ∧ w = w' := by
  have HT := fun W => Take_calls s W hs
  obtain ⟨q1, q2, q3, q4, q5, q6⟩ := vtake_ok s
  unfold intK
  generalize vtake s = r at *
  obtain ⟨n, k, e⟩ := r
  have n0 := q1.1
  have n1 := q1.2
  simp only at n0 n1 HT q2 q3 q4 q5 q6 ⊢
  have HT := Lib.hid HT
  clear q1
  by_cases he : e = 0
  · subst he
    by_cases hm : m < n
    · rw [if_pos ⟨rfl, hm⟩]
      go_enter Tryz.func158, Tryz.ntmps158
      go_wp2_with fail
      refine (HT.out _).mono ?_
      rintro e w' ⟨rfl, rfl⟩
      go_wp2_with fail
      go_ret3
      exact ⟨rfl, rfl⟩
    · rw [if_neg (by intro h; exact hm h.2), show wrap64 n = n by unfold wrap64; omega]
      go_enter Tryz.func158, Tryz.ntmps158
      go_wp2_with fail
      refine (HT.out _).mono ?_
      rintro e w' ⟨rfl, rfl⟩
      go_wp2_with fail
      go_ret3
      exact ⟨rfl, rfl⟩
  · rw [if_neg (by intro h; exact he h.1)]
    have e1 : (e == 0) = false := by rw [beq_eq_false_iff_ne]; exact he
    clear he
    go_enter Tryz.func158, Tryz.ntmps158
    go_wp2_with fail
    refine (HT.out _).mono ?_
    rintro e w' ⟨rfl, rfl⟩
    go_wp2_with fail
    go_ret3
    exact ⟨rfl, rfl⟩

def intR (b : ByteArray) (m : Int) (s : RS) : Int × RS :=
  let r := vtake (b.extract s.pos b.size)
  if s.err = 0 then (if r.2.2 = 0 then (if m < r.1 then (0, ⟨s.pos, 3⟩) else (r.1, ⟨s.pos + r.2.1.toNat, 0⟩)) else (0, ⟨s.pos, r.2.2⟩)) else (0, s)

theorem Int_calls {b : ByteArray} {s : RS} {rb : Nat} {w : World} (m : Int) (h0 : 0 ≤ m) (h1 : m ≤ 1099511627776) (h : Rd w rb b s) :
    Calls Tryz.prog 115 #[.pointer (some ⟨rb, 0, none⟩), .int .i64 m] w fun e w' => e = .returned (.int .i64 (intR b m s).1) ∧ Rd w' rb b (intR b m s).2 ∧ But rb w w' := by
  obtain ⟨q1, q2, q3, q4, q5, q6⟩ := vtake_ok (b.extract s.pos b.size)
  have n0 := q1.1
  have hl := extract_eq b s.pos h.inb
  have hk := h.inb
  have hsz := extract_le b s.pos
  have hs := h.siz
  have hlt := h.blk.lt
  have HT : Hid (Calls Tryz.prog 157 #[.pointer (some ⟨rb, 0, none⟩), .func (.func 158) #[] #[.pointer (some ⟨w.heap.size, 0, none⟩)]] (w.alloc (.cells #[.int .i64 m] 3))
      fun e w' => e = .returned (.int .i64 (intR b m s).1) ∧ Rd w' rb b (intR b m s).2 ∧ But rb (w.alloc (.cells #[.int .i64 m] 3)) w') := by
    refine (takeI_calls (h.keep (Below.heap_alloc _ _ _ hlt)) (.int .i64 (intK m (b.extract s.pos b.size)).1) (vtake (b.extract s.pos b.size)).2.1.toNat (intK m (b.extract s.pos b.size)).2.2 (fun _ _ => by omega) (fun n => ?_)).mono ?_
    · have hcell : ((w.alloc (.cells #[.int .i64 m] 3)).drewN n).cell? ⟨w.heap.size, 0, none⟩ = some (.int .i64 m) := (Blk.new w [.int .i64 m] 3).cell 0
      have := intK_calls m (b.extract s.pos b.size) w.heap.size ((w.alloc (.cells #[.int .i64 m] 3)).drewN n) (by omega) h0 h1 hcell
      rw [Int.toNat_of_nonneg q2]
      exact this
    · rintro e w' ⟨he, h1, h2⟩
      have e0 : (takeR (Value.int .i64 0) s (.int .i64 (intK m (b.extract s.pos b.size)).1) (vtake (b.extract s.pos b.size)).2.1.toNat (intK m (b.extract s.pos b.size)).2.2) = (.int .i64 (intR b m s).1, (intR b m s).2) := by
        unfold takeR intR intK
        by_cases c1 : s.err = 0
        · rw [if_pos c1, if_pos c1]
          by_cases c2 : (vtake (b.extract s.pos b.size)).2.2 = 0
          · by_cases c3 : m < (vtake (b.extract s.pos b.size)).1
            · simp only [c2, c3, and_self, if_true]
              rw [if_neg (by decide)]
            · simp only [c2, c3, and_false, if_false, if_true]
              have hw : wrap64 (vtake (b.extract s.pos b.size)).1 = (vtake (b.extract s.pos b.size)).1 := by unfold wrap64; omega
              rw [hw]
          · simp only [c2, false_and, if_false]
        · rw [if_neg c1, if_neg c1]
      rw [e0] at he h1
      exact ⟨he, h1, h2⟩
  generalize intR b m s = r at *
  clear q1 q2 q3 q4 q5 q6 hl hk hsz hs n0
  go_enter Tryz.func115, Tryz.ntmps115
  go_wp2_with fail
  refine HT.out.mono ?_
  rintro e w' ⟨rfl, h1, h2⟩
  go_wp2_with fail
  go_ret
  exact ⟨rfl, h1, (But.alloc (But.refl _ _) _).trans h2⟩
end Go.Proofs.YtfoihafhpmbaeaaGreatDoor

/- Texts and what is left are taken; what was wrong. -/
namespace Go.Proofs.YtfoihafhpmbaeaaGreatDoor
open Go.RowKit

theorem _root_.Go.RowKit.Below.drawn {B : Nat} {a w : World} (h : Below B a w) (n : Nat) : Below B a (w.drewN n) := ⟨h.os, h.tape, h.output, h.size, h.block⟩

/-- a span: its text, where it ends, what is wrong -/
def spanK (m : Int) (s : ByteArray) : ByteArray × Int × Int :=
  if (vtake s).2.2 ≠ 0 then (⟨#[]⟩, 0, (vtake s).2.2)
  else if m < (vtake s).1 then (⟨#[]⟩, 0, 3)
  else if (s.size : Int) - (vtake s).2.1 < (vtake s).1 then (⟨#[]⟩, 0, 2)
  else (s.extract (vtake s).2.1.toNat ((vtake s).2.1 + (vtake s).1).toNat, (vtake s).2.1 + (vtake s).1, 0)

theorem spanK_ok (m : Int) (s : ByteArray) : 0 ≤ (spanK m s).2.1 ∧ (spanK m s).2.1 ≤ s.size := by
  obtain ⟨q1, q2, q3, q4, q5, q6⟩ := vtake_ok s
  unfold spanK
  have := q1.1
  split
  · simp
  · split
    · simp
    · split
      · simp
      · simp only; omega

theorem run_mid {P : Program} (t : TypeId) (ht : P.underlying t = some .string) (b : ByteArray) (i j : Nat) (h : i ≤ j) (hj : j ≤ b.size) (W : World) :
    (Instr.slice t (.string b) (some (.int .i64 (i : Int))) (some (.int .i64 (j : Int))) none).run P W = .ok (.string (b.extract i j)) W := by
  go_simp

theorem Span_calls (m : Int) (s : ByteArray) (w : World) (hs : s.size ≤ 140737488355328) (h0 : 0 ≤ m) (h1 : m ≤ 1099511627776) :
    Calls Tryz.prog 156 #[.string s, .int .i64 m] w fun e w' => e = .returned (.tuple #[.string (spanK m s).1, .int .i64 (spanK m s).2.1, .int .i64 (spanK m s).2.2]) ∧ w = w' := by
  have HT := fun W => Take_calls s W hs
  obtain ⟨q1, q2, q3, q4, q5, q6⟩ := vtake_ok s
  obtain ⟨R, hR⟩ : ∃ R, spanK m s = R := ⟨_, rfl⟩
  rw [hR]
  unfold spanK at hR
  generalize vtake s = r at *
  obtain ⟨n, k, e⟩ := r
  have n0 := q1.1
  have n1 := q1.2
  simp only at n0 n1 HT q2 q3 q4 q5 q6 hR ⊢
  have HT := Lib.hid HT
  clear q1
  obtain ⟨kk, rfl⟩ := Int.eq_ofNat_of_zero_le q2
  obtain ⟨nn, rfl⟩ := Int.eq_ofNat_of_zero_le n0
  by_cases he : e = 0
  · subst he
    rw [if_neg (by simp)] at hR
    by_cases hm : m < nn
    · rw [if_pos hm] at hR
      subst hR
      go_enter Tryz.func156, Tryz.ntmps156
      go_wp2_with fail
      refine (HT.out _).mono ?_
      rintro e w' ⟨rfl, rfl⟩
      go_wp2_with fail
      go_ret3
      exact ⟨rfl, rfl⟩
    · rw [if_neg hm] at hR
      by_cases hl : (s.size : Int) - kk < nn
      · rw [if_pos hl] at hR
        subst hR
        go_enter Tryz.func156, Tryz.ntmps156
        go_wp2_with fail
        refine (HT.out _).mono ?_
        rintro e w' ⟨rfl, rfl⟩
        go_wp2_with fail
        go_ret3
        exact ⟨rfl, rfl⟩
      · rw [if_neg hl] at hR
        have hsl := fun W => run_mid (P := Tryz.prog) 9 Tryz.underlying9 s kk (kk + nn) (by omega) (by omega) W
        have e1 : ((kk : Int) + nn).toNat = kk + nn := by omega
        have e2 : ((kk + nn : Nat) : Int) = (kk : Int) + nn := by omega
        rw [e1, Int.toNat_natCast] at hR
        rw [e2] at hsl
        clear e1 e2
        subst hR
        go_enter Tryz.func156, Tryz.ntmps156
        go_wp2_with fail
        refine (HT.out _).mono ?_
        rintro e w' ⟨rfl, rfl⟩
        go_wp2_with fail
        go_ret3
        exact ⟨rfl, rfl⟩
  · rw [if_pos he] at hR
    subst hR
    have e1 : (e != 0) = true := by rw [bne_iff_ne]; exact he
    clear he
    go_enter Tryz.func156, Tryz.ntmps156
    go_wp2_with fail
    refine (HT.out _).mono ?_
    rintro e w' ⟨rfl, rfl⟩
    go_wp2_with fail
    go_ret3
    exact ⟨rfl, rfl⟩

theorem textK_calls (m : Int) (s : ByteArray) (mb : Nat) (w : World) (hs : s.size ≤ 140737488355328) (h0 : 0 ≤ m) (h1 : m ≤ 1099511627776) (hc : w.cell? ⟨mb, 0, none⟩ = some (.int .i64 m)) :
    Calls Tryz.prog 155 #[.string s, .pointer (some ⟨mb, 0, none⟩)] w fun e w' => e = .returned (.tuple #[.string (spanK m s).1, .int .i64 (spanK m s).2.1, .int .i64 (spanK m s).2.2]) ∧ w = w' := by
  have HT := Lib.hid (fun W => Span_calls m s W hs h0 h1)
  generalize spanK m s = r at *
  go_enter Tryz.func155, Tryz.ntmps155
  go_wp2_with fail
  refine (HT.out _).mono ?_
  rintro e w' ⟨rfl, rfl⟩
  go_wp2_with fail
  go_ret3
  exact ⟨rfl, rfl⟩
theorem restK_calls (s : ByteArray) (w : World) :
    Calls Tryz.prog 146 #[.string s] w fun e w' => e = .returned (.tuple #[.string s, .int .i64 s.size, .int .i64 0]) ∧ w = w' := by
  go_enter Tryz.func146, Tryz.ntmps146
  go_wp2_with fail
  go_ret3
  exact ⟨rfl, rfl⟩

def textR (b : ByteArray) (m : Int) (s : RS) : ByteArray × RS :=
  let r := spanK m (b.extract s.pos b.size)
  if s.err = 0 then (if r.2.2 = 0 then (r.1, ⟨s.pos + r.2.1.toNat, 0⟩) else (⟨#[]⟩, ⟨s.pos, r.2.2⟩)) else (⟨#[]⟩, s)
def restR (b : ByteArray) (s : RS) : ByteArray × RS :=
  if s.err = 0 then (b.extract s.pos b.size, ⟨b.size, 0⟩) else (⟨#[]⟩, s)
def doneR (b : ByteArray) (s : RS) : Int := if s.err = 0 then (if s.pos < b.size then 1 else 0) else s.err

theorem Text_calls {b : ByteArray} {s : RS} {rb : Nat} {w : World} (m : Int) (h0 : 0 ≤ m) (h1 : m ≤ 1099511627776) (h : Rd w rb b s) :
    Calls Tryz.prog 114 #[.pointer (some ⟨rb, 0, none⟩), .int .i64 m] w fun e w' => e = .returned (.string (textR b m s).1) ∧ Rd w' rb b (textR b m s).2 ∧ But rb w w' := by
  obtain ⟨q1, q2⟩ := spanK_ok m (b.extract s.pos b.size)
  have hl := extract_eq b s.pos h.inb
  have hk := h.inb
  have hsz := extract_le b s.pos
  have hs := h.siz
  have hlt := h.blk.lt
  have HT : Hid (Calls Tryz.prog 145 #[.pointer (some ⟨rb, 0, none⟩), .func (.func 155) #[] #[.pointer (some ⟨w.heap.size, 0, none⟩)]] (w.alloc (.cells #[.int .i64 m] 3))
      fun e w' => e = .returned (.string (textR b m s).1) ∧ Rd w' rb b (textR b m s).2 ∧ But rb (w.alloc (.cells #[.int .i64 m] 3)) w') := by
    refine (takeT_calls (h.keep (Below.heap_alloc _ _ _ hlt)) (.string (spanK m (b.extract s.pos b.size)).1) (spanK m (b.extract s.pos b.size)).2.1.toNat (spanK m (b.extract s.pos b.size)).2.2 (fun _ _ => by omega) (fun n => ?_)).mono ?_
    · have hcell : ((w.alloc (.cells #[.int .i64 m] 3)).drewN n).cell? ⟨w.heap.size, 0, none⟩ = some (.int .i64 m) := (Blk.new w [.int .i64 m] 3).cell 0
      have := textK_calls m (b.extract s.pos b.size) w.heap.size ((w.alloc (.cells #[.int .i64 m] 3)).drewN n) (by omega) h0 h1 hcell
      rw [Int.toNat_of_nonneg q1]
      exact this
    · rintro e w' ⟨he, h1, h2⟩
      have e0 : (takeR (Value.string ⟨#[]⟩) s (.string (spanK m (b.extract s.pos b.size)).1) (spanK m (b.extract s.pos b.size)).2.1.toNat (spanK m (b.extract s.pos b.size)).2.2) = (.string (textR b m s).1, (textR b m s).2) := by
        unfold takeR textR
        by_cases c1 : s.err = 0
        · rw [if_pos c1, if_pos c1]
          by_cases c2 : (spanK m (b.extract s.pos b.size)).2.2 = 0
          · simp only [c2, if_true]
          · simp only [c2, if_false]
        · rw [if_neg c1, if_neg c1]
      rw [e0] at he h1
      exact ⟨he, h1, h2⟩
  generalize textR b m s = r at *
  clear q1 q2 hl hk hsz hs
  go_enter Tryz.func114, Tryz.ntmps114
  go_wp2_with fail
  refine HT.out.mono ?_
  rintro e w' ⟨rfl, h1, h2⟩
  go_wp2_with fail
  go_ret
  exact ⟨rfl, h1, (But.alloc (But.refl _ _) _).trans h2⟩

theorem Rest_calls {b : ByteArray} {s : RS} {rb : Nat} {w : World} (h : Rd w rb b s) :
    Calls Tryz.prog 109 #[.pointer (some ⟨rb, 0, none⟩)] w fun e w' => e = .returned (.string (restR b s).1) ∧ Rd w' rb b (restR b s).2 ∧ But rb w w' := by
  have hl := extract_eq b s.pos h.inb
  have hk := h.inb
  have HT : Hid (Calls Tryz.prog 145 #[.pointer (some ⟨rb, 0, none⟩), .func (.func 146) #[] #[]] w
      fun e w' => e = .returned (.string (restR b s).1) ∧ Rd w' rb b (restR b s).2 ∧ But rb w w') := by
    refine (takeR_calls h (.string (b.extract s.pos b.size)) (b.size - s.pos) 0 (fun _ _ => by omega) (fun n => ?_)).mono ?_
    · have := restK_calls (b.extract s.pos b.size) (w.drewN n)
      rw [hl] at this
      exact this
    · rintro e w' ⟨he, h1, h2⟩
      have e0 : (takeR (Value.string ⟨#[]⟩) s (.string (b.extract s.pos b.size)) (b.size - s.pos) 0) = (.string (restR b s).1, (restR b s).2) := by
        unfold takeR restR
        by_cases c1 : s.err = 0
        · rw [if_pos c1, if_pos c1, if_pos rfl, show s.pos + (b.size - s.pos) = b.size by omega]
        · rw [if_neg c1, if_neg c1]
      rw [e0] at he h1
      exact ⟨he, h1, h2⟩
  generalize restR b s = r at *
  clear hl hk
  go_enter Tryz.func109, Tryz.ntmps109
  go_wp2_with fail
  refine HT.out.mono ?_
  rintro e w' ⟨rfl, h1, h2⟩
  go_wp2_with fail
  go_ret
  exact ⟨rfl, h1, h2⟩

theorem Done_calls {b : ByteArray} {s : RS} {rb : Nat} {w : World} (h : Rd w rb b s) :
    Calls Tryz.prog 60 #[.pointer (some ⟨rb, 0, none⟩)] w fun e w' => e = .returned (.int .i64 (doneR b s)) ∧ Below w.heap.size w w' := by
  obtain ⟨p, er⟩ := s
  obtain ⟨hb, hp, hs⟩ := h
  have c0 := hb.cell 0
  have c1 := hb.cell 1
  have c2 := hb.cell 2
  simp at c0 c1 c2 hp
  unfold doneR
  simp only
  by_cases h0 : er = 0
  · subst h0
    rw [if_pos rfl]
    by_cases hl : p < b.size
    · rw [if_pos hl]
      go_enter Tryz.func60, Tryz.ntmps60
      go_wp2_with fail
      go_quiet (fail)
      go_wp2_with fail
      go_ret
      exact ⟨rfl, (Below.refl _ _).drawn _⟩
    · rw [if_neg hl]
      go_enter Tryz.func60, Tryz.ntmps60
      go_wp2_with fail
      go_quiet (fail)
      go_wp2_with fail
      go_ret
      exact ⟨rfl, (Below.refl _ _).drawn _⟩
  · rw [if_neg h0]
    have et : (er != 0) = true := by rw [bne_iff_ne]; exact h0
    clear h0
    go_enter Tryz.func60, Tryz.ntmps60
    go_wp2_with fail
    go_ret
    exact ⟨rfl, Below.refl _ _⟩
theorem Read_calls (b : ByteArray) (w : World) (hs : b.size ≤ 140737488355328) :
    Calls Tryz.prog 58 #[.string b] w fun e w' => e = .returned (.pointer (some ⟨w.heap.size, 0, none⟩)) ∧ Rd w' w.heap.size b ⟨0, 0⟩ ∧ Below w.heap.size w w' := by
  go_enter Tryz.func58, Tryz.ntmps58
  go_wp2_with fail
  go_ret
  exact ⟨rfl, ⟨Blk.new w _ _, by simp, hs⟩, (Below.refl _ _).alloc (Nat.le_refl _) _⟩
end Go.Proofs.YtfoihafhpmbaeaaGreatDoor

/- What tenants ask, taken: cancels, schemas. -/
namespace Go.Proofs.YtfoihafhpmbaeaaGreatDoor
open Go.RowKit

def takeCancelS (b : ByteArray) : Int × Int :=
  let r := numR b ⟨0, 0⟩
  if doneR b r.2 = 0 then (r.1, 0) else (0, 1)

theorem TakeCancel_calls (b : ByteArray) (w : World) (hs : b.size ≤ 140737488355328) :
    Calls Tryz.prog 24 #[.string b] w fun e w' => e = .returned (.tuple #[.int .u64 (takeCancelS b).1, .int .i64 (takeCancelS b).2]) ∧ Below w.heap.size w w' := by
  obtain ⟨R, hR⟩ : ∃ R, takeCancelS b = R := ⟨_, rfl⟩
  rw [hR]
  unfold takeCancelS at hR
  have HN : Hid (∀ W rb, Rd W rb b ⟨0, 0⟩ → Calls Tryz.prog 59 #[.pointer (some ⟨rb, 0, none⟩)] W fun e w' => e = .returned (.int .u64 (numR b ⟨0, 0⟩).1) ∧ Rd w' rb b (numR b ⟨0, 0⟩).2 ∧ But rb W w') := fun W rb h => Num_calls h
  generalize numR b ⟨0, 0⟩ = r at *
  obtain ⟨n, s⟩ := r
  simp only at HN hR
  have HD : Hid (∀ W rb, Rd W rb b s → Calls Tryz.prog 60 #[.pointer (some ⟨rb, 0, none⟩)] W fun e w' => e = .returned (.int .i64 (doneR b s)) ∧ Below W.heap.size W w') := fun W rb h => Done_calls h
  generalize doneR b s = d at *
  by_cases hd : d = 0
  all_goals
    first | rw [if_pos hd] at hR | rw [if_neg hd] at hR
    subst hR
    first
      | subst hd
      | (have hd2 : (d != 0) = true := by rw [bne_iff_ne]; exact hd
         clear hd)
    go_enter Tryz.func24, Tryz.ntmps24
    go_wp2_with fail
    refine (Read_calls b w hs).mono ?_
    rintro e w1 ⟨rfl, h1, B1⟩
    go_wp2_with fail
    refine (HN.out _ _ h1).mono ?_
    rintro e w2 ⟨rfl, h2, G2⟩
    go_wp2_with fail
    refine (HD.out _ _ h2).mono ?_
    rintro e w3 ⟨rfl, B3⟩
    have BB : Below w.heap.size w w3 := (B1.trans (G2.toBelow (Nat.le_refl _) B1.size)).up B3 (Nat.le_trans B1.size G2.size)
    go_wp2_with fail
    go_ret2
    exact ⟨rfl, BB⟩

def takeSchemaS (b : ByteArray) : Int × ByteArray × Int :=
  let r := numR b ⟨0, 0⟩
  let q := restR b r.2
  if doneR b q.2 = 0 then (r.1, q.1, 0) else (0, ⟨#[]⟩, 1)

theorem TakeSchema_calls (b : ByteArray) (w : World) (hs : b.size ≤ 140737488355328) :
    Calls Tryz.prog 85 #[.string b] w fun e w' => e = .returned (.tuple #[.int .u64 (takeSchemaS b).1, .string (takeSchemaS b).2.1, .int .i64 (takeSchemaS b).2.2]) ∧ Below w.heap.size w w' := by
  obtain ⟨R, hR⟩ : ∃ R, takeSchemaS b = R := ⟨_, rfl⟩
  rw [hR]
  unfold takeSchemaS at hR
  have HN : Hid (∀ W rb, Rd W rb b ⟨0, 0⟩ → Calls Tryz.prog 59 #[.pointer (some ⟨rb, 0, none⟩)] W fun e w' => e = .returned (.int .u64 (numR b ⟨0, 0⟩).1) ∧ Rd w' rb b (numR b ⟨0, 0⟩).2 ∧ But rb W w') := fun W rb h => Num_calls h
  generalize numR b ⟨0, 0⟩ = r at *
  obtain ⟨n, s⟩ := r
  simp only at HN hR
  have HT : Hid (∀ W rb, Rd W rb b s → Calls Tryz.prog 109 #[.pointer (some ⟨rb, 0, none⟩)] W fun e w' => e = .returned (.string (restR b s).1) ∧ Rd w' rb b (restR b s).2 ∧ But rb W w') := fun W rb h => Rest_calls h
  generalize restR b s = r at *
  obtain ⟨t, s⟩ := r
  simp only at HT hR
  have HD : Hid (∀ W rb, Rd W rb b s → Calls Tryz.prog 60 #[.pointer (some ⟨rb, 0, none⟩)] W fun e w' => e = .returned (.int .i64 (doneR b s)) ∧ Below W.heap.size W w') := fun W rb h => Done_calls h
  generalize doneR b s = d at *
  by_cases hd : d = 0
  all_goals
    first | rw [if_pos hd] at hR | rw [if_neg hd] at hR
    subst hR
    first
      | subst hd
      | (have hd2 : (d != 0) = true := by rw [bne_iff_ne]; exact hd
         clear hd)
    go_enter Tryz.func85, Tryz.ntmps85
    go_wp2_with fail
    refine (Read_calls b w hs).mono ?_
    rintro e w1 ⟨rfl, h1, B1⟩
    go_wp2_with fail
    refine (HN.out _ _ h1).mono ?_
    rintro e w2 ⟨rfl, h2, G2⟩
    go_wp2_with fail
    refine (HT.out _ _ h2).mono ?_
    rintro e w3 ⟨rfl, h3, G3⟩
    go_wp2_with fail
    refine (HD.out _ _ h3).mono ?_
    rintro e w4 ⟨rfl, B4⟩
    have G23 := G2.trans G3
    have BB : Below w.heap.size w w4 := (B1.trans (G23.toBelow (Nat.le_refl _) B1.size)).up B4 (Nat.le_trans B1.size G23.size)
    go_wp2_with fail
    go_ret3
    exact ⟨rfl, BB⟩
end Go.Proofs.YtfoihafhpmbaeaaGreatDoor

/- What tenants ask, taken: calls, bound methods. -/
namespace Go.Proofs.YtfoihafhpmbaeaaGreatDoor
open Go.RowKit

theorem endW {P : Program} {fn : Func} {R : Ending → World → Prop} {x : Exit} {a : Act} {W : World} (I : World → Prop) (hI : I W) (h : ∀ W', I W' → bodyPost P fn R x a W') : bodyPost P fn R x a W := h W hI

theorem Read_at (b : ByteArray) (w : World) (n : Nat) (hn : w.heap.size = n) (hs : b.size ≤ 140737488355328) :
    Calls Tryz.prog 58 #[.string b] w fun e w' => e = .returned (.pointer (some ⟨n, 0, none⟩)) ∧ Rd w' n b ⟨0, 0⟩ ∧ Below n w w' := by
  subst hn; exact Read_calls b w hs

/-- the cells of a call -/
structure CallC where
  id : Int
  wait : Int
  num : Int
  args : ByteArray
def CallC.cells (c : CallC) : List Value := [.int .u64 c.id, .int .i64 c.wait, .int .i64 c.num, .string c.args]
def takeCallS (b : ByteArray) : CallC × Int :=
  let r := numR b ⟨0, 0⟩
  let u := intR b 1048576 r.2
  let v := intR b 1048576 u.2
  let q := restR b v.2
  if doneR b q.2 = 0 then (⟨r.1, u.1, v.1, q.1⟩, 0) else (⟨0, 0, 0, ⟨#[]⟩⟩, 1)

set_option maxHeartbeats 400000 in
theorem TakeCall_calls (b : ByteArray) (w : World) (hs : b.size ≤ 140737488355328) :
    Calls Tryz.prog 91 #[.string b] w fun e w' => e = .returned (.tuple #[.agg (takeCallS b).1.cells.toArray, .int .i64 (takeCallS b).2]) ∧ Below w.heap.size w w' := by
  obtain ⟨R, hR⟩ : ∃ R, takeCallS b = R := ⟨_, rfl⟩
  rw [hR]
  unfold takeCallS at hR
  have H1 : Hid (∀ W rb, Rd W rb b ⟨0, 0⟩ → Calls Tryz.prog 59 #[.pointer (some ⟨rb, 0, none⟩)] W fun e w' => e = .returned (.int .u64 (numR b ⟨0, 0⟩).1) ∧ Rd w' rb b (numR b ⟨0, 0⟩).2 ∧ But rb W w') := fun W rb h => Num_calls h
  generalize numR b ⟨0, 0⟩ = r1 at *
  obtain ⟨x1, s1⟩ := r1
  simp only at H1 hR
  have H2 : Hid (∀ W rb, Rd W rb b s1 → Calls Tryz.prog 115 #[.pointer (some ⟨rb, 0, none⟩), .int .i64 1048576] W fun e w' => e = .returned (.int .i64 (intR b 1048576 s1).1) ∧ Rd w' rb b (intR b 1048576 s1).2 ∧ But rb W w') := fun W rb h => Int_calls 1048576 (by decide) (by decide) h
  generalize intR b 1048576 s1 = r2 at *
  obtain ⟨x2, s2⟩ := r2
  simp only at H2 hR
  have H3 : Hid (∀ W rb, Rd W rb b s2 → Calls Tryz.prog 115 #[.pointer (some ⟨rb, 0, none⟩), .int .i64 1048576] W fun e w' => e = .returned (.int .i64 (intR b 1048576 s2).1) ∧ Rd w' rb b (intR b 1048576 s2).2 ∧ But rb W w') := fun W rb h => Int_calls 1048576 (by decide) (by decide) h
  generalize intR b 1048576 s2 = r3 at *
  obtain ⟨x3, s3⟩ := r3
  simp only at H3 hR
  have H4 : Hid (∀ W rb, Rd W rb b s3 → Calls Tryz.prog 109 #[.pointer (some ⟨rb, 0, none⟩)] W fun e w' => e = .returned (.string (restR b s3).1) ∧ Rd w' rb b (restR b s3).2 ∧ But rb W w') := fun W rb h => Rest_calls h
  generalize restR b s3 = r4 at *
  obtain ⟨x4, s4⟩ := r4
  simp only at H4 hR
  have HD : Hid (∀ W rb, Rd W rb b s4 → Calls Tryz.prog 60 #[.pointer (some ⟨rb, 0, none⟩)] W fun e w' => e = .returned (.int .i64 (doneR b s4)) ∧ Below W.heap.size W w') := fun W rb h => Done_calls h
  generalize doneR b s4 = d at *
  by_cases hd : d = 0
  · rw [if_pos hd] at hR
    subst hR
    subst hd
    go_enter Tryz.func91, Tryz.ntmps91
    go_wp2_with fail
    have R0 := Blk.new w [.int .u64 0, .int .i64 0, .int .i64 0, .string ⟨#[]⟩] 82
    refine (Read_at b _ (w.heap.size + 1) (by simp) hs).mono ?_
    rintro e w1 ⟨rfl, h1, B1⟩
    go_wp2_with fail
    refine (H1.out _ _ h1).mono ?_
    rintro e w2 ⟨rfl, h2, G2⟩
    go_wp2_with fail
    refine (H2.out _ _ h2).mono ?_
    rintro e w3 ⟨rfl, h3, G3⟩
    go_wp2_with fail
    refine (H3.out _ _ h3).mono ?_
    rintro e w4 ⟨rfl, h4, G4⟩
    go_wp2_with fail
    refine (H4.out _ _ h4).mono ?_
    rintro e w5 ⟨rfl, h5, G5⟩
    have GG := ((G2.trans G3).trans G4).trans G5
    have l5 := h5.blk.lt
    go_wp2_with fail
    obtain ⟨W5, hW5⟩ : ∃ W, w5.alloc (.cells #[.int .u64 x1, .int .i64 x2, .int .i64 x3, .string x4] 82) = W := ⟨_, rfl⟩
    have C5 : Blk W5 w5.heap.size [.int .u64 x1, .int .i64 x2, .int .i64 x3, .string x4] 82 := hW5 ▸ Blk.new w5 _ _
    have h6 : Rd W5 (w.heap.size + 1) b s4 := hW5 ▸ h5.keep (Below.heap_alloc _ _ _ l5)
    have B5 : Below (w.heap.size + 1) (w.alloc (.cells #[.int .u64 0, .int .i64 0, .int .i64 0, .string ⟨#[]⟩] 82)) W5 := by
      subst hW5
      have z1 := B1.size
      simp at z1
      exact (B1.trans (GG.toBelow (Nat.le_refl _) z1)).alloc (by omega) _
    rw [hW5]
    refine (HD.out _ _ h6).mono ?_
    rintro e w6 ⟨rfl, B6⟩
    have B7 := B5.up B6 (by have := h6.blk.lt; omega)
    have R6 := R0.below B7 (Nat.lt_succ_self _)
    have C6 := C5.below B6 C5.lt
    have c0 := C6.cell 0
    have c1 := C6.cell 1
    have c2 := C6.cell 2
    have c3 := C6.cell 3
    have r0 := R6.cell 0
    have r1 := R6.cell 1
    have r2 := R6.cell 2
    have r3 := R6.cell 3
    have f0 := R6.free 0
    have f1 := R6.free 1
    have f2 := R6.free 2
    have f3 := R6.free 3
    have lr := R6.lt
    have hne : w.heap.size ≠ w5.heap.size := by omega
    simp at c0 c1 c2 c3 r0 r1 r2 r3
    go_wp2_with fail
    refine endW (fun W => Below w.heap.size w W ∧ Blk W w.heap.size [.int .u64 x1, .int .i64 x2, .int .i64 x3, .string x4] 82) ?_ ?_
    · exact ⟨((((B7.pop.setCell (p := ⟨w.heap.size, 0, none⟩) (Nat.le_refl _) _).setCell (p := ⟨w.heap.size, 1, none⟩) (Nat.le_refl _) _).setCell (p := ⟨w.heap.size, 2, none⟩) (Nat.le_refl _) _).setCell (p := ⟨w.heap.size, 3, none⟩) (Nat.le_refl _) _), (((R6.set 0 _).set 1 _).set 2 _).set 3 _⟩
    rintro W ⟨hB, hX⟩
    have q0 := hX.cell 0
    have q1 := hX.cell 1
    have q2 := hX.cell 2
    have q3 := hX.cell 3
    simp at q0 q1 q2 q3
    refine bodyPost_ret (v := .tuple #[.agg #[.int .u64 x1, .int .i64 x2, .int .i64 x3, .string x4], .int .i64 0]) (by simp [results, Tryz.results91, go_sem, q0, q1, q2, q3]) rfl ⟨rfl, hB⟩
  · rw [if_neg hd] at hR
    subst hR
    have hd2 : (d != 0) = true := by rw [bne_iff_ne]; exact hd
    clear hd
    go_enter Tryz.func91, Tryz.ntmps91
    go_wp2_with fail
    have R0 := Blk.new w [.int .u64 0, .int .i64 0, .int .i64 0, .string ⟨#[]⟩] 82
    refine (Read_at b _ (w.heap.size + 1) (by simp) hs).mono ?_
    rintro e w1 ⟨rfl, h1, B1⟩
    go_wp2_with fail
    refine (H1.out _ _ h1).mono ?_
    rintro e w2 ⟨rfl, h2, G2⟩
    go_wp2_with fail
    refine (H2.out _ _ h2).mono ?_
    rintro e w3 ⟨rfl, h3, G3⟩
    go_wp2_with fail
    refine (H3.out _ _ h3).mono ?_
    rintro e w4 ⟨rfl, h4, G4⟩
    go_wp2_with fail
    refine (H4.out _ _ h4).mono ?_
    rintro e w5 ⟨rfl, h5, G5⟩
    have GG := ((G2.trans G3).trans G4).trans G5
    have l5 := h5.blk.lt
    go_wp2_with fail
    obtain ⟨W5, hW5⟩ : ∃ W, w5.alloc (.cells #[.int .u64 x1, .int .i64 x2, .int .i64 x3, .string x4] 82) = W := ⟨_, rfl⟩
    have C5 : Blk W5 w5.heap.size [.int .u64 x1, .int .i64 x2, .int .i64 x3, .string x4] 82 := hW5 ▸ Blk.new w5 _ _
    have h6 : Rd W5 (w.heap.size + 1) b s4 := hW5 ▸ h5.keep (Below.heap_alloc _ _ _ l5)
    have B5 : Below (w.heap.size + 1) (w.alloc (.cells #[.int .u64 0, .int .i64 0, .int .i64 0, .string ⟨#[]⟩] 82)) W5 := by
      subst hW5
      have z1 := B1.size
      simp at z1
      exact (B1.trans (GG.toBelow (Nat.le_refl _) z1)).alloc (by omega) _
    rw [hW5]
    refine (HD.out _ _ h6).mono ?_
    rintro e w6 ⟨rfl, B6⟩
    have B7 := B5.up B6 (by have := h6.blk.lt; omega)
    have R6 := R0.below B7 (Nat.lt_succ_self _)
    have C6 := C5.below B6 C5.lt
    have c0 := C6.cell 0
    have c1 := C6.cell 1
    have c2 := C6.cell 2
    have c3 := C6.cell 3
    have r0 := R6.cell 0
    have r1 := R6.cell 1
    have r2 := R6.cell 2
    have r3 := R6.cell 3
    have f0 := R6.free 0
    have f1 := R6.free 1
    have f2 := R6.free 2
    have f3 := R6.free 3
    have lr := R6.lt
    have hne : w.heap.size ≠ w5.heap.size := by omega
    simp at c0 c1 c2 c3 r0 r1 r2 r3
    go_wp2_with fail
    refine endW (fun W => Below w.heap.size w W ∧ Blk W w.heap.size [.int .u64 0, .int .i64 0, .int .i64 0, .string ⟨#[]⟩] 82) ?_ ?_
    · exact ⟨((((B7.pop.setCell (p := ⟨w.heap.size, 0, none⟩) (Nat.le_refl _) _).setCell (p := ⟨w.heap.size, 1, none⟩) (Nat.le_refl _) _).setCell (p := ⟨w.heap.size, 2, none⟩) (Nat.le_refl _) _).setCell (p := ⟨w.heap.size, 3, none⟩) (Nat.le_refl _) _), (((R6.set 0 _).set 1 _).set 2 _).set 3 _⟩
    rintro W ⟨hB, hX⟩
    have q0 := hX.cell 0
    have q1 := hX.cell 1
    have q2 := hX.cell 2
    have q3 := hX.cell 3
    simp at q0 q1 q2 q3
    refine bodyPost_ret (v := .tuple #[.agg #[.int .u64 0, .int .i64 0, .int .i64 0, .string ⟨#[]⟩], .int .i64 1]) (by simp [results, Tryz.results91, go_sem, q0, q1, q2, q3]) rfl ⟨rfl, hB⟩
end Go.Proofs.YtfoihafhpmbaeaaGreatDoor

/- Bound methods, taken. -/
namespace Go.Proofs.YtfoihafhpmbaeaaGreatDoor
open Go.RowKit

/-- the cells of a method that is to be bound -/
structure BindC where
  id : Int
  num : Int
  service : ByteArray
  method : ByteArray
  op : Int
def BindC.cells (c : BindC) : List Value := [.int .u64 c.id, .int .i64 c.num, .string c.service, .string c.method, .int .i64 c.op]
def takeBindS (b : ByteArray) : BindC × Int :=
  let r := numR b ⟨0, 0⟩
  let u := intR b 1048576 r.2
  let v := textR b 16 u.2
  let x := textR b 16 v.2
  let q := intR b 1048576 x.2
  if doneR b q.2 = 0 then (⟨r.1, u.1, v.1, x.1, q.1⟩, 0) else (⟨0, 0, ⟨#[]⟩, ⟨#[]⟩, 0⟩, 1)

set_option maxHeartbeats 600000 in
theorem TakeBind_calls (b : ByteArray) (w : World) (hs : b.size ≤ 140737488355328) :
    Calls Tryz.prog 88 #[.string b] w fun e w' => e = .returned (.tuple #[.agg (takeBindS b).1.cells.toArray, .int .i64 (takeBindS b).2]) ∧ Below w.heap.size w w' := by
  obtain ⟨R, hR⟩ : ∃ R, takeBindS b = R := ⟨_, rfl⟩
  rw [hR]
  unfold takeBindS at hR
  have H1 : Hid (∀ W rb, Rd W rb b ⟨0, 0⟩ → Calls Tryz.prog 59 #[.pointer (some ⟨rb, 0, none⟩)] W fun e w' => e = .returned (.int .u64 (numR b ⟨0, 0⟩).1) ∧ Rd w' rb b (numR b ⟨0, 0⟩).2 ∧ But rb W w') := fun W rb h => Num_calls h
  generalize numR b ⟨0, 0⟩ = r1 at *
  obtain ⟨x1, s1⟩ := r1
  simp only at H1 hR
  have H2 : Hid (∀ W rb, Rd W rb b s1 → Calls Tryz.prog 115 #[.pointer (some ⟨rb, 0, none⟩), .int .i64 1048576] W fun e w' => e = .returned (.int .i64 (intR b 1048576 s1).1) ∧ Rd w' rb b (intR b 1048576 s1).2 ∧ But rb W w') := fun W rb h => Int_calls 1048576 (by decide) (by decide) h
  generalize intR b 1048576 s1 = r2 at *
  obtain ⟨x2, s2⟩ := r2
  simp only at H2 hR
  have H3 : Hid (∀ W rb, Rd W rb b s2 → Calls Tryz.prog 114 #[.pointer (some ⟨rb, 0, none⟩), .int .i64 16] W fun e w' => e = .returned (.string (textR b 16 s2).1) ∧ Rd w' rb b (textR b 16 s2).2 ∧ But rb W w') := fun W rb h => Text_calls 16 (by decide) (by decide) h
  generalize textR b 16 s2 = r3 at *
  obtain ⟨x3, s3⟩ := r3
  simp only at H3 hR
  have H4 : Hid (∀ W rb, Rd W rb b s3 → Calls Tryz.prog 114 #[.pointer (some ⟨rb, 0, none⟩), .int .i64 16] W fun e w' => e = .returned (.string (textR b 16 s3).1) ∧ Rd w' rb b (textR b 16 s3).2 ∧ But rb W w') := fun W rb h => Text_calls 16 (by decide) (by decide) h
  generalize textR b 16 s3 = r4 at *
  obtain ⟨x4, s4⟩ := r4
  simp only at H4 hR
  have H5 : Hid (∀ W rb, Rd W rb b s4 → Calls Tryz.prog 115 #[.pointer (some ⟨rb, 0, none⟩), .int .i64 1048576] W fun e w' => e = .returned (.int .i64 (intR b 1048576 s4).1) ∧ Rd w' rb b (intR b 1048576 s4).2 ∧ But rb W w') := fun W rb h => Int_calls 1048576 (by decide) (by decide) h
  generalize intR b 1048576 s4 = r5 at *
  obtain ⟨x5, s5⟩ := r5
  simp only at H5 hR
  have HD : Hid (∀ W rb, Rd W rb b s5 → Calls Tryz.prog 60 #[.pointer (some ⟨rb, 0, none⟩)] W fun e w' => e = .returned (.int .i64 (doneR b s5)) ∧ Below W.heap.size W w') := fun W rb h => Done_calls h
  generalize doneR b s5 = d at *
  by_cases hd : d = 0
  · rw [if_pos hd] at hR
    subst hR
    subst hd
    go_enter Tryz.func88, Tryz.ntmps88
    go_wp2_with fail
    have R0 := Blk.new w [.int .u64 0, .int .i64 0, .string ⟨#[]⟩, .string ⟨#[]⟩, .int .i64 0] 191
    refine (Read_at b _ (w.heap.size + 1) (by simp) hs).mono ?_
    rintro e w1 ⟨rfl, h1, B1⟩
    go_wp2_with fail
    refine (H1.out _ _ h1).mono ?_
    rintro e w2 ⟨rfl, h2, G2⟩
    go_wp2_with fail
    refine (H2.out _ _ h2).mono ?_
    rintro e w3 ⟨rfl, h3, G3⟩
    go_wp2_with fail
    refine (H3.out _ _ h3).mono ?_
    rintro e w4 ⟨rfl, h4, G4⟩
    go_wp2_with fail
    refine (H4.out _ _ h4).mono ?_
    rintro e w5 ⟨rfl, h5, G5⟩
    go_wp2_with fail
    refine (H5.out _ _ h5).mono ?_
    rintro e w6 ⟨rfl, h5, G6⟩
    have GG := (((G2.trans G3).trans G4).trans G5).trans G6
    have l5 := h5.blk.lt
    go_wp2_with fail
    obtain ⟨W5, hW5⟩ : ∃ W, w6.alloc (.cells #[.int .u64 x1, .int .i64 x2, .string x3, .string x4, .int .i64 x5] 191) = W := ⟨_, rfl⟩
    have C5 : Blk W5 w6.heap.size [.int .u64 x1, .int .i64 x2, .string x3, .string x4, .int .i64 x5] 191 := hW5 ▸ Blk.new w6 _ _
    have h6 : Rd W5 (w.heap.size + 1) b s5 := hW5 ▸ h5.keep (Below.heap_alloc _ _ _ l5)
    have B5 : Below (w.heap.size + 1) (w.alloc (.cells #[.int .u64 0, .int .i64 0, .string ⟨#[]⟩, .string ⟨#[]⟩, .int .i64 0] 191)) W5 := by
      subst hW5
      have z1 := B1.size
      simp at z1
      exact (B1.trans (GG.toBelow (Nat.le_refl _) z1)).alloc (by omega) _
    rw [hW5]
    refine (HD.out _ _ h6).mono ?_
    rintro e w7 ⟨rfl, B6⟩
    have B7 := B5.up B6 (by have := h6.blk.lt; omega)
    have R6 := R0.below B7 (Nat.lt_succ_self _)
    have C6 := C5.below B6 C5.lt
    have c0 := C6.cell 0
    have c1 := C6.cell 1
    have c2 := C6.cell 2
    have c3 := C6.cell 3
    have c4 := C6.cell 4
    have r0 := R6.cell 0
    have r1 := R6.cell 1
    have r2 := R6.cell 2
    have r3 := R6.cell 3
    have r4 := R6.cell 4
    have f0 := R6.free 0
    have f1 := R6.free 1
    have f2 := R6.free 2
    have f3 := R6.free 3
    have f4 := R6.free 4
    have lr := R6.lt
    have hne : w.heap.size ≠ w6.heap.size := by omega
    simp at c0 c1 c2 c3 c4 r0 r1 r2 r3 r4
    go_wp2_with fail
    refine endW (fun W => Below w.heap.size w W ∧ Blk W w.heap.size [.int .u64 x1, .int .i64 x2, .string x3, .string x4, .int .i64 x5] 191) ?_ ?_
    · exact ⟨(((((B7.pop.setCell (p := ⟨w.heap.size, 0, none⟩) (Nat.le_refl _) _).setCell (p := ⟨w.heap.size, 1, none⟩) (Nat.le_refl _) _).setCell (p := ⟨w.heap.size, 2, none⟩) (Nat.le_refl _) _).setCell (p := ⟨w.heap.size, 3, none⟩) (Nat.le_refl _) _).setCell (p := ⟨w.heap.size, 4, none⟩) (Nat.le_refl _) _), ((((R6.set 0 _).set 1 _).set 2 _).set 3 _).set 4 _⟩
    rintro W ⟨hB, hX⟩
    have q0 := hX.cell 0
    have q1 := hX.cell 1
    have q2 := hX.cell 2
    have q3 := hX.cell 3
    have q4 := hX.cell 4
    simp at q0 q1 q2 q3 q4
    refine bodyPost_ret (v := .tuple #[.agg #[.int .u64 x1, .int .i64 x2, .string x3, .string x4, .int .i64 x5], .int .i64 0]) (by simp [results, Tryz.results88, go_sem, q0, q1, q2, q3, q4]) rfl ⟨rfl, hB⟩
  · rw [if_neg hd] at hR
    subst hR
    have hd2 : (d != 0) = true := by rw [bne_iff_ne]; exact hd
    clear hd
    go_enter Tryz.func88, Tryz.ntmps88
    go_wp2_with fail
    have R0 := Blk.new w [.int .u64 0, .int .i64 0, .string ⟨#[]⟩, .string ⟨#[]⟩, .int .i64 0] 191
    refine (Read_at b _ (w.heap.size + 1) (by simp) hs).mono ?_
    rintro e w1 ⟨rfl, h1, B1⟩
    go_wp2_with fail
    refine (H1.out _ _ h1).mono ?_
    rintro e w2 ⟨rfl, h2, G2⟩
    go_wp2_with fail
    refine (H2.out _ _ h2).mono ?_
    rintro e w3 ⟨rfl, h3, G3⟩
    go_wp2_with fail
    refine (H3.out _ _ h3).mono ?_
    rintro e w4 ⟨rfl, h4, G4⟩
    go_wp2_with fail
    refine (H4.out _ _ h4).mono ?_
    rintro e w5 ⟨rfl, h5, G5⟩
    go_wp2_with fail
    refine (H5.out _ _ h5).mono ?_
    rintro e w6 ⟨rfl, h5, G6⟩
    have GG := (((G2.trans G3).trans G4).trans G5).trans G6
    have l5 := h5.blk.lt
    go_wp2_with fail
    obtain ⟨W5, hW5⟩ : ∃ W, w6.alloc (.cells #[.int .u64 x1, .int .i64 x2, .string x3, .string x4, .int .i64 x5] 191) = W := ⟨_, rfl⟩
    have C5 : Blk W5 w6.heap.size [.int .u64 x1, .int .i64 x2, .string x3, .string x4, .int .i64 x5] 191 := hW5 ▸ Blk.new w6 _ _
    have h6 : Rd W5 (w.heap.size + 1) b s5 := hW5 ▸ h5.keep (Below.heap_alloc _ _ _ l5)
    have B5 : Below (w.heap.size + 1) (w.alloc (.cells #[.int .u64 0, .int .i64 0, .string ⟨#[]⟩, .string ⟨#[]⟩, .int .i64 0] 191)) W5 := by
      subst hW5
      have z1 := B1.size
      simp at z1
      exact (B1.trans (GG.toBelow (Nat.le_refl _) z1)).alloc (by omega) _
    rw [hW5]
    refine (HD.out _ _ h6).mono ?_
    rintro e w7 ⟨rfl, B6⟩
    have B7 := B5.up B6 (by have := h6.blk.lt; omega)
    have R6 := R0.below B7 (Nat.lt_succ_self _)
    have C6 := C5.below B6 C5.lt
    have c0 := C6.cell 0
    have c1 := C6.cell 1
    have c2 := C6.cell 2
    have c3 := C6.cell 3
    have c4 := C6.cell 4
    have r0 := R6.cell 0
    have r1 := R6.cell 1
    have r2 := R6.cell 2
    have r3 := R6.cell 3
    have r4 := R6.cell 4
    have f0 := R6.free 0
    have f1 := R6.free 1
    have f2 := R6.free 2
    have f3 := R6.free 3
    have f4 := R6.free 4
    have lr := R6.lt
    have hne : w.heap.size ≠ w6.heap.size := by omega
    simp at c0 c1 c2 c3 c4 r0 r1 r2 r3 r4
    go_wp2_with fail
    refine endW (fun W => Below w.heap.size w W ∧ Blk W w.heap.size [.int .u64 0, .int .i64 0, .string ⟨#[]⟩, .string ⟨#[]⟩, .int .i64 0] 191) ?_ ?_
    · exact ⟨(((((B7.pop.setCell (p := ⟨w.heap.size, 0, none⟩) (Nat.le_refl _) _).setCell (p := ⟨w.heap.size, 1, none⟩) (Nat.le_refl _) _).setCell (p := ⟨w.heap.size, 2, none⟩) (Nat.le_refl _) _).setCell (p := ⟨w.heap.size, 3, none⟩) (Nat.le_refl _) _).setCell (p := ⟨w.heap.size, 4, none⟩) (Nat.le_refl _) _), ((((R6.set 0 _).set 1 _).set 2 _).set 3 _).set 4 _⟩
    rintro W ⟨hB, hX⟩
    have q0 := hX.cell 0
    have q1 := hX.cell 1
    have q2 := hX.cell 2
    have q3 := hX.cell 3
    have q4 := hX.cell 4
    simp at q0 q1 q2 q3 q4
    refine bodyPost_ret (v := .tuple #[.agg #[.int .u64 0, .int .i64 0, .string ⟨#[]⟩, .string ⟨#[]⟩, .int .i64 0], .int .i64 1]) (by simp [results, Tryz.results88, go_sem, q0, q1, q2, q3, q4]) rfl ⟨rfl, hB⟩
end Go.Proofs.YtfoihafhpmbaeaaGreatDoor
