/- The cache of responses. -/
import Derived.Deep.AppendSrc
import Derived.Outline
import Derived.StillTailTactics
import Derived.Test.YtfoihafhpmbaeaaGreatDoorG08
namespace Go.Proofs.YtfoihafhpmbaeaaGreatDoor
open Go.RowKit

theorem wpList_append_run {P : Program} {w : World} {ops : Array Oper} {rest : List Oper} {o : Oper} {a : Act} {Q : Exit → Act → World → Prop} (hgd : o.guard = none) (s x : Operand) (t : TypeId)
    (ho : o.op = .call { callee := .builtin .append, args := #[s, x], argTypes := #[t, t] }) {u1 u2 v : Value} {w' : World} (h1 : a.eval s = u1) (h2 : a.eval x = u2)
    (hrun : (Builtin.append_ #[t, t] o.type #[u1, u2]).run P w = .ok v w') (hK : wpList P ops Q rest (a.put o.dst v) w') : wpList P ops Q (o :: rest) a w := by
  refine wpList_plain hgd fun K' hK' => ?_
  unfold Oper.wp execOp
  simp only [ho, resolve, invoke, builtin, Sem.run_bind, Sem.run_pure, Result.andThen_ok, List.map_toArray, List.map_cons, List.map_nil, h1, h2, hrun]
  exact hK' _ _ hK

def ringCells (l : List (Int × ByteArray)) : List Value := l.flatMap fun k => [.int .u64 k.1, .string k.2]
/-- a cache inside block x -/
structure CacheAt (w : World) (x : Nat) (ring : List (Int × ByteArray)) (next n : Nat) : Prop where
  len : ring.length = 8
  cells : cellsAt w x 10 (ringCells ring)
  cnext : w.cell? ⟨x, 26, none⟩ = some (.int .i64 next)
  cn : w.cell? ⟨x, 27, none⟩ = some (.int .i64 n)
  lt : x < w.heap.size
  nle : n ≤ 8
  nextle : next ≤ 7

theorem info_kept : (Tryz.prog.info? 65).map (fun i => (i.zero, i.size, i.bytes)) = some (some (.agg #[.int .u64 0, .string ⟨#[]⟩]), 2, 24) := by kernel_rfl

def RKept (k : Int × ByteArray) (cs : List Value) : Prop := cs = [.int .u64 k.1, .string k.2]
/-- the responses, in the order in which they came -/
def ksOf (ring : List (Int × ByteArray)) (next n : Nat) : List (Int × ByteArray) := if n = 8 then ring.drop next ++ ring.take next else ring.take n
theorem ksOf_len {ring : List (Int × ByteArray)} {next n : Nat} (hl : ring.length = 8) (hn : n ≤ 8) (hx : next ≤ 7) : (ksOf ring next n).length = n := by
  unfold ksOf
  split
  · simp; omega
  · simp; omega
def AllPost (x : Nat) (ks : List (Int × ByteArray)) (w : World) (e : Ending) (w' : World) : Prop :=
  Below w.heap.size w w' ∧ ∃ a c, e = .returned (.slice a ks.length c) ∧ RSl 2 RKept (fun b => b = x ∨ New w w' b) w' ks a c

theorem ringCells_at (l : List (Int × ByteArray)) : ∀ (j : Nat) (h : j < l.length), (ringCells l)[j * 2]? = some (.int .u64 l[j].1) ∧ (ringCells l)[j * 2 + 1]? = some (.string l[j].2) := by
  induction l with
  | nil => intro j h; simp at h
  | cons k l ih =>
    intro j h
    cases j with
    | zero => simp [ringCells]
    | succ j =>
      have := ih j (by simpa using h)
      unfold ringCells at this ⊢
      rw [List.flatMap_cons, show (j + 1) * 2 = j * 2 + 2 by omega, show j * 2 + 2 + 1 = (j * 2 + 1) + 2 by omega]
      simpa using this
theorem ringCells_len (l : List (Int × ByteArray)) : (ringCells l).length = l.length * 2 := by
  unfold ringCells
  induction l with
  | nil => rfl
  | cons k l ih => rw [List.flatMap_cons, List.length_append, ih]; simp; omega
theorem ringCells_take (l : List (Int × ByteArray)) (n : Nat) : (ringCells l).take (n * 2) = ringCells (l.take n) := by
  induction l generalizing n with
  | nil => simp [ringCells]
  | cons k l ih =>
    cases n with
    | zero => simp [ringCells]
    | succ n =>
      have := ih n
      unfold ringCells at this ⊢
      rw [List.flatMap_cons, List.take_succ_cons, List.flatMap_cons, show (n + 1) * 2 = n * 2 + 2 by omega]
      simp [this]
theorem ringCells_app (a b : List (Int × ByteArray)) : ringCells (a ++ b) = ringCells a ++ ringCells b := by simp [ringCells]
theorem ringCells_one (l : List (Int × ByteArray)) : ∀ u ∈ ringCells l, u.oneCell' = true := by
  intro u hu
  unfold ringCells at hu
  rw [List.mem_flatMap] at hu
  obtain ⟨k, _, hk⟩ := hu
  simp at hk
  rcases hk with rfl | rfl <;> rfl

set_option maxRecDepth 100000 in
theorem all_none (w : World) (x : Nat) (ring : List (Int × ByteArray)) (next : Nat) (h : CacheAt w x ring next 0) :
    Calls Tryz.prog 52 #[.pointer (some ⟨x, 10, none⟩)] w (AllPost x (ksOf ring next 0) w) := by
  obtain ⟨hl, hc, h1, h2, hlt, hn, hnx⟩ := h
  obtain ⟨i0, hi, hz0, hz1, hz2⟩ := info_parts info_kept
  have hrun : (Builtin.append_ #[129, 129] 129 #[.slice (some ⟨x, 10, none⟩) 0 0, .slice (some ⟨x, 10, none⟩) 0 8]).run Tryz.prog w.drew = .ok (.slice (some ⟨x, 10, none⟩) 0 0) w.drew := by
    have := run_append_room_src (P := Tryz.prog) w.drew 129 129 129 65 i0 Tryz.underlying129 hi x 10 0 0 (.slice (some ⟨x, 10, none⟩) 0 8) 0 []
      (Src.ofSlice w.drew Tryz.underlying129 _ 0 8 [] (by simp) (by simp) (by simp)) (by omega) (by simp) (by simp)
    simpa [World.setCells] using this
  go_enter Tryz.func52, Tryz.ntmps52
  go_wp2_with fail
  go_still_tail 20, (by kernel_rfl)
  refine wpList_append_run rfl _ _ 129 rfl rfl rfl hrun ?_
  go_wp2_with fail
  go_ret
  exact ⟨(Below.refl _ _).drew, some ⟨x, 10, none⟩, 0, rfl, .inr ⟨x, 10, rfl, by simp [ksOf], by simp [maxLen], by simp [ksOf], .inl rfl, fun i hi => by simp [ksOf] at hi⟩⟩

theorem all_read {w : World} {ring : List (Int × ByteArray)} {n first C : Nat} {x : Nat} (hl : ring.length = 8) (hn : n ≤ 8) (hf : first ≤ n) (zs : Array Value) (hC : C ≤ maxLen) (h2 : n + n ≤ C)
    {ks : List (Int × ByteArray)} (hks : ks = ((ring.take n ++ ring.take n).drop first).take n) (W : World) (hW : W.heap[w.heap.size]? = some (.cells ((ringCells (ring.take n) ++ ringCells (ring.take n)).toArray ++ zs) 65 (0, 0))) :
    RSl 2 RKept (fun b => b = x ∨ New w W b) W ks (some ⟨w.heap.size, first * 2, none⟩) (C - first) := by
  have hln : (ring.take n).length = n := by simp; omega
  have hkl : ks.length = n := by rw [hks]; simp; omega
  have hlt : w.heap.size < W.heap.size := (Array.getElem?_eq_some_iff.1 hW).1
  refine .inr ⟨_, _, rfl, by omega, by unfold maxLen at *; omega, by omega, .inr ⟨Nat.le_refl _, hlt⟩, fun i hi => ⟨_, rfl, ?_, rfl⟩⟩
  have hi2 : first + i < (ring.take n ++ ring.take n).length := by simp; omega
  have e1 : ks[i] = (ring.take n ++ ring.take n)[first + i] := by subst hks; simp
  rw [e1]
  obtain ⟨g1, g2⟩ := ringCells_at (ring.take n ++ ring.take n) (first + i) hi2
  have hsz : (ringCells (ring.take n ++ ring.take n)).length = (n + n) * 2 := by rw [ringCells_len]; simp; omega
  rw [← ringCells_app] at hW
  intro j hj
  have hc : ∀ p, p < (ringCells (ring.take n ++ ring.take n)).length → W.cell? ⟨w.heap.size, p, none⟩ = (ringCells (ring.take n ++ ring.take n))[p]? := fun p hp => by
    unfold World.cell?
    rw [hW]
    simp only
    rw [Array.getElem?_append_left (by simpa using hp)]
    simp
  have hj2 : j < 2 := hj
  rw [hc _ (by simp at hi2; omega)]
  rcases (show j = 0 ∨ j = 1 by omega) with rfl | rfl
  · rw [show first * 2 + i * 2 + 0 = (first + i) * 2 by omega]; exact g1
  · rw [show first * 2 + i * 2 + 1 = (first + i) * 2 + 1 by omega]; exact g2

theorem cellsAt_take {w : World} {b o : Nat} {cs : List Value} (h : cellsAt w b o cs) (m : Nat) : ∀ j u, (cs.take m)[j]? = some u → w.cell? ((⟨b, o, none⟩ : Addr).add j) = some u := by
  intro j u hj
  have e : (⟨b, o, none⟩ : Addr).add j = ⟨b, o + j, none⟩ := by unfold Addr.add; split <;> simp_all
  rw [e]
  obtain ⟨hlt, hu⟩ := List.getElem?_eq_some_iff.1 hj
  have hlt2 : j < cs.length := by simp at hlt; omega
  rw [h j hlt2, ← hu]
  simp

set_option maxRecDepth 100000 in
theorem all_some (w : World) (x : Nat) (ring : List (Int × ByteArray)) (next n : Nat) (h : CacheAt w x ring next n) (h0 : 0 < n) :
    Calls Tryz.prog 52 #[.pointer (some ⟨x, 10, none⟩)] w (AllPost x (ksOf ring next n) w) := by
  obtain ⟨hl, hc, h1, h2, hlt, hn, hnx⟩ := h
  obtain ⟨i0, hi, hz0, hz1, hz2⟩ := info_parts info_kept
  have hcs : ((ringCells ring).take (n * 2)).length = n * 2 := by simp [ringCells_len]; omega
  have hrun : ∃ zs, (Builtin.append_ #[129, 129] 129 #[.slice (some ⟨x, 10, none⟩) n n, .slice (some ⟨x, 10, none⟩) n 8]).run Tryz.prog w.drew = .ok (.slice (some ⟨w.heap.size, 0, none⟩) (n + n) (grownCap w.drew (n + n) n 65))
      (w.drew.drew.alloc (.cells ((ringCells (ring.take n) ++ ringCells (ring.take n)).toArray ++ zs) 65)) := by
    have hz := ringCells_take ring n
    rw [← hz]
    have hone : ∀ u ∈ (ringCells ring).take (n * 2), u.oneCell' = true := fun u hu => ringCells_one _ u (List.mem_of_mem_take hu)
    have hsrc := Src.ofSlice (P := Tryz.prog) (size := i0.size) w.drew Tryz.underlying129 ⟨x, 10, none⟩ n 8 ((ringCells ring).take (n * 2)) (by rw [hcs, hz1]) (fun j u hj => cellsAt_take (w := w) hc _ j u hj) hone
    have hold := run_firstCells_some (P := Tryz.prog) w.drew.drew i0.size n ⟨x, 10, none⟩ n n ((ringCells ring).take (n * 2)) (by rw [hcs, hz1]) (fun j u hj => cellsAt_take (w := w) hc _ j u hj)
    have hnc := nextslicecap_le (need := n + n) (old := n) (by omega)
    exact ⟨_, run_append_grow_src w.drew 129 129 129 65 i0 _ Tryz.underlying129 hi hz0 (some ⟨x, 10, none⟩) n n _ hold _ n _ hsrc (by omega) (by omega) (by rw [hz2]; omega)⟩
  obtain ⟨zs, hrun⟩ := hrun
  have hC1 := grownCap_ge w.drew (n + n) n 65
  have hC2 := grownCap_le_maxLen w.drew (n + n) n 65 (by unfold maxLen; omega)
  generalize grownCap w.drew (n + n) n 65 = C at *
  have hn' : (n : Int) ≤ 8 := by omega
  have hn0 : (0 : Int) ≤ n := by omega
  have HR := Lib.hid hrun
  have hkl := ksOf_len (next := next) hl hn hnx
  by_cases h8 : n = 8
  · subst h8
    have hread := fun W hW => all_read (w := w) (n := 8) (first := next) (x := x) hl (by omega) (by omega) zs hC2 (by omega) (ks := ksOf ring next 8) (by
      unfold ksOf
      have t8 : ring.take 8 = ring := List.take_of_length_le (Nat.le_of_eq hl)
      rw [if_pos rfl, t8, List.drop_append_of_le_length (by omega), List.take_append, List.length_drop, hl, show 8 - (8 - next) = next by omega, List.take_of_length_le (l := ring.drop next) (by simp; omega)]) W hW
    have HW := Lib.hid hread
    have hC3 : (16 : Int) ≤ C := by omega
    have hnx' : (next : Int) ≤ 7 := by omega
    clear hrun hread
    have hkl := Lib.hid hkl
    go_enter Tryz.func52, Tryz.ntmps52
    go_wp2_with fail
    go_still_tail 20, (by kernel_rfl)
    refine wpList_append_run rfl _ _ 129 rfl rfl rfl HR.out ?_
    go_wp2_with fail
    go_ret
    rw [show next + 8 - next = 8 by omega]
    refine ⟨((Below.refl _ _).drew.drew).alloc (by simp) _, _, _, by rw [hkl.out]; rfl, HW.out _ ?_⟩
    show (w.heap.push _)[w.heap.size]? = _
    simp
  · have hread := fun W hW => all_read (w := w) (n := n) (first := 0) (x := x) hl hn (by omega) zs hC2 hC1 (ks := ksOf ring next n) (by
      unfold ksOf
      rw [if_neg h8, List.drop_zero, List.take_append_of_le_length (by simp; omega), List.take_take, Nat.min_self]) W hW
    have HW := Lib.hid hread
    have hC3 : (n : Int) + n ≤ C := by omega
    have h8' : ((n : Int) == 8) = false := by rw [beq_eq_false_iff_ne]; omega
    clear hrun hread h8
    have hkl := Lib.hid hkl
    go_enter Tryz.func52, Tryz.ntmps52
    go_wp2_with fail
    go_still_tail 20, (by kernel_rfl)
    refine wpList_append_run rfl _ _ 129 rfl rfl rfl HR.out ?_
    go_wp2_with fail
    go_ret
    refine ⟨((Below.refl _ _).drew.drew).alloc (by simp) _, _, _, by rw [hkl.out]; rfl, HW.out _ ?_⟩
    show (w.heap.push _)[w.heap.size]? = _
    simp
theorem all_calls (w : World) (x : Nat) (ring : List (Int × ByteArray)) (next n : Nat) (h : CacheAt w x ring next n) :
    Calls Tryz.prog 52 #[.pointer (some ⟨x, 10, none⟩)] w (AllPost x (ksOf ring next n) w) := by
  by_cases h0 : n = 0
  · subst h0; exact all_none w x ring next h
  · exact all_some w x ring next n h (by omega)
end Go.Proofs.YtfoihafhpmbaeaaGreatDoor

/- A response is looked up. -/
namespace Go.Proofs.YtfoihafhpmbaeaaGreatDoor
open Go.RowKit

/-- the response of an id, or none -/
def getK : List (Int × ByteArray) → Int → ByteArray × Bool
  | [], _ => (⟨#[]⟩, false)
  | k :: l, id => if k.1 = id then (k.2, true) else getK l id
theorem getK_drop {ks : List (Int × ByteArray)} {k : Nat} {id : Int} (h : k < ks.length) : getK (ks.drop k) id = if ks[k].1 = id then (ks[k].2, true) else getK (ks.drop (k + 1)) id := by
  rw [List.drop_eq_getElem_cons h]; rfl

set_option maxHeartbeats 400000 in
theorem Get_calls (w : World) (x : Nat) (ring : List (Int × ByteArray)) (next n : Nat) (id : Int) (h : CacheAt w x ring next n) :
    Calls Tryz.prog 25 #[.pointer (some ⟨x, 10, none⟩), .int .u64 id] w fun e w' =>
      e = .returned (.tuple #[.string (getK (ksOf ring next n) id).1, .bool (getK (ksOf ring next n) id).2]) ∧ Below w.heap.size w w' := by
  have HA := Lib.hid (all_calls w x ring next n h)
  have hkl := ksOf_len (next := next) h.len h.nle h.nextle
  have hkl8 : (ksOf ring next n).length ≤ 8 := by rw [hkl]; exact h.nle
  have hx := h.lt
  obtain ⟨R, hR⟩ : ∃ R, getK (ksOf ring next n) id = R := ⟨_, rfl⟩
  rw [hR]
  have HR := Lib.hid hR
  clear hR hkl h
  generalize ksOf ring next n = ks at *
  go_enter Tryz.func25, Tryz.ntmps25
  go_wp2_with fail
  refine HA.out.mono ?_
  rintro e w1 ⟨hB, a, c, rfl, hrd⟩
  have hU : Under (fun b => b = x ∨ New w w1 b) w1 := fun b hb => hb.elim (fun e => by have := hB.size; omega) (fun h => h.2)
  go_wp2_with fail
  go_loopw [11] (fun i wr => ∃ k : Nat, k ≤ ks.length ∧ i = .int .i64 k ∧ Below w1.heap.size w1 wr ∧ Hid (R = getK (ks.drop k) id)) (fun i _ => ks.length - (intOf i).toNat)
  case atStart => exact ⟨0, by omega, rfl, Below.refl _ _, HR.out.symm⟩
  case round =>
    obtain ⟨k, hk, rfl, hBr, HK⟩ := hrel
    have hz := hBr.size
    by_cases hlt : k < ks.length
    · have hgd := getK_drop (id := id) hlt
      rw [hgd] at HK
      clear hgd
      obtain ⟨b, off, cs, rfl, hSb, _, hcs0, hrd0⟩ := RSl.at hrd hlt
      obtain rfl : cs = _ := hrd0
      have hcs := hcs0.keep (hU.same hBr _ hSb)
      have g0 := hcs 0 (by simp)
      have g1 := hcs 1 (by simp)
      simp only [List.getElem_cons_zero, List.getElem_cons_succ, Nat.add_zero] at g0 g1
      clear hcs hcs0 hrd HR
      generalize ks[k] = kk at *
      obtain ⟨ki, kb⟩ := kk
      simp only at g0 g1 HK
      by_cases he : ki = id
      · rw [if_pos he] at HK
        have hq : (ki == id) = true := by rw [beq_iff_eq]; exact he
        clear he
        go_wp2_with fail
        go_ret2
        rw [HK.out]
        exact ⟨rfl, (hB.up hBr (by have := hB.size; omega)).alloc (by have := hB.size; omega) _⟩
      · rw [if_neg he] at HK
        have hq : (ki == id) = false := by rw [beq_eq_false_iff_ne]; exact he
        clear he
        go_wp2_with fail
        go_roundw
        case rel => exact ⟨k + 1, by omega, by go_num, hBr.alloc hz _, HK⟩
        case measure => simp [intOf]; omega
    · have hkl : k = ks.length := by omega
      have HG : Hid (R = (⟨#[]⟩, false)) := by
        have := HK.out
        rw [hkl, List.drop_length] at this
        exact this
      clear HK hkl
      go_wp2_with fail
      go_ret2
      rw [HG.out]
      exact ⟨rfl, hB.up hBr (by have := hB.size; omega)⟩
end Go.Proofs.YtfoihafhpmbaeaaGreatDoor
