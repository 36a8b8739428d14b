/- A response is kept. -/
import Derived.Outline
import Derived.RegionTactic
import Derived.Test.YtfoihafhpmbaeaaGreatDoorG09
namespace Go.Proofs.YtfoihafhpmbaeaaGreatDoor
open Go.RowKit

/-- a space's cells -/
structure Sp where
  sch : Value
  bnds : Value
  part : List Value
  ring : List (Int × ByteArray)
  next : Nat
  n : Nat
  yard : Value
def Sp.cells (s : Sp) : List Value := ([s.sch, s.bnds] ++ s.part) ++ (ringCells s.ring ++ [.int .i64 s.next, .int .i64 s.n, s.yard])
structure Sp.Ok (s : Sp) : Prop where
  plen : s.part.length = 8
  rlen : s.ring.length = 8
  nle : s.n ≤ 8
  nextle : s.next ≤ 7
abbrev SpAt (w : World) (x : Nat) (s : Sp) : Prop := Blk w x s.cells 72

theorem Sp.len {s : Sp} (h : s.Ok) : s.cells.length = 29 := by
  unfold Sp.cells
  simp [ringCells_len, h.plen, h.rlen]
theorem Sp.ring_at {s : Sp} (h : s.Ok) {i : Nat} (hi : i < 16) : s.cells[10 + i]? = (ringCells s.ring)[i]? := by
  unfold Sp.cells
  rw [List.getElem?_append_right (by simp [h.plen])]
  rw [show 10 + i - ([s.sch, s.bnds] ++ s.part).length = i by simp [h.plen]]
  rw [List.getElem?_append_left (by rw [ringCells_len, h.rlen]; omega)]
theorem Sp.tail_at {s : Sp} (h : s.Ok) (i : Nat) : s.cells[26 + i]? = [Value.int .i64 s.next, .int .i64 s.n, s.yard][i]? := by
  unfold Sp.cells
  rw [List.getElem?_append_right (by simp [h.plen]; omega)]
  rw [show 26 + i - ([s.sch, s.bnds] ++ s.part).length = 16 + i by simp [h.plen]; omega]
  rw [List.getElem?_append_right (by rw [ringCells_len, h.rlen]; omega), ringCells_len, h.rlen, show 16 + i - 8 * 2 = i by omega]
theorem Sp.cache {w : World} {x : Nat} {s : Sp} (h : s.Ok) (hb : SpAt w x s) : CacheAt w x s.ring s.next s.n := by
  refine ⟨h.rlen, fun i hi => ?_, ?_, ?_, hb.lt, h.nle, h.nextle⟩
  · rw [ringCells_len, h.rlen] at hi
    rw [hb.cell, Sp.ring_at h hi]
    exact List.getElem?_eq_getElem _
  · rw [hb.cell]; exact Sp.tail_at h 0
  · rw [hb.cell]; exact Sp.tail_at h 1

theorem ringCells_set (l : List (Int × ByteArray)) : ∀ (k : Nat) (id : Int) (b : ByteArray), k < l.length → ((ringCells l).set (k * 2) (.int .u64 id)).set (k * 2 + 1) (.string b) = ringCells (l.set k (id, b)) := by
  induction l with
  | nil => intro k id b h; simp at h
  | cons a l ih =>
    intro k id b h
    cases k with
    | zero => simp [ringCells]
    | succ k =>
      have := ih k id b (by simpa using h)
      unfold ringCells at this ⊢
      rw [List.flatMap_cons, List.set_cons_succ, List.flatMap_cons, ← this, show (k + 1) * 2 = k * 2 + 2 by omega, show k * 2 + 2 + 1 = (k * 2 + 1) + 2 by omega]
      simp

/-- the space when a response is kept -/
def Sp.keep (s : Sp) (id : Int) (b : ByteArray) : Sp := { s with ring := s.ring.set s.next (id, b), next := (s.next + 1) % 8, n := min (s.n + 1) 8 }
theorem Sp.keep_ok {s : Sp} (h : s.Ok) (id : Int) (b : ByteArray) : (s.keep id b).Ok := by
  refine ⟨h.plen, by simpa [Sp.keep] using h.rlen, ?_, ?_⟩ <;> simp [Sp.keep] <;> omega
theorem Sp.keep_cells {s : Sp} (h : s.Ok) (id : Int) (b : ByteArray) :
    ((((s.cells.set (10 + s.next * 2) (.int .u64 id)).set (10 + s.next * 2 + 1) (.string b)).set 26 (.int .i64 ((s.next + 1) % 8 : Nat))).set 27 (.int .i64 (min (s.n + 1) 8 : Nat))) = (s.keep id b).cells := by
  have hp : ([s.sch, s.bnds] ++ s.part).length = 10 := by simp [h.plen]
  have hr : (ringCells s.ring).length = 16 := by rw [ringCells_len, h.rlen]
  have hn := h.nextle
  unfold Sp.cells Sp.keep
  simp only
  rw [← ringCells_set s.ring s.next id b (by rw [h.rlen]; omega)]
  generalize ringCells s.ring = rc at *
  generalize [s.sch, s.bnds] ++ s.part = A at *
  have e1 : ∀ i v, (A ++ (rc ++ [Value.int .i64 s.next, .int .i64 s.n, s.yard])).set (10 + i) v = A ++ (rc ++ [Value.int .i64 s.next, .int .i64 s.n, s.yard]).set i v := fun i v => by
    rw [List.set_append_right _ _ (by omega), hp, show 10 + i - 10 = i by omega]
  have e0 : ∀ (B : List Value) i v, (A ++ B).set (10 + i) v = A ++ B.set i v := fun B i v => by
    rw [List.set_append_right _ _ (by omega), hp, show 10 + i - 10 = i by omega]
  rw [e0, show 10 + s.next * 2 + 1 = 10 + (s.next * 2 + 1) by omega, e0, show 26 = 10 + 16 by rfl, e0, show 27 = 10 + 17 by rfl, e0]
  congr 1
  rw [List.set_append_left _ _ (by omega), List.set_append_left _ _ (by simp; omega)]
  have hl : ((rc.set (s.next * 2) (Value.int .u64 id)).set (s.next * 2 + 1) (Value.string b)).length = 16 := by simp [hr]
  generalize (rc.set (s.next * 2) (Value.int .u64 id)).set (s.next * 2 + 1) (Value.string b) = rc2 at *
  rw [List.set_append_right _ _ (by omega), hl, List.set_append_right _ _ (by omega), hl]
  rfl
end Go.Proofs.YtfoihafhpmbaeaaGreatDoor

/- A response is kept: the walk. -/
namespace Go.Proofs.YtfoihafhpmbaeaaGreatDoor
open Go.RowKit

set_option maxHeartbeats 400000 in
theorem CachePut_twice (w : World) (x : Nat) (s : Sp) (id : Int) (b : ByteArray) (h : s.Ok) (hb : SpAt w x s) (hf : (getK (ksOf s.ring s.next s.n) id).2 = true) :
    Calls Tryz.prog 30 #[.pointer (some ⟨x, 10, none⟩), .int .u64 id, .string b] w fun e w' => e = .returned (.int .i64 7) ∧ Below w.heap.size w w' := by
  have HG := Lib.hid (Get_calls w x s.ring s.next s.n id (Sp.cache h hb))
  generalize getK (ksOf s.ring s.next s.n) id = r at *
  obtain ⟨r1, r2⟩ := r
  simp only at hf HG
  subst hf
  clear hb h
  go_enter Tryz.func30, Tryz.ntmps30
  go_wp2_with fail
  refine HG.out.mono ?_
  rintro e w1 ⟨rfl, hB⟩
  go_wp2_with fail
  go_ret
  exact ⟨rfl, hB⟩

set_option maxHeartbeats 400000 in
theorem CachePut_new (w : World) (x : Nat) (s : Sp) (id : Int) (b : ByteArray) (h : s.Ok) (hb : SpAt w x s) (hf : (getK (ksOf s.ring s.next s.n) id).2 = false) :
    Calls Tryz.prog 30 #[.pointer (some ⟨x, 10, none⟩), .int .u64 id, .string b] w fun e w' => e = .returned (.int .i64 0) ∧ SpAt w' x (s.keep id b) ∧ But x w w' := by
  have HG := Lib.hid (Get_calls w x s.ring s.next s.n id (Sp.cache h hb))
  generalize getK (ksOf s.ring s.next s.n) id = r at *
  obtain ⟨r1, r2⟩ := r
  simp only at hf HG
  subst hf
  go_enter Tryz.func30, Tryz.ntmps30
  go_wp2_with fail
  refine HG.out.mono ?_
  rintro e w1 ⟨rfl, hB⟩
  have hb1 := hb.below hB hb.lt
  have hx := hb1.lt
  have hnx := h.nextle
  have hnx' : (s.next : Int) ≤ 7 := by omega
  have hnx0 : (0 : Int) ≤ s.next := by omega
  have hn' : (s.n : Int) ≤ 8 := by have := h.nle; omega
  have hl16 : (ringCells s.ring).length = 16 := by rw [ringCells_len, h.rlen]
  obtain ⟨v0, hv0⟩ : ∃ v, (ringCells s.ring)[s.next * 2]? = some v := ⟨_, List.getElem?_eq_getElem (by omega)⟩
  obtain ⟨v1, hv1⟩ : ∃ v, (ringCells s.ring)[s.next * 2 + 1]? = some v := ⟨_, List.getElem?_eq_getElem (by omega)⟩
  have d0 : w1.cell? ⟨x, 10 + s.next * 2, none⟩ = some v0 := by rw [hb1.cell, Sp.ring_at h (by omega), hv0]
  have d1 : w1.cell? ⟨x, 10 + s.next * 2 + 1, none⟩ = some v1 := by rw [hb1.cell, show 10 + s.next * 2 + 1 = 10 + (s.next * 2 + 1) by omega, Sp.ring_at h (by omega), hv1]
  have d2 : w1.cell? ⟨x, 26, none⟩ = some (.int .i64 s.next) := by rw [hb1.cell]; exact Sp.tail_at h 0
  have d3 : w1.cell? ⟨x, 27, none⟩ = some (.int .i64 s.n) := by rw [hb1.cell]; exact Sp.tail_at h 1
  have f0 := hb1.free (10 + s.next * 2)
  have f1 := hb1.free (10 + s.next * 2 + 1)
  have f2 := hb1.free 26
  have f3 := hb1.free 27
  clear hv0 hv1
  go_wp2_with fail
  go_region
  go_wp2_with fail
  go_ret
  have e1 : ((s.next : Int) + 1) % 8 = (((s.next + 1) % 8 : Nat) : Int) := by omega
  have e2 : min ((s.n : Int) + 1) 8 = ((min (s.n + 1) 8 : Nat) : Int) := by omega
  rw [e1, e2]
  refine ⟨rfl, ?_, ?_⟩
  · have := ((((hb1.set (10 + s.next * 2) (.int .u64 id)).set (10 + s.next * 2 + 1) (.string b)).set 26 (.int .i64 ((s.next + 1) % 8 : Nat))).set 27 (.int .i64 (min (s.n + 1) 8 : Nat)))
    rw [Sp.keep_cells h] at this
    exact this
  · exact (((((But.below hB).set (10 + s.next * 2) _).set (10 + s.next * 2 + 1) _).set 26 _).set 27 _).drew
end Go.Proofs.YtfoihafhpmbaeaaGreatDoor

/- Ids among others. -/
namespace Go.Proofs.YtfoihafhpmbaeaaGreatDoor
open Go.RowKit

def RU64 (n : Int) (cs : List Value) : Prop := cs = [.int .u64 n]
def idxI : List Int → Int → Int → Int
  | [], _, _ => -1
  | x :: l, id, k => if id = x then k else idxI l id (k + 1)
theorem idxI_drop {l : List Int} {k : Nat} {id : Int} (h : k < l.length) : idxI (l.drop k) id k = if id = l[k] then (k : Int) else idxI (l.drop (k + 1)) id ((k : Int) + 1) := by
  rw [List.drop_eq_getElem_cons h]; rfl
theorem idxI_ge : ∀ (l : List Int) (id k : Int), 0 ≤ k → (idxI l id k = -1 ∧ id ∉ l) ∨ (0 ≤ idxI l id k ∧ id ∈ l)
  | [], id, k, _ => .inl ⟨rfl, by simp⟩
  | x :: l, id, k, h => by
    unfold idxI
    by_cases e : id = x
    · rw [if_pos e]; exact .inr ⟨h, by simp [e]⟩
    · rw [if_neg e]
      rcases idxI_ge l id (k + 1) (by omega) with ⟨h1, h2⟩ | ⟨h1, h2⟩
      · exact .inl ⟨h1, by simp [e, h2]⟩
      · exact .inr ⟨h1, by simp [h2]⟩

theorem Index_calls {S : Blocks} {w : World} {l : List Int} {a : Option Addr} {c : Nat} (h : RSl 1 RU64 S w l a c) (id : Int) :
    Calls Tryz.prog 84 #[.slice a l.length c, .int .u64 id] w fun e w' => e = .returned (.int .i64 (idxI l id 0)) ∧ w = w' := by
  obtain ⟨hc, hl⟩ := h.le
  obtain ⟨R, hR⟩ : ∃ R, idxI l id 0 = R := ⟨_, rfl⟩
  rw [hR]
  have HR := Lib.hid hR
  clear hR
  go_enter Tryz.func84, Tryz.ntmps84
  go_wp2_with fail
  go_loop [5, 8] (fun _ i => ∃ k : Nat, k ≤ l.length ∧ i = .int .i64 k ∧ Hid (R = idxI (l.drop k) id k)) (fun _ i => l.length - (intOf i).toNat)
  case atStart => exact ⟨0, by omega, rfl, HR.out.symm⟩
  case round =>
    obtain ⟨k, hk, rfl, HK⟩ := hrel
    by_cases hlt : k < l.length
    · rw [idxI_drop hlt] at HK
      obtain ⟨b, off, cs, rfl, hSb, _, hcs, hrd0⟩ := RSl.at h hlt
      obtain rfl : cs = _ := hrd0
      have g0 := hcs 0 (by simp)
      simp only [List.getElem_cons_zero, Nat.add_zero, Nat.mul_one] at g0
      clear hcs h HR
      generalize l[k] = kk at *
      by_cases he : id = kk
      · rw [if_pos he] at HK
        have hq : (id == kk) = true := by rw [beq_iff_eq]; exact he
        clear he
        go_wp2_with fail
        go_ret
        rw [HK.out]
        exact ⟨rfl, rfl⟩
      · rw [if_neg he] at HK
        have hq : (id == kk) = false := by rw [beq_eq_false_iff_ne]; exact he
        clear he
        go_wp2_with fail
        go_round
        case rel => exact ⟨k + 1, by omega, by go_num, HK⟩
        case measure => simp [intOf]; omega
    · have hkl : k = l.length := by omega
      have HG : Hid (R = -1) := by
        have := HK.out
        rw [hkl, List.drop_length] at this
        exact this
      clear HK hkl
      go_wp2_with fail
      go_ret
      rw [HG.out]
      exact ⟨rfl, rfl⟩

theorem Contains_calls {S : Blocks} {w : World} {l : List Int} {a : Option Addr} {c : Nat} (h : RSl 1 RU64 S w l a c) (id : Int) (b : Bool) (hb : b = decide (id ∈ l)) :
    Calls Tryz.prog 61 #[.slice a l.length c, .int .u64 id] w fun e w' => e = .returned (.bool b) ∧ w = w' := by
  have HI := Lib.hid (fun W (hW : W = w) => by subst hW; exact Index_calls h id)
  have hg := idxI_ge l id 0 (by omega)
  generalize idxI l id 0 = i at *
  rcases hg with ⟨h1, h2⟩ | ⟨h1, h2⟩
  · have : b = false := by rw [hb]; simpa using h2
    subst this
    subst h1
    clear hb h
    go_enter Tryz.func61, Tryz.ntmps61
    go_wp2_with fail
    refine (HI.out w rfl).mono ?_
    rintro e w' ⟨rfl, rfl⟩
    go_wp2_with fail
    go_ret
    exact ⟨rfl, rfl⟩
  · have : b = true := by rw [hb]; simpa using h2
    subst this
    clear hb h
    go_enter Tryz.func61, Tryz.ntmps61
    go_wp2_with fail
    refine (HI.out w rfl).mono ?_
    rintro e w' ⟨rfl, rfl⟩
    go_wp2_with fail
    go_ret
    exact ⟨rfl, rfl⟩

/-- ids in memory of the space's own -/
abbrev OwnU (w : World) (B : Nat) (l : List Int) (a : Option Addr) (c : Nat) : Prop := w.ownsRow B 63 1 (.slice a l.length c) l.length (l.map (Value.int .u64))
theorem OwnU.read {w : World} {B : Nat} {l : List Int} {a : Option Addr} {c : Nat} (h : OwnU w B l a c) (hl : l.length ≤ 2147483647) : RSl 1 RU64 (fun b => B ≤ b ∧ b < w.heap.size) w l a c := by
  have hcells := fun g hg => World.ownsRow.cells (g := g) h hg
  have hlt := h.lt
  rcases h.2 with ⟨h1, h2⟩ | ⟨g, cap, cur, h1, hB, hg, hn, hcap, _⟩
  · simp only [Value.slice.injEq] at h1
    obtain ⟨rfl, h3, rfl⟩ := h1
    exact .inl ⟨rfl, rfl, List.length_eq_zero_iff.1 h3⟩
  · simp only [Value.slice.injEq] at h1
    obtain ⟨rfl, _, rfl⟩ := h1
    refine .inr ⟨g, 0, rfl, hn, hcap, hl, hlt g rfl, fun i hi => ⟨_, rfl, fun j hj => ?_, rfl⟩⟩
    obtain rfl : j = 0 := by have : j < 1 := hj; omega
    have := hcells g rfl i (.int .u64 l[i]) (by simp [hi])
    have e : (⟨g, 0, none⟩ : Addr).add i = ⟨g, 0 + i * 1 + 0, none⟩ := by unfold Addr.add; split <;> simp_all
    rw [e] at this
    exact this
end Go.Proofs.YtfoihafhpmbaeaaGreatDoor

/- What was cancelled ahead is noted. -/
namespace Go.Proofs.YtfoihafhpmbaeaaGreatDoor
open Go.RowKit

theorem info_u64 : (Tryz.prog.info? 63).map (fun i => (i.zero, i.size, i.bytes)) = some (some (.int .u64 0), 1, 8) := by kernel_rfl

/-- a space, and the ids that were cancelled ahead -/
structure YdAt (w : World) (x : Nat) (s : Sp) (l : List Int) : Prop where
  ok : s.Ok
  blk : SpAt w x s
  yard : ∃ a c, s.yard = .slice a l.length c ∧ OwnU w (x + 1) l a c
  short : l.length ≤ 8
theorem YdAt.below {w w' : World} {x B : Nat} {s : Sp} {l : List Int} (h : YdAt w x s l) (g : Below B w w') (hB : w.heap.size ≤ B) : YdAt w' x s l := by
  obtain ⟨a, c, h1, h2⟩ := h.yard
  have g2 : w.grownBy w' none := ⟨g.os, g.tape, g.output, g.size, fun k hk _ => g.block k (by omega)⟩
  exact ⟨h.ok, h.blk.below g (Nat.lt_of_lt_of_le h.blk.lt hB), ⟨a, c, h1, h2.kept g2 (by
    cases hv : (Value.slice a l.length c).ownBlock with
    | none => exact .inl rfl
    | some k => exact .inr (by simp))⟩, h.short⟩
theorem Sp.yard_at {s : Sp} (h : s.Ok) : s.cells[28]? = some s.yard := Sp.tail_at h 2
theorem Sp.set_yard {s : Sp} (h : s.Ok) (v : Value) : s.cells.set 28 v = ({ s with yard := v } : Sp).cells := by
  unfold Sp.cells
  simp only
  rw [List.set_append_right _ _ (by simp [h.plen]), List.set_append_right _ _ (by simp [h.plen, ringCells_len, h.rlen])]
  congr 2
  simp [h.plen, ringCells_len, h.rlen]

theorem YardPut_has (w : World) (x : Nat) (s : Sp) (l : List Int) (id : Int) (h : YdAt w x s l) (hid : id ∈ l) :
    Calls Tryz.prog 26 #[.pointer (some ⟨x, 28, none⟩), .int .u64 id] w fun e w' => e = .returned (.bool false) ∧ w = w' := by
  obtain ⟨a, c, hv, hown⟩ := h.yard
  have hsh := h.short
  have d := h.blk.cell 28
  rw [Sp.yard_at h.ok, hv] at d
  have HC := Lib.hid (Contains_calls (hown.read (by omega)) id true (by simp [hid]))
  generalize l.length = n at *
  clear hid h hown hv
  go_enter Tryz.func26, Tryz.ntmps26
  go_wp2_with fail
  refine HC.out.mono ?_
  rintro e w' ⟨rfl, rfl⟩
  go_wp2_with fail
  go_ret
  exact ⟨rfl, rfl⟩

set_option maxRecDepth 10000 in
set_option maxHeartbeats 400000 in
theorem YardPut_new (w : World) (x : Nat) (s : Sp) (l : List Int) (id : Int) (h : YdAt w x s l) (hid : id ∉ l) (h7 : l.length ≤ 7) :
    Calls Tryz.prog 26 #[.pointer (some ⟨x, 28, none⟩), .int .u64 id] w fun e w' => e = .returned (.bool true) ∧ (∃ v, YdAt w' x { s with yard := v } (l ++ [id])) ∧ Below x w w' := by
  obtain ⟨i0, hi, hz0, hz1, hz2⟩ := info_parts info_u64
  obtain ⟨a, c, hv, hown⟩ := h.yard
  have d := h.blk.cell 28
  have f := h.blk.free 28
  have hx := h.blk.lt
  rw [Sp.yard_at h.ok, hv] at d
  have HC := Lib.hid (Contains_calls (hown.read (by omega)) id false (by simp [hid]))
  have HL := Lib.hid h
  have hrl : ∀ k, (Value.slice a l.length c).ownBlock = some k → x + 1 ≤ k := fun k e => (hown.lt k e).1
  have h7' : (l.length : Int) ≤ 7 := by omega
  clear hid h hv
  go_enter Tryz.func26, Tryz.ntmps26
  go_wp2_with fail
  refine HC.out.mono ?_
  rintro e w' ⟨rfl, rfl⟩
  go_wp2_with (at_builtin; refine wpList_append_own _ rfl _ _ 37 rfl (x + 1) 63 i0 _ 1 8 Tryz.underlying37 hi hz0 hz1 hz2 rfl (by decide) _ _ _ rfl (hown.alloc _) ⟨w.heap.size, 0, none⟩ 1 1 [.int .u64 id] rfl rfl ?c1 ?c2 ?c3 ?c4 ?c5 ?_)
  case c1 => exact news_new w [.int .u64 id] _
  case c2 => simp [Value.oneCell']
  case c3 => unfold maxLen; omega
  case c4 => omega
  case c5 => simp; omega
  intro v' w1 hown' hg _
  obtain ⟨a', c', rfl⟩ := own_form hown'
  have hb1 : SpAt w1 x s := (HL.out.blk.alloc _).grown hg (fun e => by have := hrl x e.symm; omega)
  have hB1 : Below x w w1 := ((Below.refl _ _).alloc (by omega) _).grown hg (by simp; omega) (fun k e => by have := hrl k e; omega)
  have d1 := hb1.cell 28
  rw [Sp.yard_at HL.out.ok] at d1
  have f1 := hb1.free 28
  have hx1 := hb1.lt
  have hb2 := hb1.set 28 (.slice a' (l.length + 1) c')
  rw [Sp.set_yard HL.out.ok] at hb2
  have hne : (Value.slice a' (l.length + 1) c').ownBlock ≠ some x := fun e => by have := (hown'.lt x e).1; omega
  have hown2 := ownsRow_setCell_other (a := ⟨x, 28, none⟩) hown' hne (.slice a' (l.length + 1) c')
  have HF := Lib.hid (And.intro hb2 (And.intro hown2 hB1))
  clear hb2 hown2 hB1 hown' hown hg hrl HC hne hb1 d f
  go_wp2_with fail
  go_ret
  obtain ⟨hb2, hown2, hB1⟩ := HF.out
  refine ⟨rfl, ⟨.slice a' (l.length + 1) c', ⟨HL.out.ok.plen, HL.out.ok.rlen, HL.out.ok.nle, HL.out.ok.nextle⟩, hb2, ⟨a', c', by rw [List.length_append]; rfl, ?_⟩, by simp; omega⟩, hB1.setCell (p := ⟨x, 28, none⟩) (Nat.le_refl _) _⟩
  simpa [OwnU] using hown2
end Go.Proofs.YtfoihafhpmbaeaaGreatDoor
