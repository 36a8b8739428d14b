/- A space without a schema takes one; nothing is bound. -/
import Derived.Outline
import Derived.Test.YtfoihafhpmbaeaaGreatDoorG11
import Derived.Test.YtfoihafhpmbaeaaGreatDoorG27
namespace Go.Proofs.YtfoihafhpmbaeaaGreatDoor
open Go.RowKit

theorem DeclsNil_calls (w : World) : Calls Tryz.prog 16 #[.pointer none] w fun e w' => e = .returned (.slice none 0 0) ∧ w = w' := by
  go_enter Tryz.func16, Tryz.ntmps16
  go_wp2_with fail
  go_ret
  exact ⟨rfl, rfl⟩
theorem CompatNil_calls (p : Option Addr) (w : World) : Calls Tryz.prog 111 #[.pointer none, .pointer p] w fun e w' => e = .returned (.tuple #[.int .i64 0, .string ⟨#[]⟩]) ∧ w = w' := by
  have HD := Lib.hid (fun W => DeclsNil_calls W)
  go_enter Tryz.func111, Tryz.ntmps111
  go_wp2_with fail
  refine (HD.out _).mono ?_
  rintro e w' ⟨rfl, rfl⟩
  go_wp2_with fail
  go_loop [13] (fun i => i = .int .i64 0) (fun _ => 0)
  case atStart => rfl
  case round =>
    subst hrel
    go_wp2_with fail
    go_ret2
    exact ⟨rfl, rfl⟩

/-- nothing is bound, and there is no schema -/
structure Unb (s : Sp) : Prop where
  sch : s.sch = .pointer none
  bnds : s.bnds = .slice none 0 0
theorem Sp.sch_at (s : Sp) : s.cells[0]? = some s.sch := rfl
theorem Sp.bnds_at (s : Sp) : s.cells[1]? = some s.bnds := rfl
theorem Sp.set_sch (s : Sp) (v : Value) : s.cells.set 0 v = ({ s with sch := v } : Sp).cells := rfl

theorem YdAt.set_sch {w : World} {x : Nat} {s : Sp} {l : List Int} (h : YdAt w x s l) (v : Value) : YdAt (w.setCell ⟨x, 0, none⟩ v) x { s with sch := v } l := by
  obtain ⟨a, c, h1, h2⟩ := h.yard
  refine ⟨⟨h.ok.plen, h.ok.rlen, h.ok.nle, h.ok.nextle⟩, h.blk.set 0 v, ⟨a, c, h1, ownsRow_setCell_other h2 (fun e => ?_) v⟩, h.short⟩
  have := (h2.lt x e).1
  omega
theorem Find_none (w : World) (x : Nat) (s : Sp) (h : Unb s) (hb : SpAt w x s) (num : Int) :
    Calls Tryz.prog 116 #[.pointer (some ⟨x, 0, none⟩), .int .i64 num] w fun e w' => e = .returned (.tuple #[.int .i64 0, .bool false]) ∧ w = w' := by
  have HB : Hid (∀ W, Calls Tryz.prog 159 #[.slice none 0 0, .int .i64 num, .func (.func 160) #[] #[]] W fun e w' => e = .returned (.tuple #[.int .i64 0, .bool false]) ∧ W = w') := fun W => by
    go_enter Tryz.func159, Tryz.ntmps159
    go_wp2_with fail
    go_loop [9, 10, 11] (fun i j _ => i = .int .i64 0 ∧ j = .int .i64 0) (fun _ _ _ => 0)
    case atStart => exact ⟨rfl, rfl⟩
    case round =>
      obtain ⟨rfl, rfl⟩ := hrel
      go_wp2_with fail
      go_ret2
      exact ⟨rfl, rfl⟩
  have d := hb.cell 1
  rw [Sp.bnds_at, h.bnds] at d
  go_enter Tryz.func116, Tryz.ntmps116
  go_wp2_with fail
  refine (HB.out _).mono ?_
  rintro e w' ⟨rfl, rfl⟩
  go_wp2_with fail
  go_ret2
  exact ⟨rfl, rfl⟩

/-- a space in memory from block x on -/
def SpMem (x : Nat) (w : World) : Prop := MaxL w ∧ 3 < x ∧ x < w.heap.size
theorem SpMem.keep {x : Nat} {w w' : World} (h : SpMem x w) (g : Below x w w') : SpMem x w' := ⟨h.1.keep (g.block _ h.2.1), h.2.1, Nat.lt_of_lt_of_le h.2.2 g.size⟩

set_option maxHeartbeats 400000 in
theorem Take_wk (w : World) (x : Nat) (s : Sp) (l : List Int) (text : ByteArray) (h : Unb s) (hy : YdAt w x s l) (hm : SpMem x w) :
    Calls Tryz.prog 87 #[.pointer (some ⟨x, 0, none⟩), .string text] w fun e w' => (∃ n : Int, e = .returned (.int .i64 n)) ∧ (∃ v, YdAt w' x { s with sch := v } l) ∧ But x w w' := by
  have HR := Lib.hid (DescRead_wk text w hm.1 (by have := hm.2.1; have := hm.2.2; omega))
  have HC := Lib.hid (fun p W => CompatNil_calls p W)
  have hx := hy.blk.lt
  have HY := Lib.hid hy
  clear hy
  go_enter Tryz.func87, Tryz.ntmps87
  go_wp2_with fail
  refine HR.out.mono ?_
  rintro e w1 ⟨hB, hcase⟩
  have hz1 := hB.size
  rcases hcase with ⟨n, p, hn, rfl⟩ | ⟨db, l2, hdb, rfl, hD⟩
  · have hn2 : (n != 0) = true := by rw [bne_iff_ne]; exact hn
    have hgen : ∀ W, Below w1.heap.size w1 W → (∃ v, YdAt W x { s with sch := v } l) ∧ But x w W := fun W g => by
      have hY1 := HY.out.below hB (Nat.le_refl _)
      have g2 : But x w W := But.below (hB.trans (g.mono hz1))
      exact ⟨⟨s.sch, hY1.below g (Nat.le_refl _)⟩, g2⟩
    have HG := Lib.hid hgen
    clear hgen hn hB
    go_wp2_with fail
    go_ret
    exact ⟨⟨n, rfl⟩, HG.out _ ((Below.refl _ _).alloc (Nat.le_refl _) _)⟩
  · have hY2 := (HY.out.below hB (Nat.le_refl _)).below ((Below.refl w1.heap.size w1).alloc (Nat.le_refl _) (.cells #[.int .i64 0, .int .i64 0] 221)) (Nat.le_refl _)
    have hY1 := HY.out.below hB (Nat.le_refl _)
    have d0 := hY1.blk.cell 0
    have d1 := hY1.blk.cell 1
    have f0 := hY1.blk.free 0
    have hx1 := hY1.blk.lt
    rw [Sp.sch_at, h.sch] at d0
    rw [Sp.bnds_at, h.bnds] at d1
    have HB := Lib.hid hB
    have HY1 := Lib.hid hY1
    have HY2 := Lib.hid hY2
    clear hB hY1 hY2 hD
    go_wp2_with fail
    refine (HC.out _ _).mono ?_
    rintro e w2 ⟨rfl, rfl⟩
    go_wp2_with fail
    go_loop [41] (fun i => i = .int .i64 0) (fun _ => 0)
    case atStart => rfl
    case round =>
      subst hrel
      go_wp2_with fail
      go_ret
      have gx : But x w w1 := But.below HB.out
      first
        | exact ⟨⟨0, rfl⟩, ⟨.pointer (some ⟨db, 0, none⟩), HY2.out.set_sch _⟩, (gx.alloc _).set 0 _⟩
        | exact ⟨⟨0, rfl⟩, ⟨.pointer (some ⟨db, 0, none⟩), (HY1.out.set_sch _).below ((Below.refl _ _).alloc (Nat.le_refl _) _) (Nat.le_refl _)⟩, (gx.set 0 _).alloc _⟩
end Go.Proofs.YtfoihafhpmbaeaaGreatDoor

/- A space without a schema: what is asked of it. -/
namespace Go.Proofs.YtfoihafhpmbaeaaGreatDoor
open Go.RowKit

/-- the cells of a moment -/
structure Mom where
  kind : Int
  arrived : Int
  now : Int
  c0 : Int
  c1 : Int
  c2 : Int
  c3 : Int
  c4 : Int
  c5 : Int
  c6 : Int
  c7 : Int
  c8 : Int
def Mom.cells (m : Mom) : List Value := [.int .i64 m.kind, .int .i64 m.arrived, .int .i64 m.now, .int .i64 m.c0, .int .i64 m.c1, .int .i64 m.c2, .int .i64 m.c3, .int .i64 m.c4, .int .i64 m.c5, .int .i64 m.c6, .int .i64 m.c7, .int .i64 m.c8]
structure Mom.Ok (m : Mom) : Prop where
  a0 : 0 ≤ m.arrived
  a1 : m.arrived ≤ 9223372036854775807
  n0 : 0 ≤ m.now
  n1 : m.now ≤ 9223372036854775807

theorem Bind_none (w : World) (x : Nat) (s : Sp) (h : Unb s) (hb : SpAt w x s) (c : BindC) :
    Calls Tryz.prog 90 #[.pointer (some ⟨x, 0, none⟩), .agg #[.int .u64 c.id, .int .i64 c.num, .string c.service, .string c.method, .int .i64 c.op]] w fun e w' => e = .returned (.int .i64 17) ∧ Below w.heap.size w w' := by
  have d := hb.cell 0
  have hx := hb.lt
  rw [Sp.sch_at, h.sch] at d
  go_enter Tryz.func90, Tryz.ntmps90
  go_wp2_with fail
  go_ret
  exact ⟨rfl, (Below.refl _ _).alloc (Nat.le_refl _) _⟩

set_option maxHeartbeats 400000 in
theorem Call_none (w : World) (x : Nat) (s : Sp) (h : Unb s) (hb : SpAt w x s) (c : CallC) (m : Mom) (hm : m.Ok) :
    Calls Tryz.prog 93 #[.pointer (some ⟨x, 0, none⟩), .agg #[.int .u64 c.id, .int .i64 c.wait, .int .i64 c.num, .string c.args],
      .agg #[.int .i64 m.kind, .int .i64 m.arrived, .int .i64 m.now, .int .i64 m.c0, .int .i64 m.c1, .int .i64 m.c2, .int .i64 m.c3, .int .i64 m.c4, .int .i64 m.c5, .int .i64 m.c6, .int .i64 m.c7, .int .i64 m.c8]] w
      fun e w' => (∃ n : Int, e = .returned (.tuple #[.string ⟨#[]⟩, .int .i64 n])) ∧ Below w.heap.size w w' := by
  have gA : Below w.heap.size w ((w.alloc (.cells #[.int .u64 c.id, .int .i64 c.wait, .int .i64 c.num, .string c.args] 82)).alloc (.cells #[.int .i64 m.kind, .int .i64 m.arrived, .int .i64 m.now, .int .i64 m.c0, .int .i64 m.c1, .int .i64 m.c2, .int .i64 m.c3, .int .i64 m.c4, .int .i64 m.c5, .int .i64 m.c6, .int .i64 m.c7, .int .i64 m.c8] 44)) :=
    ((Below.refl _ _).alloc (Nat.le_refl _) _).alloc (by simp) _
  have HF : Hid (∀ W, Below w.heap.size w W → Calls Tryz.prog 116 #[.pointer (some ⟨x, 0, none⟩), .int .i64 c.num] W fun e w' => e = .returned (.tuple #[.int .i64 0, .bool false]) ∧ W = w') := fun W g =>
    Find_none W x s h (hb.below g hb.lt) c.num
  have HA := Lib.hid gA
  have m1 := hm.a0
  have m2 := hm.a1
  have m3 := hm.n0
  have m4 := hm.n1
  clear gA hb h hm
  by_cases hl : c.wait < m.now - m.arrived
  · go_enter Tryz.func93, Tryz.ntmps93
    go_wp2_with fail
    go_ret2
    exact ⟨⟨18, rfl⟩, HA.out⟩
  · go_enter Tryz.func93, Tryz.ntmps93
    go_wp2_with fail
    refine (HF.out _ HA.out).mono ?_
    rintro e w' ⟨rfl, rfl⟩
    go_wp2_with fail
    go_ret2
    exact ⟨⟨12, rfl⟩, HA.out⟩

/-- what a frame asks is done -/
def DoneIn (x : Nat) (s : Sp) (l : List Int) (w : World) (e : Ending) (w' : World) : Prop :=
  (∃ n : Int, e = .returned (.tuple #[.string ⟨#[]⟩, .int .i64 n])) ∧ (∃ v, YdAt w' x { s with sch := v } l) ∧ But x w w'

theorem WorkS_calls (w : World) (x : Nat) (s : Sp) (l : List Int) (text : ByteArray) (sb tb : Nat) (h : Unb s) (hy : YdAt w x s l) (hm : SpMem x w)
    (hs : w.cell? ⟨sb, 0, none⟩ = some (.pointer (some ⟨x, 0, none⟩))) (ht : w.cell? ⟨tb, 0, none⟩ = some (.string text)) :
    Calls Tryz.prog 86 #[.pointer (some ⟨sb, 0, none⟩), .pointer (some ⟨tb, 0, none⟩)] w (DoneIn x s l w) := by
  have HT := Lib.hid (Take_wk w x s l text h hy hm)
  clear hy hm h
  go_enter Tryz.func86, Tryz.ntmps86
  go_wp2_with fail
  refine HT.out.mono ?_
  rintro e w1 ⟨⟨n, rfl⟩, hv, hB⟩
  have HF := Lib.hid (And.intro hv hB)
  clear hv hB
  go_wp2_with fail
  go_ret2
  exact ⟨⟨n, rfl⟩, HF.out⟩

theorem WorkB_calls (w : World) (x : Nat) (s : Sp) (l : List Int) (c : BindC) (sb tb : Nat) (h : Unb s) (hy : YdAt w x s l)
    (hs : w.cell? ⟨sb, 0, none⟩ = some (.pointer (some ⟨x, 0, none⟩))) (ht : Blk w tb c.cells 191) :
    Calls Tryz.prog 89 #[.pointer (some ⟨sb, 0, none⟩), .pointer (some ⟨tb, 0, none⟩)] w (DoneIn x s l w) := by
  have HT := Lib.hid (Bind_none w x s h hy.blk c)
  have t0 := ht.cell 0
  have t1 := ht.cell 1
  have t2 := ht.cell 2
  have t3 := ht.cell 3
  have t4 := ht.cell 4
  have hx := hy.blk.lt
  have HY := Lib.hid hy
  simp [BindC.cells] at t0 t1 t2 t3 t4
  clear hy h ht
  go_enter Tryz.func89, Tryz.ntmps89
  go_wp2_with fail
  refine HT.out.mono ?_
  rintro e w1 ⟨rfl, hB⟩
  have hv : (∃ v, YdAt w1 x { s with sch := v } l) ∧ But x w w1 := ⟨⟨s.sch, HY.out.below hB (Nat.le_refl _)⟩, But.below hB⟩
  have HF := Lib.hid hv
  clear hv hB
  go_wp2_with fail
  go_ret2
  exact ⟨⟨17, rfl⟩, HF.out⟩

theorem WorkC_calls (w : World) (x : Nat) (s : Sp) (l : List Int) (c : CallC) (m : Mom) (sb tb mb : Nat) (h : Unb s) (hy : YdAt w x s l) (hm : m.Ok)
    (hs : w.cell? ⟨sb, 0, none⟩ = some (.pointer (some ⟨x, 0, none⟩))) (ht : Blk w tb c.cells 82) (hmo : Blk w mb m.cells 44) :
    Calls Tryz.prog 92 #[.pointer (some ⟨sb, 0, none⟩), .pointer (some ⟨tb, 0, none⟩), .pointer (some ⟨mb, 0, none⟩)] w (DoneIn x s l w) := by
  have HT := Lib.hid (Call_none w x s h hy.blk c m hm)
  have t0 := ht.cell 0
  have t1 := ht.cell 1
  have t2 := ht.cell 2
  have t3 := ht.cell 3
  have u0 := hmo.cell 0
  have u1 := hmo.cell 1
  have u2 := hmo.cell 2
  have u3 := hmo.cell 3
  have u4 := hmo.cell 4
  have u5 := hmo.cell 5
  have u6 := hmo.cell 6
  have u7 := hmo.cell 7
  have u8 := hmo.cell 8
  have u9 := hmo.cell 9
  have ua := hmo.cell 10
  have ub := hmo.cell 11
  have hx := hy.blk.lt
  have HY := Lib.hid hy
  simp [CallC.cells] at t0 t1 t2 t3
  simp [Mom.cells] at u0 u1 u2 u3 u4 u5 u6 u7 u8 u9 ua ub
  clear hy h ht hm hmo
  go_enter Tryz.func92, Tryz.ntmps92
  go_wp2_with fail
  refine HT.out.mono ?_
  rintro e w1 ⟨⟨n, rfl⟩, hB⟩
  have hv : (∃ v, YdAt w1 x { s with sch := v } l) ∧ But x w w1 := ⟨⟨s.sch, HY.out.below hB (Nat.le_refl _)⟩, But.below hB⟩
  have HF := Lib.hid hv
  clear hv hB
  go_wp2_with fail
  go_ret2
  exact ⟨⟨n, rfl⟩, HF.out⟩
end Go.Proofs.YtfoihafhpmbaeaaGreatDoor

/- Bodies are read. -/
namespace Go.Proofs.YtfoihafhpmbaeaaGreatDoor
open Go.RowKit

def ReadS (w : World) (x : Nat) (body : ByteArray) (e : Ending) (w' : World) : Prop :=
  ∃ sb tb, e = .returned (.tuple #[.int .u64 (takeSchemaS body).1, .func (.func 86) #[] #[.pointer (some ⟨sb, 0, none⟩), .pointer (some ⟨tb, 0, none⟩)], .int .i64 (takeSchemaS body).2.2]) ∧
    Blk w' sb [.pointer (some ⟨x, 0, none⟩)] 28 ∧ Blk w' tb [.string (takeSchemaS body).2.1] 9 ∧ Below w.heap.size w w'
def ReadB (w : World) (x : Nat) (body : ByteArray) (e : Ending) (w' : World) : Prop :=
  ∃ sb tb, e = .returned (.tuple #[.int .u64 (takeBindS body).1.id, .func (.func 89) #[] #[.pointer (some ⟨sb, 0, none⟩), .pointer (some ⟨tb, 0, none⟩)], .int .i64 (takeBindS body).2]) ∧
    Blk w' sb [.pointer (some ⟨x, 0, none⟩)] 28 ∧ Blk w' tb (takeBindS body).1.cells 191 ∧ Below w.heap.size w w'
def ReadC (w : World) (x : Nat) (body : ByteArray) (m : Mom) (e : Ending) (w' : World) : Prop :=
  ∃ sb tb mb, e = .returned (.tuple #[.int .u64 (takeCallS body).1.id, .func (.func 92) #[] #[.pointer (some ⟨sb, 0, none⟩), .pointer (some ⟨tb, 0, none⟩), .pointer (some ⟨mb, 0, none⟩)], .int .i64 (takeCallS body).2]) ∧
    Blk w' sb [.pointer (some ⟨x, 0, none⟩)] 28 ∧ Blk w' tb (takeCallS body).1.cells 82 ∧ Blk w' mb m.cells 44 ∧ Below w.heap.size w w'

/-- two boxes -/
structure TwoB (w : World) (x : Nat) (m : Mom) (W : World) : Prop where
  below : Below w.heap.size w W
  b0 : Blk W w.heap.size [.pointer (some ⟨x, 0, none⟩)] 28
  b1 : Blk W (w.heap.size + 1) m.cells 44
theorem TwoB.start (w : World) (x : Nat) (m : Mom) : TwoB w x m ((w.alloc (.cells #[.pointer (some ⟨x, 0, none⟩)] 28)).alloc (.cells m.cells.toArray 44)) := by
  have e1 : (w.alloc (.cells #[.pointer (some ⟨x, 0, none⟩)] 28)).heap.size = w.heap.size + 1 := by simp
  have n1 := Blk.new (w.alloc (.cells #[.pointer (some ⟨x, 0, none⟩)] 28)) m.cells 44
  rw [e1] at n1
  exact ⟨((Below.refl _ _).alloc (Nat.le_refl _) _).alloc (by rw [e1]; omega) _, (Blk.new w [.pointer (some ⟨x, 0, none⟩)] 28).alloc _, n1⟩
theorem TwoB.step {w W W' : World} {x : Nat} {m : Mom} (h : TwoB w x m W) (g : Below W.heap.size W W') : TwoB w x m W' := ⟨h.below.up g h.below.size, h.b0.below g h.b0.lt, h.b1.below g h.b1.lt⟩

set_option maxHeartbeats 400000 in
theorem readSchema_calls (w : World) (x : Nat) (body : ByteArray) (m : Mom) (hb : body.size ≤ 140737488355328) :
    Calls Tryz.prog 63 #[.pointer (some ⟨x, 0, none⟩), .string body, .agg m.cells.toArray] w (ReadS w x body) := by
  have HT := Lib.hid (fun W => TakeSchema_calls body W hb)
  have H2 := Lib.hid (TwoB.start w x m)
  unfold ReadS
  generalize takeSchemaS body = r at *
  obtain ⟨id, t, er⟩ := r
  unfold Mom.cells at H2 ⊢
  go_enter Tryz.func63, Tryz.ntmps63
  go_wp2_with fail
  refine (HT.out _).mono ?_
  rintro e w1 ⟨rfl, hB⟩
  have h1 := H2.out.step hB
  have N1 := Blk.new w1 [.string t] 9
  have HF : Hid (Blk (w1.alloc (.cells #[.string t] 9)) w.heap.size [.pointer (some ⟨x, 0, none⟩)] 28 ∧ Blk (w1.alloc (.cells #[.string t] 9)) w1.heap.size [.string t] 9 ∧ Below w.heap.size w (w1.alloc (.cells #[.string t] 9))) :=
    ⟨h1.b0.alloc _, N1, h1.below.alloc h1.below.size _⟩
  clear hB h1 N1
  go_wp2_with fail
  go_ret3
  exact ⟨_, _, rfl, HF.out⟩

set_option maxHeartbeats 400000 in
theorem readBind_calls (w : World) (x : Nat) (body : ByteArray) (m : Mom) (hb : body.size ≤ 140737488355328) :
    Calls Tryz.prog 64 #[.pointer (some ⟨x, 0, none⟩), .string body, .agg m.cells.toArray] w (ReadB w x body) := by
  have HT := Lib.hid (fun W => TakeBind_calls body W hb)
  have H2 := Lib.hid (TwoB.start w x m)
  unfold ReadB
  generalize takeBindS body = r at *
  obtain ⟨c, er⟩ := r
  unfold Mom.cells at H2 ⊢
  unfold BindC.cells at HT ⊢
  go_enter Tryz.func64, Tryz.ntmps64
  go_wp2_with fail
  refine (HT.out _).mono ?_
  rintro e w1 ⟨rfl, hB⟩
  have h1 := H2.out.step hB
  have N1 := Blk.new w1 [.int .u64 c.id, .int .i64 c.num, .string c.service, .string c.method, .int .i64 c.op] 191
  have HF : Hid (Blk (w1.alloc (.cells #[.int .u64 c.id, .int .i64 c.num, .string c.service, .string c.method, .int .i64 c.op] 191)) w.heap.size [.pointer (some ⟨x, 0, none⟩)] 28 ∧
      Blk (w1.alloc (.cells #[.int .u64 c.id, .int .i64 c.num, .string c.service, .string c.method, .int .i64 c.op] 191)) w1.heap.size [.int .u64 c.id, .int .i64 c.num, .string c.service, .string c.method, .int .i64 c.op] 191 ∧
      Below w.heap.size w (w1.alloc (.cells #[.int .u64 c.id, .int .i64 c.num, .string c.service, .string c.method, .int .i64 c.op] 191))) :=
    ⟨h1.b0.alloc _, N1, h1.below.alloc h1.below.size _⟩
  clear hB h1 N1
  go_wp2_with fail
  go_ret3
  exact ⟨_, _, rfl, HF.out⟩

set_option maxHeartbeats 400000 in
theorem readCall_calls (w : World) (x : Nat) (body : ByteArray) (m : Mom) (hb : body.size ≤ 140737488355328) :
    Calls Tryz.prog 65 #[.pointer (some ⟨x, 0, none⟩), .string body, .agg m.cells.toArray] w (ReadC w x body m) := by
  have HT := Lib.hid (fun W => TakeCall_calls body W hb)
  have H2 := Lib.hid (TwoB.start w x m)
  unfold ReadC
  generalize takeCallS body = r at *
  obtain ⟨c, er⟩ := r
  unfold Mom.cells at H2 ⊢
  unfold CallC.cells at HT ⊢
  go_enter Tryz.func65, Tryz.ntmps65
  go_wp2_with fail
  refine (HT.out _).mono ?_
  rintro e w1 ⟨rfl, hB⟩
  have h1 := H2.out.step hB
  have N1 := Blk.new w1 [.int .u64 c.id, .int .i64 c.wait, .int .i64 c.num, .string c.args] 82
  have HF := Lib.hid (And.intro (h1.b0.alloc (.cells #[.int .u64 c.id, .int .i64 c.wait, .int .i64 c.num, .string c.args] 82)) (And.intro N1 (And.intro (h1.b1.alloc (.cells #[.int .u64 c.id, .int .i64 c.wait, .int .i64 c.num, .string c.args] 82)) (h1.below.alloc h1.below.size (.cells #[.int .u64 c.id, .int .i64 c.wait, .int .i64 c.num, .string c.args] 82)))))
  clear hB h1 N1
  go_wp2_with fail
  go_ret3
  exact ⟨_, _, _, rfl, HF.out⟩

theorem read_calls (k : Int) (w : World) : Calls Tryz.prog 27 #[.int .i64 k] w fun e w' =>
    e = .returned (if k = 6 then .func (.func 63) #[] #[] else if k = 7 then .func (.func 64) #[] #[] else .func (.func 65) #[] #[]) ∧ w = w' := by
  obtain ⟨R, hR⟩ : ∃ R : Value, (if k = 6 then .func (.func 63) #[] #[] else if k = 7 then .func (.func 64) #[] #[] else .func (.func 65) #[] #[]) = R := ⟨_, rfl⟩
  rw [hR]
  by_cases h6 : k = 6
  · rw [if_pos h6] at hR
    subst hR
    have k6 : (k == 6) = true := by rw [beq_iff_eq]; exact h6
    clear h6
    go_enter Tryz.func27, Tryz.ntmps27
    go_wp2_with fail
    go_ret
    exact ⟨rfl, rfl⟩
  · rw [if_neg h6] at hR
    have k6 : (k == 6) = false := by rw [beq_eq_false_iff_ne]; exact h6
    by_cases h7 : k = 7
    · rw [if_pos h7] at hR
      subst hR
      have k7 : (k == 7) = true := by rw [beq_iff_eq]; exact h7
      clear h6 h7
      go_enter Tryz.func27, Tryz.ntmps27
      go_wp2_with fail
      go_ret
      exact ⟨rfl, rfl⟩
    · rw [if_neg h7] at hR
      subst hR
      have k7 : (k == 7) = false := by rw [beq_eq_false_iff_ne]; exact h7
      clear h6 h7
      go_enter Tryz.func27, Tryz.ntmps27
      go_wp2_with fail
      go_ret
      exact ⟨rfl, rfl⟩
end Go.Proofs.YtfoihafhpmbaeaaGreatDoor

/- A reply with whatever status. -/
namespace Go.Proofs.YtfoihafhpmbaeaaGreatDoor
open Go.RowKit

theorem bounded_no (k : Int) (w : World) (h : ¬ (0 ≤ k ∧ k ≤ 1048576)) : Calls Tryz.prog 57 #[.int .i64 k] w fun e w' => e = .returned (.bool false) ∧ w = w' := by
  by_cases h0 : 0 ≤ k
  · have h1 : ¬ k ≤ 1048576 := fun e => h ⟨h0, e⟩
    clear h
    go_enter Tryz.func57, Tryz.ntmps57
    go_wp2_with fail
    go_ret
    exact ⟨rfl, rfl⟩
  · clear h
    go_enter Tryz.func57, Tryz.ntmps57
    go_wp2_with fail
    go_ret
    exact ⟨rfl, rfl⟩

theorem ReplyPut_any (id st : Int) (w : World) (hi : u64ok id) :
    Calls Tryz.prog 29 #[.agg #[.int .u64 id, .int .i64 st, .string ⟨#[]⟩]] w fun e w' => (∃ b n, e = .returned (.tuple #[.string b, .int .i64 n])) ∧ Below w.heap.size w w' := by
  by_cases h : 0 ≤ st ∧ st ≤ 1048576
  · refine (ReplyPut_calls id st ⟨#[]⟩ w hi h.1 h.2 (by decide)).mono ?_
    rintro e w' ⟨rfl, g⟩
    exact ⟨⟨_, _, rfl⟩, g⟩
  · have HB := Lib.hid (fun W => bounded_no st W h)
    clear h
    go_enter Tryz.func29, Tryz.ntmps29
    go_wp2_with fail
    refine (HB.out _).mono ?_
    rintro e w1 ⟨rfl, rfl⟩
    go_wp2_with fail
    go_ret2
    exact ⟨⟨_, _, rfl⟩, (Below.refl _ _).alloc (Nat.le_refl _) _⟩
end Go.Proofs.YtfoihafhpmbaeaaGreatDoor

/- A frame is answered: a new space. -/
namespace Go.Proofs.YtfoihafhpmbaeaaGreatDoor
open Go.RowKit

theorem numR_u64 (b : ByteArray) (s : RS) : u64ok (numR b s).1 := by
  have h := (vtake_ok (b.extract s.pos b.size)).1
  have z : u64ok 0 := by unfold u64ok; omega
  unfold numR
  dsimp only
  split
  · split
    · exact h
    · exact z
  · exact z
theorem takeSchema_u64 (b : ByteArray) : u64ok (takeSchemaS b).1 := by
  have z : u64ok 0 := by unfold u64ok; omega
  unfold takeSchemaS
  dsimp only
  split
  · exact numR_u64 b _
  · exact z
theorem takeBind_u64 (b : ByteArray) : u64ok (takeBindS b).1.id := by
  have z : u64ok 0 := by unfold u64ok; omega
  unfold takeBindS
  dsimp only
  split
  · exact numR_u64 b _
  · exact z
theorem takeCall_u64 (b : ByteArray) : u64ok (takeCallS b).1.id := by
  have z : u64ok 0 := by unfold u64ok; omega
  unfold takeCallS
  dsimp only
  split
  · exact numR_u64 b _
  · exact z
theorem takeCancel_u64 (b : ByteArray) : u64ok (takeCancelS b).1 := by
  have z : u64ok 0 := by unfold u64ok; omega
  unfold takeCancelS
  dsimp only
  split
  · exact numR_u64 b _
  · exact z

theorem ksOf_none (ring : List (Int × ByteArray)) (next : Nat) : ksOf ring next 0 = [] := by simp [ksOf]
theorem getK_none (ring : List (Int × ByteArray)) (next : Nat) (id : Int) : getK (ksOf ring next 0) id = (⟨#[]⟩, false) := by rw [ksOf_none]; rfl

theorem Get_none (w : World) (x : Nat) (s : Sp) (l : List Int) (id : Int) (h : YdAt w x s l) (hn : s.n = 0) :
    Calls Tryz.prog 25 #[.pointer (some ⟨x, 10, none⟩), .int .u64 id] w fun e w' => e = .returned (.tuple #[.string ⟨#[]⟩, .bool false]) ∧ Below w.heap.size w w' := by
  have := Get_calls w x s.ring s.next s.n id (Sp.cache h.ok h.blk)
  rw [hn, getK_none] at this
  exact this

/-- the moment's box, and the space's -/
structure An (w : World) (x : Nat) (s : Sp) (l : List Int) (W : World) : Prop where
  below : Below w.heap.size w W
theorem An.yd {w W : World} {x : Nat} {s : Sp} {l : List Int} (h : An w x s l W) (hy : YdAt w x s l) : YdAt W x s l := hy.below h.below (Nat.le_refl _)

/-- two blocks of different types are two -/
theorem Blk.ne {w : World} {a b : Nat} {c d : List Value} {S T : TypeId} (h : Blk w a c S) (k : Blk w b d T) (hn : S ≠ T) : a ≠ b := by
  rintro rfl
  have := h.symm.trans k
  simp at this
  exact hn this.2
theorem Blk.but {w w' : World} {x b : Nat} {cs : List Value} {T : TypeId} (h : Blk w b cs T) (g : But x w w') (hn : b ≠ x) : Blk w' b cs T := h.keep (g.block b h.lt (fun e => hn (Option.some.inj e)))

theorem OwnU.ne {w : World} {B r : Nat} {l : List Int} {a : Option Addr} {c : Nat} {cs : List Value} {T : TypeId} (h : OwnU w B l a c) (k : Blk w r cs T) (hT : T ≠ 63) : (Value.slice a l.length c).ownBlock ≠ some r := by
  intro e
  rcases h.2 with ⟨h1, h2⟩ | ⟨g, cap, cur, h1, h2, h3, _⟩
  · simp only [Value.slice.injEq] at h1
    obtain ⟨rfl, _⟩ := h1
    simp [Value.ownBlock] at e
  · simp only [Value.slice.injEq] at h1
    obtain ⟨rfl, _⟩ := h1
    simp [Value.ownBlock] at e
    subst e
    have := h3.symm.trans k
    simp at this
    exact hT this.2.symm
theorem YdAt.setOther {w : World} {x r : Nat} {s : Sp} {l : List Int} {cs : List Value} {T : TypeId} (h : YdAt w x s l) (k : Blk w r cs T) (hT : T ≠ 63) (hr : r ≠ x) (i : Nat) (v : Value) : YdAt (w.setCell ⟨r, i, none⟩ v) x s l := by
  obtain ⟨a, c, h1, h2⟩ := h.yard
  exact ⟨h.ok, h.blk.keep (Below.heap_setCell _ _ _ _ (Ne.symm hr)), ⟨a, c, h1, ownsRow_setCell_other h2 (OwnU.ne h2 k hT) v⟩, h.short⟩
theorem Blk.setOther {w : World} {b r : Nat} {cs : List Value} {T : TypeId} (h : Blk w b cs T) (hr : b ≠ r) (i : Nat) (v : Value) : Blk (w.setCell ⟨r, i, none⟩ v) b cs T := h.keep (Below.heap_setCell _ _ _ _ hr)

def AnswerPost (x : Nat) (w : World) (e : Ending) (w' : World) : Prop := (∃ b, e = .returned (.string b)) ∧ Below x w w'

def MomC (w : World) (m : Mom) (W : World) : Prop :=
  W.cell? ⟨w.heap.size, 0, none⟩ = some (.int .i64 m.kind) ∧ W.cell? ⟨w.heap.size, 1, none⟩ = some (.int .i64 m.arrived) ∧ W.cell? ⟨w.heap.size, 2, none⟩ = some (.int .i64 m.now) ∧ W.cell? ⟨w.heap.size, 3, none⟩ = some (.int .i64 m.c0) ∧ W.cell? ⟨w.heap.size, 4, none⟩ = some (.int .i64 m.c1) ∧ W.cell? ⟨w.heap.size, 5, none⟩ = some (.int .i64 m.c2) ∧ W.cell? ⟨w.heap.size, 6, none⟩ = some (.int .i64 m.c3) ∧ W.cell? ⟨w.heap.size, 7, none⟩ = some (.int .i64 m.c4) ∧ W.cell? ⟨w.heap.size, 8, none⟩ = some (.int .i64 m.c5) ∧ W.cell? ⟨w.heap.size, 9, none⟩ = some (.int .i64 m.c6) ∧ W.cell? ⟨w.heap.size, 10, none⟩ = some (.int .i64 m.c7) ∧ W.cell? ⟨w.heap.size, 11, none⟩ = some (.int .i64 m.c8)
theorem MomC.of {w W : World} {m : Mom} (h : Blk W w.heap.size m.cells 44) : MomC w m W :=
  ⟨h.cell 0, h.cell 1, h.cell 2, h.cell 3, h.cell 4, h.cell 5, h.cell 6, h.cell 7, h.cell 8, h.cell 9, h.cell 10, h.cell 11⟩

end Go.Proofs.YtfoihafhpmbaeaaGreatDoor

/- A frame is answered: the three ways. -/
namespace Go.Proofs.YtfoihafhpmbaeaaGreatDoor
open Go.RowKit

set_option maxRecDepth 100000 in
set_option maxHeartbeats 600000 in
theorem answerS (w : World) (x : Nat) (s : Sp) (body : ByteArray) (m : Mom) (h : Unb s) (hy : YdAt w x s []) (hn : s.n = 0) (hm : SpMem x w) (hb : body.size ≤ 140737488355328) (hk : m.kind = 6) :
    Calls Tryz.prog 15 #[.pointer (some ⟨x, 0, none⟩), .string body, .agg m.cells.toArray] w (AnswerPost x w) := by
  have hx := hy.blk.lt
  have hR := fun W => read_calls m.kind W
  rw [if_pos hk] at hR
  have HR := Lib.hid hR
  have h00 : Below w.heap.size w (w.alloc (.cells m.cells.toArray 44)).drew ∧ Blk (w.alloc (.cells m.cells.toArray 44)).drew w.heap.size m.cells 44 := ⟨((Below.refl _ _).alloc (Nat.le_refl _) _).drew, (Blk.new w _ _).keep rfl⟩
  have H1 : Hid (∀ W, Below w.heap.size w W ∧ Blk W w.heap.size m.cells 44 → Calls Tryz.prog 63 #[.pointer (some ⟨x, 0, none⟩), .string body, .agg m.cells.toArray] W fun e w' => ∃ sb tb mb, e = .returned (.tuple #[.int .u64 (takeSchemaS body).1, .func (.func 86) #[] #[.pointer (some ⟨sb, 0, none⟩), .pointer (some ⟨tb, 0, none⟩)], .int .i64 (takeSchemaS body).2.2]) ∧
      (Blk w' sb [.pointer (some ⟨x, 0, none⟩)] 28 ∧ Blk w' tb [.string (takeSchemaS body).2.1] 9 ∧ Blk w' mb [.pointer (some ⟨x, 0, none⟩)] 28 ∧ Below w.heap.size w w') ∧ MomC w m w') := fun W hW =>
    (readSchema_calls W x body m hb).mono (by rintro e w' ⟨sb, tb, rfl, b1, b2, g⟩; exact ⟨sb, tb, sb, rfl, ⟨b1, b2, b1, hW.1.up g hW.1.size⟩, MomC.of (hW.2.below g hW.2.lt)⟩)
  have hu := takeSchema_u64 body
  have HG : Hid (∀ W, YdAt W x s [] → Calls Tryz.prog 25 #[.pointer (some ⟨x, 10, none⟩), .int .u64 (takeSchemaS body).1] W fun e w' => e = .returned (.tuple #[.string ⟨#[]⟩, .bool false]) ∧ Below W.heap.size W w') := fun W hW => Get_none W x s [] _ hW hn
  have HF := Lib.hid (fun W => Fail_calls 0 1 W (by unfold u64ok; omega) (by omega) (by omega))
  have HY : Hid (∀ W, YdAt W x s [] → Calls Tryz.prog 28 #[.pointer (some ⟨x, 28, none⟩), .int .u64 (takeSchemaS body).1] W fun e w' => e = .returned (.bool false) ∧ YdAt w' x s [] ∧ But x W w') := fun W hW => YardTake_no W x s [] _ hW (by simp)
  have HP : Hid (∀ st W, Calls Tryz.prog 29 #[.agg #[.int .u64 (takeSchemaS body).1, .int .i64 st, .string ⟨#[]⟩]] W fun e w' => (∃ b n, e = .returned (.tuple #[.string b, .int .i64 n])) ∧ Below W.heap.size W w') := fun st W => ReplyPut_any _ st W hu
  have HC : Hid (∀ v b W, YdAt W x { s with sch := v } [] → Calls Tryz.prog 30 #[.pointer (some ⟨x, 10, none⟩), .int .u64 (takeSchemaS body).1, .string b] W fun e w' => e = .returned (.int .i64 0) ∧ But x W w') := fun v b W hW =>
    (CachePut_new W x _ _ b hW.ok hW.blk (by show (getK (ksOf s.ring s.next s.n) _).2 = false; rw [hn, getK_none])).mono (by rintro e w' ⟨rfl, _, g⟩; exact ⟨rfl, g⟩)
  have HWk : Hid (∀ W sb tb mb, YdAt W x s [] → SpMem x W → Blk W sb [.pointer (some ⟨x, 0, none⟩)] 28 → Blk W tb [.string (takeSchemaS body).2.1] 9 → Blk W mb [.pointer (some ⟨x, 0, none⟩)] 28 →
      Calls Tryz.prog 86 #[.pointer (some ⟨sb, 0, none⟩), .pointer (some ⟨tb, 0, none⟩)] W (DoneIn x s [] W)) := fun W sb tb mb h1 h2 h3 h4 h5 =>
    WorkS_calls W x s [] _ sb tb h h1 h2 (h3.cell 0) (h4.cell 0)
  have HYd := Lib.hid hy
  have Hm := Lib.hid hm
  clear hy hm hn hu hR h hb hk
  unfold MomC at H1
  unfold Mom.cells at *
  generalize (takeSchemaS body).1 = id at *
  generalize (takeSchemaS body).2.2 = er at *
  generalize ([.string (takeSchemaS body).2.1] : List Value) = ct at *
  unfold AnswerPost
  go_enter Tryz.func15, Tryz.ntmps15
  go_wp2_with fail
  go_region_held3 (fun W =>
      W.cell? ⟨w.heap.size, 0, none⟩ = some (.int .i64 m.kind) ∧ W.cell? ⟨w.heap.size, 1, none⟩ = some (.int .i64 m.arrived) ∧ W.cell? ⟨w.heap.size, 2, none⟩ = some (.int .i64 m.now) ∧ W.cell? ⟨w.heap.size, 3, none⟩ = some (.int .i64 m.c0) ∧ W.cell? ⟨w.heap.size, 4, none⟩ = some (.int .i64 m.c1) ∧ W.cell? ⟨w.heap.size, 5, none⟩ = some (.int .i64 m.c2) ∧ W.cell? ⟨w.heap.size, 6, none⟩ = some (.int .i64 m.c3) ∧ W.cell? ⟨w.heap.size, 7, none⟩ = some (.int .i64 m.c4) ∧ W.cell? ⟨w.heap.size, 8, none⟩ = some (.int .i64 m.c5) ∧ W.cell? ⟨w.heap.size, 9, none⟩ = some (.int .i64 m.c6) ∧ W.cell? ⟨w.heap.size, 10, none⟩ = some (.int .i64 m.c7) ∧ W.cell? ⟨w.heap.size, 11, none⟩ = some (.int .i64 m.c8)
    )
    (first | go_keep | exact ⟨c0, c1, c2, c3, c4, c5, c6, c7, c8, c9, ca, cb⟩)
    ((first
      | (go_at_call 27; refine (HR.out _).mono ?_; rintro e w1 ⟨rfl, rfl⟩)
      | (go_at_call 63; refine (H1.out _ h00).mono ?_; rintro e w1 ⟨sb, tb, mb, rfl, hbx, c0, c1, c2, c3, c4, c5, c6, c7, c8, c9, ca, cb⟩)))
  obtain ⟨b1, b2, b3, B1⟩ := hbx
  have Y1 := HYd.out.below B1 (Nat.le_refl _)
  have hz1 := B1.size
  have hgx : Hid (∀ W, Below w1.heap.size w1 W → Below x w W) := fun W g => (B1.mono (Nat.le_of_lt hx)).trans (g.mono (by omega))
  have n1 : sb ≠ x := b1.ne Y1.blk (by decide)
  have n2 : tb ≠ x := b2.ne Y1.blk (by decide)
  have n3 : mb ≠ x := b3.ne Y1.blk (by decide)
  have HB1 := Lib.hid (And.intro b1 (And.intro b2 b3))
  have HY1 := Lib.hid Y1
  clear c0 c1 c2 c3 c4 c5 c6 c7 c8 c9 ca cb b1 b2 b3 Y1 H1 HR h00
  by_cases he : er = 0
  · have he1 : (er != 0) = false := by rw [bne_eq_false_iff_eq]; exact he
    clear he
    go_wp2_with fail
    refine (HG.out _ HY1.out).mono ?_
    rintro e w2 ⟨rfl, B2⟩
    have hz2 := B2.size
    go_wp2_with fail
    have hA2 : YdAt (w2.alloc (.cells #[.int .u64 id, .int .i64 19, .string ⟨#[]⟩] 96)) x s [] := (HY1.out.below B2 (Nat.le_refl _)).below ((Below.refl _ _).alloc (Nat.le_refl _) _) (Nat.le_refl _)
    refine (HY.out _ hA2).mono ?_
    rintro e w3 ⟨rfl, Y3, G3⟩
    have hxr : w2.heap.size ≠ x := fun e => by have := HY1.out.blk.lt; omega
    have R3 := (Blk.new w2 [.int .u64 id, .int .i64 19, .string ⟨#[]⟩] 96).but G3 hxr
    have b3 := (((HB1.out.1.below B2 HB1.out.1.lt).alloc (.cells #[.int .u64 id, .int .i64 19, .string ⟨#[]⟩] 96)).but G3 n1)
    have b4 := (((HB1.out.2.1.below B2 HB1.out.2.1.lt).alloc (.cells #[.int .u64 id, .int .i64 19, .string ⟨#[]⟩] 96)).but G3 n2)
    have b5 := (((HB1.out.2.2.below B2 HB1.out.2.2.lt).alloc (.cells #[.int .u64 id, .int .i64 19, .string ⟨#[]⟩] 96)).but G3 n3)
    have g3 : Below x w w3 := (hgx.out _ (B2.alloc hz2 _)).trans (G3.toBelow (Nat.le_refl _) (by simp; omega))
    have hx3 := Y3.blk.lt
    have HW3 := HWk.out w3 sb tb mb Y3 (Hm.out.keep g3) b3 b4 b5
    clear b3 b4 b5 HWk HY hA2 HB1 HY1
    go_wp2_with fail
    refine HW3.mono ?_
    rintro e w4 ⟨⟨st, rfl⟩, ⟨v, Y4⟩, G4⟩
    have R4 := R3.but G4 hxr
    have g4 : Below x w w4 := g3.trans (G4.toBelow (Nat.le_refl _) (Nat.le_of_lt hx3))
    have r0 := R4.cell 0
    have r1 := R4.cell 1
    have r2 := R4.cell 2
    have k1 := R4.free 1
    have k2 := R4.free 2
    have Y5 : YdAt ((w4.setCell ⟨w2.heap.size, 2, none⟩ (.string ⟨#[]⟩)).setCell ⟨w2.heap.size, 1, none⟩ (.int .i64 st)) x { s with sch := v } [] := (Y4.setOther R4 (by decide) hxr 2 _).setOther (R4.set 2 _) (by decide) hxr 1 _
    simp only [List.getElem?_cons_zero, List.getElem?_cons_succ] at r0 r1 r2
    clear HW3 R3 R4
    go_wp2_with fail
    refine (HP.out _ _).mono ?_
    rintro e w5 ⟨⟨b, n, rfl⟩, B5⟩
    go_wp2_with fail
    refine (HC.out v b w5 (Y5.below B5 (Nat.le_refl _))).mono ?_
    rintro e w6 ⟨rfl, G6⟩
    go_wp2_with fail
    go_ret
    refine ⟨⟨_, rfl⟩, ?_⟩
    have h3 : x ≤ w2.heap.size := by have := Y4.blk.lt; omega
    have g5 := (g4.setCell (p := ⟨w2.heap.size, 2, none⟩) h3 (.string ⟨#[]⟩)).setCell (p := ⟨w2.heap.size, 1, none⟩) h3 (.int .i64 st)
    have hx5 := Y5.blk.lt
    have z5 := B5.size
    exact (g5.trans (B5.mono (Nat.le_of_lt hx5))).trans (G6.toBelow (Nat.le_refl _) (by omega))
  · have he1 : (er != 0) = true := by rw [bne_iff_ne]; exact he
    clear he
    go_wp2_with fail
    refine (HF.out _).mono ?_
    rintro e w2 ⟨rfl, B2⟩
    go_wp2_with fail
    go_ret
    exact ⟨⟨_, rfl⟩, hgx.out _ B2⟩
set_option maxRecDepth 100000 in
set_option maxHeartbeats 600000 in
theorem answerB (w : World) (x : Nat) (s : Sp) (body : ByteArray) (m : Mom) (h : Unb s) (hy : YdAt w x s []) (hn : s.n = 0) (hm : SpMem x w) (hb : body.size ≤ 140737488355328) (h6 : m.kind ≠ 6) (h7 : m.kind = 7) :
    Calls Tryz.prog 15 #[.pointer (some ⟨x, 0, none⟩), .string body, .agg m.cells.toArray] w (AnswerPost x w) := by
  have hx := hy.blk.lt
  have hR := fun W => read_calls m.kind W
  rw [if_neg h6, if_pos h7] at hR
  have HR := Lib.hid hR
  have h00 : Below w.heap.size w (w.alloc (.cells m.cells.toArray 44)).drew ∧ Blk (w.alloc (.cells m.cells.toArray 44)).drew w.heap.size m.cells 44 := ⟨((Below.refl _ _).alloc (Nat.le_refl _) _).drew, (Blk.new w _ _).keep rfl⟩
  have H1 : Hid (∀ W, Below w.heap.size w W ∧ Blk W w.heap.size m.cells 44 → Calls Tryz.prog 64 #[.pointer (some ⟨x, 0, none⟩), .string body, .agg m.cells.toArray] W fun e w' => ∃ sb tb mb, e = .returned (.tuple #[.int .u64 (takeBindS body).1.id, .func (.func 89) #[] #[.pointer (some ⟨sb, 0, none⟩), .pointer (some ⟨tb, 0, none⟩)], .int .i64 (takeBindS body).2]) ∧
      (Blk w' sb [.pointer (some ⟨x, 0, none⟩)] 28 ∧ Blk w' tb (takeBindS body).1.cells 191 ∧ Blk w' mb [.pointer (some ⟨x, 0, none⟩)] 28 ∧ Below w.heap.size w w') ∧ MomC w m w') := fun W hW =>
    (readBind_calls W x body m hb).mono (by rintro e w' ⟨sb, tb, rfl, b1, b2, g⟩; exact ⟨sb, tb, sb, rfl, ⟨b1, b2, b1, hW.1.up g hW.1.size⟩, MomC.of (hW.2.below g hW.2.lt)⟩)
  have hu := takeBind_u64 body
  have HG : Hid (∀ W, YdAt W x s [] → Calls Tryz.prog 25 #[.pointer (some ⟨x, 10, none⟩), .int .u64 (takeBindS body).1.id] W fun e w' => e = .returned (.tuple #[.string ⟨#[]⟩, .bool false]) ∧ Below W.heap.size W w') := fun W hW => Get_none W x s [] _ hW hn
  have HF := Lib.hid (fun W => Fail_calls 0 1 W (by unfold u64ok; omega) (by omega) (by omega))
  have HY : Hid (∀ W, YdAt W x s [] → Calls Tryz.prog 28 #[.pointer (some ⟨x, 28, none⟩), .int .u64 (takeBindS body).1.id] W fun e w' => e = .returned (.bool false) ∧ YdAt w' x s [] ∧ But x W w') := fun W hW => YardTake_no W x s [] _ hW (by simp)
  have HP : Hid (∀ st W, Calls Tryz.prog 29 #[.agg #[.int .u64 (takeBindS body).1.id, .int .i64 st, .string ⟨#[]⟩]] W fun e w' => (∃ b n, e = .returned (.tuple #[.string b, .int .i64 n])) ∧ Below W.heap.size W w') := fun st W => ReplyPut_any _ st W hu
  have HC : Hid (∀ v b W, YdAt W x { s with sch := v } [] → Calls Tryz.prog 30 #[.pointer (some ⟨x, 10, none⟩), .int .u64 (takeBindS body).1.id, .string b] W fun e w' => e = .returned (.int .i64 0) ∧ But x W w') := fun v b W hW =>
    (CachePut_new W x _ _ b hW.ok hW.blk (by show (getK (ksOf s.ring s.next s.n) _).2 = false; rw [hn, getK_none])).mono (by rintro e w' ⟨rfl, _, g⟩; exact ⟨rfl, g⟩)
  have HWk : Hid (∀ W sb tb mb, YdAt W x s [] → SpMem x W → Blk W sb [.pointer (some ⟨x, 0, none⟩)] 28 → Blk W tb (takeBindS body).1.cells 191 → Blk W mb [.pointer (some ⟨x, 0, none⟩)] 28 →
      Calls Tryz.prog 89 #[.pointer (some ⟨sb, 0, none⟩), .pointer (some ⟨tb, 0, none⟩)] W (DoneIn x s [] W)) := fun W sb tb mb h1 h2 h3 h4 h5 =>
    WorkB_calls W x s [] _ sb tb h h1 (h3.cell 0) h4
  have HYd := Lib.hid hy
  have Hm := Lib.hid hm
  clear hy hm hn hu hR h hb h6 h7
  unfold MomC at H1
  unfold Mom.cells at *
  generalize (takeBindS body).1.id = id at *
  generalize (takeBindS body).2 = er at *
  generalize ((takeBindS body).1.cells : List Value) = ct at *
  unfold AnswerPost
  go_enter Tryz.func15, Tryz.ntmps15
  go_wp2_with fail
  go_region_held3 (fun W =>
      W.cell? ⟨w.heap.size, 0, none⟩ = some (.int .i64 m.kind) ∧ W.cell? ⟨w.heap.size, 1, none⟩ = some (.int .i64 m.arrived) ∧ W.cell? ⟨w.heap.size, 2, none⟩ = some (.int .i64 m.now) ∧ W.cell? ⟨w.heap.size, 3, none⟩ = some (.int .i64 m.c0) ∧ W.cell? ⟨w.heap.size, 4, none⟩ = some (.int .i64 m.c1) ∧ W.cell? ⟨w.heap.size, 5, none⟩ = some (.int .i64 m.c2) ∧ W.cell? ⟨w.heap.size, 6, none⟩ = some (.int .i64 m.c3) ∧ W.cell? ⟨w.heap.size, 7, none⟩ = some (.int .i64 m.c4) ∧ W.cell? ⟨w.heap.size, 8, none⟩ = some (.int .i64 m.c5) ∧ W.cell? ⟨w.heap.size, 9, none⟩ = some (.int .i64 m.c6) ∧ W.cell? ⟨w.heap.size, 10, none⟩ = some (.int .i64 m.c7) ∧ W.cell? ⟨w.heap.size, 11, none⟩ = some (.int .i64 m.c8)
    )
    (first | go_keep | exact ⟨c0, c1, c2, c3, c4, c5, c6, c7, c8, c9, ca, cb⟩)
    ((first
      | (go_at_call 27; refine (HR.out _).mono ?_; rintro e w1 ⟨rfl, rfl⟩)
      | (go_at_call 64; refine (H1.out _ h00).mono ?_; rintro e w1 ⟨sb, tb, mb, rfl, hbx, c0, c1, c2, c3, c4, c5, c6, c7, c8, c9, ca, cb⟩)))
  obtain ⟨b1, b2, b3, B1⟩ := hbx
  have Y1 := HYd.out.below B1 (Nat.le_refl _)
  have hz1 := B1.size
  have hgx : Hid (∀ W, Below w1.heap.size w1 W → Below x w W) := fun W g => (B1.mono (Nat.le_of_lt hx)).trans (g.mono (by omega))
  have n1 : sb ≠ x := b1.ne Y1.blk (by decide)
  have n2 : tb ≠ x := b2.ne Y1.blk (by decide)
  have n3 : mb ≠ x := b3.ne Y1.blk (by decide)
  have HB1 := Lib.hid (And.intro b1 (And.intro b2 b3))
  have HY1 := Lib.hid Y1
  clear c0 c1 c2 c3 c4 c5 c6 c7 c8 c9 ca cb b1 b2 b3 Y1 H1 HR h00
  by_cases he : er = 0
  · have he1 : (er != 0) = false := by rw [bne_eq_false_iff_eq]; exact he
    clear he
    go_wp2_with fail
    refine (HG.out _ HY1.out).mono ?_
    rintro e w2 ⟨rfl, B2⟩
    have hz2 := B2.size
    go_wp2_with fail
    have hA2 : YdAt (w2.alloc (.cells #[.int .u64 id, .int .i64 19, .string ⟨#[]⟩] 96)) x s [] := (HY1.out.below B2 (Nat.le_refl _)).below ((Below.refl _ _).alloc (Nat.le_refl _) _) (Nat.le_refl _)
    refine (HY.out _ hA2).mono ?_
    rintro e w3 ⟨rfl, Y3, G3⟩
    have hxr : w2.heap.size ≠ x := fun e => by have := HY1.out.blk.lt; omega
    have R3 := (Blk.new w2 [.int .u64 id, .int .i64 19, .string ⟨#[]⟩] 96).but G3 hxr
    have b3 := (((HB1.out.1.below B2 HB1.out.1.lt).alloc (.cells #[.int .u64 id, .int .i64 19, .string ⟨#[]⟩] 96)).but G3 n1)
    have b4 := (((HB1.out.2.1.below B2 HB1.out.2.1.lt).alloc (.cells #[.int .u64 id, .int .i64 19, .string ⟨#[]⟩] 96)).but G3 n2)
    have b5 := (((HB1.out.2.2.below B2 HB1.out.2.2.lt).alloc (.cells #[.int .u64 id, .int .i64 19, .string ⟨#[]⟩] 96)).but G3 n3)
    have g3 : Below x w w3 := (hgx.out _ (B2.alloc hz2 _)).trans (G3.toBelow (Nat.le_refl _) (by simp; omega))
    have hx3 := Y3.blk.lt
    have HW3 := HWk.out w3 sb tb mb Y3 (Hm.out.keep g3) b3 b4 b5
    clear b3 b4 b5 HWk HY hA2 HB1 HY1
    go_wp2_with fail
    refine HW3.mono ?_
    rintro e w4 ⟨⟨st, rfl⟩, ⟨v, Y4⟩, G4⟩
    have R4 := R3.but G4 hxr
    have g4 : Below x w w4 := g3.trans (G4.toBelow (Nat.le_refl _) (Nat.le_of_lt hx3))
    have r0 := R4.cell 0
    have r1 := R4.cell 1
    have r2 := R4.cell 2
    have k1 := R4.free 1
    have k2 := R4.free 2
    have Y5 : YdAt ((w4.setCell ⟨w2.heap.size, 2, none⟩ (.string ⟨#[]⟩)).setCell ⟨w2.heap.size, 1, none⟩ (.int .i64 st)) x { s with sch := v } [] := (Y4.setOther R4 (by decide) hxr 2 _).setOther (R4.set 2 _) (by decide) hxr 1 _
    simp only [List.getElem?_cons_zero, List.getElem?_cons_succ] at r0 r1 r2
    clear HW3 R3 R4
    go_wp2_with fail
    refine (HP.out _ _).mono ?_
    rintro e w5 ⟨⟨b, n, rfl⟩, B5⟩
    go_wp2_with fail
    refine (HC.out v b w5 (Y5.below B5 (Nat.le_refl _))).mono ?_
    rintro e w6 ⟨rfl, G6⟩
    go_wp2_with fail
    go_ret
    refine ⟨⟨_, rfl⟩, ?_⟩
    have h3 : x ≤ w2.heap.size := by have := Y4.blk.lt; omega
    have g5 := (g4.setCell (p := ⟨w2.heap.size, 2, none⟩) h3 (.string ⟨#[]⟩)).setCell (p := ⟨w2.heap.size, 1, none⟩) h3 (.int .i64 st)
    have hx5 := Y5.blk.lt
    have z5 := B5.size
    exact (g5.trans (B5.mono (Nat.le_of_lt hx5))).trans (G6.toBelow (Nat.le_refl _) (by omega))
  · have he1 : (er != 0) = true := by rw [bne_iff_ne]; exact he
    clear he
    go_wp2_with fail
    refine (HF.out _).mono ?_
    rintro e w2 ⟨rfl, B2⟩
    go_wp2_with fail
    go_ret
    exact ⟨⟨_, rfl⟩, hgx.out _ B2⟩
set_option maxRecDepth 100000 in
set_option maxHeartbeats 600000 in
theorem answerC (w : World) (x : Nat) (s : Sp) (body : ByteArray) (m : Mom) (h : Unb s) (hy : YdAt w x s []) (hn : s.n = 0) (hm : SpMem x w) (hb : body.size ≤ 140737488355328) (ho : m.Ok) (h6 : m.kind ≠ 6) (h7 : m.kind ≠ 7) :
    Calls Tryz.prog 15 #[.pointer (some ⟨x, 0, none⟩), .string body, .agg m.cells.toArray] w (AnswerPost x w) := by
  have hx := hy.blk.lt
  have hR := fun W => read_calls m.kind W
  rw [if_neg h6, if_neg h7] at hR
  have HR := Lib.hid hR
  have h00 : Below w.heap.size w (w.alloc (.cells m.cells.toArray 44)).drew ∧ Blk (w.alloc (.cells m.cells.toArray 44)).drew w.heap.size m.cells 44 := ⟨((Below.refl _ _).alloc (Nat.le_refl _) _).drew, (Blk.new w _ _).keep rfl⟩
  have H1 : Hid (∀ W, Below w.heap.size w W ∧ Blk W w.heap.size m.cells 44 → Calls Tryz.prog 65 #[.pointer (some ⟨x, 0, none⟩), .string body, .agg m.cells.toArray] W fun e w' => ∃ sb tb mb, e = .returned (.tuple #[.int .u64 (takeCallS body).1.id, .func (.func 92) #[] #[.pointer (some ⟨sb, 0, none⟩), .pointer (some ⟨tb, 0, none⟩), .pointer (some ⟨mb, 0, none⟩)], .int .i64 (takeCallS body).2]) ∧
      (Blk w' sb [.pointer (some ⟨x, 0, none⟩)] 28 ∧ Blk w' tb (takeCallS body).1.cells 82 ∧ Blk w' mb m.cells 44 ∧ Below w.heap.size w w') ∧ MomC w m w') := fun W hW =>
    (readCall_calls W x body m hb).mono (by rintro e w' ⟨sb, tb, mb, rfl, b1, b2, b3, g⟩; exact ⟨sb, tb, mb, rfl, ⟨b1, b2, b3, hW.1.up g hW.1.size⟩, MomC.of (hW.2.below g hW.2.lt)⟩)
  have hu := takeCall_u64 body
  have HG : Hid (∀ W, YdAt W x s [] → Calls Tryz.prog 25 #[.pointer (some ⟨x, 10, none⟩), .int .u64 (takeCallS body).1.id] W fun e w' => e = .returned (.tuple #[.string ⟨#[]⟩, .bool false]) ∧ Below W.heap.size W w') := fun W hW => Get_none W x s [] _ hW hn
  have HF := Lib.hid (fun W => Fail_calls 0 1 W (by unfold u64ok; omega) (by omega) (by omega))
  have HY : Hid (∀ W, YdAt W x s [] → Calls Tryz.prog 28 #[.pointer (some ⟨x, 28, none⟩), .int .u64 (takeCallS body).1.id] W fun e w' => e = .returned (.bool false) ∧ YdAt w' x s [] ∧ But x W w') := fun W hW => YardTake_no W x s [] _ hW (by simp)
  have HP : Hid (∀ st W, Calls Tryz.prog 29 #[.agg #[.int .u64 (takeCallS body).1.id, .int .i64 st, .string ⟨#[]⟩]] W fun e w' => (∃ b n, e = .returned (.tuple #[.string b, .int .i64 n])) ∧ Below W.heap.size W w') := fun st W => ReplyPut_any _ st W hu
  have HC : Hid (∀ v b W, YdAt W x { s with sch := v } [] → Calls Tryz.prog 30 #[.pointer (some ⟨x, 10, none⟩), .int .u64 (takeCallS body).1.id, .string b] W fun e w' => e = .returned (.int .i64 0) ∧ But x W w') := fun v b W hW =>
    (CachePut_new W x _ _ b hW.ok hW.blk (by show (getK (ksOf s.ring s.next s.n) _).2 = false; rw [hn, getK_none])).mono (by rintro e w' ⟨rfl, _, g⟩; exact ⟨rfl, g⟩)
  have HWk : Hid (∀ W sb tb mb, YdAt W x s [] → SpMem x W → Blk W sb [.pointer (some ⟨x, 0, none⟩)] 28 → Blk W tb (takeCallS body).1.cells 82 → Blk W mb m.cells 44 →
      Calls Tryz.prog 92 #[.pointer (some ⟨sb, 0, none⟩), .pointer (some ⟨tb, 0, none⟩), .pointer (some ⟨mb, 0, none⟩)] W (DoneIn x s [] W)) := fun W sb tb mb h1 h2 h3 h4 h5 =>
    WorkC_calls W x s [] _ m sb tb mb h h1 ho (h3.cell 0) h4 h5
  have HYd := Lib.hid hy
  have Hm := Lib.hid hm
  clear hy hm hn hu hR h hb ho h6 h7
  unfold MomC at H1
  unfold Mom.cells at *
  generalize (takeCallS body).1.id = id at *
  generalize (takeCallS body).2 = er at *
  generalize ((takeCallS body).1.cells : List Value) = ct at *
  unfold AnswerPost
  go_enter Tryz.func15, Tryz.ntmps15
  go_wp2_with fail
  go_region_held3 (fun W =>
      W.cell? ⟨w.heap.size, 0, none⟩ = some (.int .i64 m.kind) ∧ W.cell? ⟨w.heap.size, 1, none⟩ = some (.int .i64 m.arrived) ∧ W.cell? ⟨w.heap.size, 2, none⟩ = some (.int .i64 m.now) ∧ W.cell? ⟨w.heap.size, 3, none⟩ = some (.int .i64 m.c0) ∧ W.cell? ⟨w.heap.size, 4, none⟩ = some (.int .i64 m.c1) ∧ W.cell? ⟨w.heap.size, 5, none⟩ = some (.int .i64 m.c2) ∧ W.cell? ⟨w.heap.size, 6, none⟩ = some (.int .i64 m.c3) ∧ W.cell? ⟨w.heap.size, 7, none⟩ = some (.int .i64 m.c4) ∧ W.cell? ⟨w.heap.size, 8, none⟩ = some (.int .i64 m.c5) ∧ W.cell? ⟨w.heap.size, 9, none⟩ = some (.int .i64 m.c6) ∧ W.cell? ⟨w.heap.size, 10, none⟩ = some (.int .i64 m.c7) ∧ W.cell? ⟨w.heap.size, 11, none⟩ = some (.int .i64 m.c8)
    )
    (first | go_keep | exact ⟨c0, c1, c2, c3, c4, c5, c6, c7, c8, c9, ca, cb⟩)
    ((first
      | (go_at_call 27; refine (HR.out _).mono ?_; rintro e w1 ⟨rfl, rfl⟩)
      | (go_at_call 65; refine (H1.out _ h00).mono ?_; rintro e w1 ⟨sb, tb, mb, rfl, hbx, c0, c1, c2, c3, c4, c5, c6, c7, c8, c9, ca, cb⟩)))
  obtain ⟨b1, b2, b3, B1⟩ := hbx
  have Y1 := HYd.out.below B1 (Nat.le_refl _)
  have hz1 := B1.size
  have hgx : Hid (∀ W, Below w1.heap.size w1 W → Below x w W) := fun W g => (B1.mono (Nat.le_of_lt hx)).trans (g.mono (by omega))
  have n1 : sb ≠ x := b1.ne Y1.blk (by decide)
  have n2 : tb ≠ x := b2.ne Y1.blk (by decide)
  have n3 : mb ≠ x := b3.ne Y1.blk (by decide)
  have HB1 := Lib.hid (And.intro b1 (And.intro b2 b3))
  have HY1 := Lib.hid Y1
  clear c0 c1 c2 c3 c4 c5 c6 c7 c8 c9 ca cb b1 b2 b3 Y1 H1 HR h00
  by_cases he : er = 0
  · have he1 : (er != 0) = false := by rw [bne_eq_false_iff_eq]; exact he
    clear he
    go_wp2_with fail
    refine (HG.out _ HY1.out).mono ?_
    rintro e w2 ⟨rfl, B2⟩
    have hz2 := B2.size
    go_wp2_with fail
    have hA2 : YdAt (w2.alloc (.cells #[.int .u64 id, .int .i64 19, .string ⟨#[]⟩] 96)) x s [] := (HY1.out.below B2 (Nat.le_refl _)).below ((Below.refl _ _).alloc (Nat.le_refl _) _) (Nat.le_refl _)
    refine (HY.out _ hA2).mono ?_
    rintro e w3 ⟨rfl, Y3, G3⟩
    have hxr : w2.heap.size ≠ x := fun e => by have := HY1.out.blk.lt; omega
    have R3 := (Blk.new w2 [.int .u64 id, .int .i64 19, .string ⟨#[]⟩] 96).but G3 hxr
    have b3 := (((HB1.out.1.below B2 HB1.out.1.lt).alloc (.cells #[.int .u64 id, .int .i64 19, .string ⟨#[]⟩] 96)).but G3 n1)
    have b4 := (((HB1.out.2.1.below B2 HB1.out.2.1.lt).alloc (.cells #[.int .u64 id, .int .i64 19, .string ⟨#[]⟩] 96)).but G3 n2)
    have b5 := (((HB1.out.2.2.below B2 HB1.out.2.2.lt).alloc (.cells #[.int .u64 id, .int .i64 19, .string ⟨#[]⟩] 96)).but G3 n3)
    have g3 : Below x w w3 := (hgx.out _ (B2.alloc hz2 _)).trans (G3.toBelow (Nat.le_refl _) (by simp; omega))
    have hx3 := Y3.blk.lt
    have HW3 := HWk.out w3 sb tb mb Y3 (Hm.out.keep g3) b3 b4 b5
    clear b3 b4 b5 HWk HY hA2 HB1 HY1
    go_wp2_with fail
    refine HW3.mono ?_
    rintro e w4 ⟨⟨st, rfl⟩, ⟨v, Y4⟩, G4⟩
    have R4 := R3.but G4 hxr
    have g4 : Below x w w4 := g3.trans (G4.toBelow (Nat.le_refl _) (Nat.le_of_lt hx3))
    have r0 := R4.cell 0
    have r1 := R4.cell 1
    have r2 := R4.cell 2
    have k1 := R4.free 1
    have k2 := R4.free 2
    have Y5 : YdAt ((w4.setCell ⟨w2.heap.size, 2, none⟩ (.string ⟨#[]⟩)).setCell ⟨w2.heap.size, 1, none⟩ (.int .i64 st)) x { s with sch := v } [] := (Y4.setOther R4 (by decide) hxr 2 _).setOther (R4.set 2 _) (by decide) hxr 1 _
    simp only [List.getElem?_cons_zero, List.getElem?_cons_succ] at r0 r1 r2
    clear HW3 R3 R4
    go_wp2_with fail
    refine (HP.out _ _).mono ?_
    rintro e w5 ⟨⟨b, n, rfl⟩, B5⟩
    go_wp2_with fail
    refine (HC.out v b w5 (Y5.below B5 (Nat.le_refl _))).mono ?_
    rintro e w6 ⟨rfl, G6⟩
    go_wp2_with fail
    go_ret
    refine ⟨⟨_, rfl⟩, ?_⟩
    have h3 : x ≤ w2.heap.size := by have := Y4.blk.lt; omega
    have g5 := (g4.setCell (p := ⟨w2.heap.size, 2, none⟩) h3 (.string ⟨#[]⟩)).setCell (p := ⟨w2.heap.size, 1, none⟩) h3 (.int .i64 st)
    have hx5 := Y5.blk.lt
    have z5 := B5.size
    exact (g5.trans (B5.mono (Nat.le_of_lt hx5))).trans (G6.toBelow (Nat.le_refl _) (by omega))
  · have he1 : (er != 0) = true := by rw [bne_iff_ne]; exact he
    clear he
    go_wp2_with fail
    refine (HF.out _).mono ?_
    rintro e w2 ⟨rfl, B2⟩
    go_wp2_with fail
    go_ret
    exact ⟨⟨_, rfl⟩, hgx.out _ B2⟩
end Go.Proofs.YtfoihafhpmbaeaaGreatDoor

/- A call that was cancelled ahead is answered; a cancel is dealt with. -/
namespace Go.Proofs.YtfoihafhpmbaeaaGreatDoor
open Go.RowKit


set_option maxRecDepth 100000 in
set_option maxHeartbeats 600000 in
theorem answerGone (w : World) (x : Nat) (s : Sp) (body : ByteArray) (m : Mom) (id : Int) (hid : (takeCallS body).1.id = id) (hy : YdAt w x s [id]) (hn : s.n = 0) (hb : body.size ≤ 140737488355328) (h6 : m.kind ≠ 6) (h7 : m.kind ≠ 7) (he0 : (takeCallS body).2 = 0) :
    Calls Tryz.prog 15 #[.pointer (some ⟨x, 0, none⟩), .string body, .agg m.cells.toArray] w fun e w' => e = .returned (.string (replyS id 19 ⟨#[]⟩)) ∧ (∃ v, YdAt w' x (({ s with yard := v } : Sp).keep id (replyS id 19 ⟨#[]⟩)) []) ∧ Below x w w' := by
  have hx := hy.blk.lt
  have hR := fun W => read_calls m.kind W
  rw [if_neg h6, if_neg h7] at hR
  have HR := Lib.hid hR
  have h00 : Below w.heap.size w (w.alloc (.cells m.cells.toArray 44)).drew ∧ Blk (w.alloc (.cells m.cells.toArray 44)).drew w.heap.size m.cells 44 := ⟨((Below.refl _ _).alloc (Nat.le_refl _) _).drew, (Blk.new w _ _).keep rfl⟩
  have H1 : Hid (∀ W, Below w.heap.size w W ∧ Blk W w.heap.size m.cells 44 → Calls Tryz.prog 65 #[.pointer (some ⟨x, 0, none⟩), .string body, .agg m.cells.toArray] W fun e w' => ∃ sb tb mb, e = .returned (.tuple #[.int .u64 id, .func (.func 92) #[] #[.pointer (some ⟨sb, 0, none⟩), .pointer (some ⟨tb, 0, none⟩), .pointer (some ⟨mb, 0, none⟩)], .int .i64 0]) ∧
      Below w.heap.size w w' ∧ MomC w m w') := fun W hW =>
    (readCall_calls W x body m hb).mono (by rintro e w' ⟨sb, tb, mb, rfl, b1, b2, b3, g⟩; exact ⟨sb, tb, mb, by rw [hid, he0], hW.1.up g hW.1.size, MomC.of (hW.2.below g hW.2.lt)⟩)
  have hu : u64ok id := hid ▸ takeCall_u64 body
  have HG : Hid (∀ W, YdAt W x s [id] → Calls Tryz.prog 25 #[.pointer (some ⟨x, 10, none⟩), .int .u64 id] W fun e w' => e = .returned (.tuple #[.string ⟨#[]⟩, .bool false]) ∧ Below W.heap.size W w') := fun W hW => Get_none W x s _ _ hW hn
  have HY : Hid (∀ W r cs, YdAt W x s [id] → Blk W r cs 96 → r ≠ x → Calls Tryz.prog 28 #[.pointer (some ⟨x, 28, none⟩), .int .u64 id] W fun e w' => e = .returned (.bool true) ∧ (∃ v, YdAt w' x { s with yard := v } []) ∧ Below x W w' ∧ Blk w' r cs 96) := fun W r cs hW hr hrx =>
    (YardTake_one W x s _ hW).mono (by
      rintro e w' ⟨rfl, h1, h2, h3⟩
      obtain ⟨a, c, q1, q2⟩ := hW.yard
      exact ⟨rfl, h1, h2, hr.keep (h3 r hr.lt hrx (by rw [q1]; exact OwnU.ne q2 hr (by decide)))⟩)
  have HP := Lib.hid (fun W => ReplyPut_calls id 19 ⟨#[]⟩ W hu (by omega) (by omega) (by decide))
  have HC : Hid (∀ v b W, YdAt W x { s with yard := v } [] → Calls Tryz.prog 30 #[.pointer (some ⟨x, 10, none⟩), .int .u64 id, .string b] W fun e w' => e = .returned (.int .i64 0) ∧ YdAt w' x (({ s with yard := v } : Sp).keep id b) [] ∧ But x W w') := fun v b W hW =>
    (CachePut_new W x _ _ b hW.ok hW.blk (by show (getK (ksOf s.ring s.next s.n) _).2 = false; rw [hn, getK_none])).mono (by
      rintro e w' ⟨rfl, hs, g⟩
      obtain ⟨a, c, q1, q2⟩ := hW.yard
      refine ⟨rfl, ⟨Sp.keep_ok hW.ok id b, hs, ⟨a, c, q1, ?_⟩, hW.short⟩, g⟩
      exact q2.kept g (.inr (fun e => by have := (q2.lt x e).1; omega)))
  have HYd := Lib.hid hy
  clear hy hn hu hR hb h6 h7 he0 hid
  unfold MomC at H1
  unfold Mom.cells at *
  generalize replyS id 19 ⟨#[]⟩ = Rp at *
  go_enter Tryz.func15, Tryz.ntmps15
  go_wp2_with fail
  go_region_held3 (fun W =>
      W.cell? ⟨w.heap.size, 0, none⟩ = some (.int .i64 m.kind) ∧ W.cell? ⟨w.heap.size, 1, none⟩ = some (.int .i64 m.arrived) ∧ W.cell? ⟨w.heap.size, 2, none⟩ = some (.int .i64 m.now) ∧ W.cell? ⟨w.heap.size, 3, none⟩ = some (.int .i64 m.c0) ∧ W.cell? ⟨w.heap.size, 4, none⟩ = some (.int .i64 m.c1) ∧ W.cell? ⟨w.heap.size, 5, none⟩ = some (.int .i64 m.c2) ∧ W.cell? ⟨w.heap.size, 6, none⟩ = some (.int .i64 m.c3) ∧ W.cell? ⟨w.heap.size, 7, none⟩ = some (.int .i64 m.c4) ∧ W.cell? ⟨w.heap.size, 8, none⟩ = some (.int .i64 m.c5) ∧ W.cell? ⟨w.heap.size, 9, none⟩ = some (.int .i64 m.c6) ∧ W.cell? ⟨w.heap.size, 10, none⟩ = some (.int .i64 m.c7) ∧ W.cell? ⟨w.heap.size, 11, none⟩ = some (.int .i64 m.c8)
    )
    (first | go_keep | exact ⟨c0, c1, c2, c3, c4, c5, c6, c7, c8, c9, ca, cb⟩)
    ((first
      | (go_at_call 27; refine (HR.out _).mono ?_; rintro e w1 ⟨rfl, rfl⟩)
      | (go_at_call 65; refine (H1.out _ h00).mono ?_; rintro e w1 ⟨sb, tb, mb, rfl, B1, c0, c1, c2, c3, c4, c5, c6, c7, c8, c9, ca, cb⟩)))
  have Y1 := HYd.out.below B1 (Nat.le_refl _)
  have hz1 := B1.size
  have HY1 := Lib.hid Y1
  clear c0 c1 c2 c3 c4 c5 c6 c7 c8 c9 ca cb Y1 H1 HR h00
  go_wp2_with fail
  refine (HG.out _ HY1.out).mono ?_
  rintro e w2 ⟨rfl, B2⟩
  have hz2 := B2.size
  go_wp2_with fail
  have hA2 : YdAt (w2.alloc (.cells #[.int .u64 id, .int .i64 19, .string ⟨#[]⟩] 96)) x s [id] := (HY1.out.below B2 (Nat.le_refl _)).below ((Below.refl _ _).alloc (Nat.le_refl _) _) (Nat.le_refl _)
  have hxr : w2.heap.size ≠ x := fun e => by have := HY1.out.blk.lt; omega
  refine (HY.out _ w2.heap.size _ hA2 (Blk.new w2 [.int .u64 id, .int .i64 19, .string ⟨#[]⟩] 96) hxr).mono ?_
  rintro e w3 ⟨rfl, ⟨v, Y3⟩, G3, R3⟩
  have r0 := R3.cell 0
  have r1 := R3.cell 1
  have r2 := R3.cell 2
  simp only [List.getElem?_cons_zero, List.getElem?_cons_succ] at r0 r1 r2
  have g3 : Below x w w3 := ((B1.mono (Nat.le_of_lt hx)).trans ((B2.alloc hz2 _).mono (by omega))).trans G3
  have HY3 := Lib.hid (And.intro Y3 g3)
  clear R3 Y3 hA2 HY1 HY HG G3 HYd g3
  go_wp2_with fail
  refine (HP.out _).mono ?_
  rintro e w5 ⟨rfl, B5⟩
  have Y5 := HY3.out.1.below B5 (Nat.le_refl _)
  go_wp2_with fail
  refine (HC.out v Rp w5 Y5).mono ?_
  rintro e w6 ⟨rfl, Y6, G6⟩
  have HF := Lib.hid (And.intro Y6 G6)
  clear Y6 G6
  go_wp2_with fail
  go_ret
  refine ⟨rfl, ⟨v, HF.out.1⟩, ?_⟩
  have hx3 := HY3.out.1.blk.lt
  have z5 := B5.size
  exact (HY3.out.2.trans (B5.mono (Nat.le_of_lt hx3))).trans (HF.out.2.toBelow (Nat.le_refl _) (by omega))
end Go.Proofs.YtfoihafhpmbaeaaGreatDoor
