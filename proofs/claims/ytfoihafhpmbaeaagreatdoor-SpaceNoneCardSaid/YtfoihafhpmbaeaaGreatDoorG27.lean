/- A schema is made of declarations, of a text. -/
import Derived.Test.YtfoihafhpmbaeaaGreatDoorG26
namespace Go.Proofs.YtfoihafhpmbaeaaGreatDoor
open Go.RowKit

/-- a schema, made ready by nobody yet -/
def DescAt (S : Blocks) (w : World) (db : Nat) (l : List Dcl) : Prop :=
  ∃ a c, Blk w db [.slice a l.length c, .int .u32 0, .int .i32 0, .int .u32 0, .pointer none, .map none] 116 ∧ RSl 5 (RDcl S w) S w l a c
/-- a schema, or a fault -/
def DscPost (w : World) (e : Ending) (w' : World) : Prop :=
  Below w.heap.size w w' ∧ ((∃ n p : Int, n ≠ 0 ∧ e = .returned (.tuple #[.pointer none, .agg #[.int .i64 n, .int .i64 p]])) ∨
    (∃ db l, w.heap.size ≤ db ∧ e = .returned (.tuple #[.pointer (some ⟨db, 0, none⟩), .agg #[.int .i64 0, .int .i64 0]]) ∧ DescAt (New w w') w' db l))

set_option maxHeartbeats 1000000 in
theorem DescOf_wk {S : Blocks} {l : List Dcl} {la : Option Addr} {lc : Nat} {w : World} (h : RSl 5 (RDcl S w) S w l la lc) (hU : Under S w) (hl : l.length ≤ 1000) :
    Calls Tryz.prog 148 #[.slice la l.length lc] w (DscPost w) := by
  have R0 := Blk.new w [.int .i64 0, .int .i64 0] 221
  have gA : Below w.heap.size w (w.alloc (.cells #[.int .i64 0, .int .i64 0] 221)) := (Below.refl _ _).alloc (Nat.le_refl _) _
  have HK : Hid (∀ W, Below w.heap.size w W → Calls Tryz.prog 188 #[.slice la l.length lc] W (WkF W)) := fun W g =>
    Check_wk (h.keep (hU.same g) (Sub.refl _) (fun _ _ _ hx => hx.keep (hU.same g) (Sub.refl _))) (hU.below g) hl
  have HD : Hid (∀ W, Below w.heap.size w W → Calls Tryz.prog 31 #[.slice la l.length lc] W (DclsPost W l)) := fun W g =>
    decls_calls (h.keep (hU.same g) (Sub.refl _) (fun _ _ _ hx => hx.keep (hU.same g) (Sub.refl _))) (hU.below g)
  obtain ⟨n, hn⟩ : ∃ n, l.length = n := ⟨_, rfl⟩
  have Hn := Lib.hid hn
  rw [hn] at HK HD
  rw [show (Value.slice la l.length lc) = Value.slice la n lc by rw [hn]]
  clear hn h hl
  go_enter Tryz.func148, Tryz.ntmps148
  go_wp2_with fail
  refine (HK.out _ gA).mono ?_
  rintro e w1 ⟨er, p, rfl, he0, he1, hB⟩
  have R1 := R0.below hB R0.lt
  have B1 : Below w.heap.size w w1 := gA.up hB gA.size
  have r0 := R1.cell 0
  have r1 := R1.cell 1
  have rf0 := R1.free 0
  have rf1 := R1.free 1
  have rl := R1.lt
  simp at r0 r1
  have z1 := B1.size
  by_cases hn : er = 0
  · subst hn
    have B2 : Below w.heap.size w (w1.alloc (.cells #[.int .i64 0, .int .i64 p] 221)) := B1.alloc z1 _
    have HB := Lib.hid B2
    have HR := Lib.hid R1
    clear R0 gA hB B1 B2 R1 HK
    go_wp2_with fail
    refine (HD.out _ HB.out).mono ?_
    rintro e w3 ⟨a', c', rfl, hrd, hB3⟩
    rw [Hn.out]
    have B3 := HB.out.up hB3 (by simp; omega)
    have R3 := (HR.out.alloc (.cells #[.int .i64 0, .int .i64 p] 221)).below hB3 (by simp; omega)
    have r0 := R3.cell 0
    have r1 := R3.cell 1
    have rf0 := R3.free 0
    have rf1 := R3.free 1
    have rl3 := R3.lt
    simp at r0 r1
    have z3 := hB3.size
    have HB3 := Lib.hid B3
    have HR3 := Lib.hid R3
    have Hrd := Lib.hid hrd
    clear B3 R3 hrd hB3
    go_wp2_with fail
    refine end_world (fun W => Below w.heap.size w W ∧ Blk W w.heap.size [.int .i64 0, .int .i64 0] 221 ∧ DescAt (New w W) W w3.heap.size l) ?_ ?_
    · have D3 := Blk.new w3 [.slice a' n c', .int .u32 0, .int .i32 0, .int .u32 0, .pointer none, .map none] 116
      have hzw : w.heap.size ≤ (w1.alloc (.cells #[.int .i64 0, .int .i64 p] 221)).heap.size := HB.out.size
      refine ⟨?_, ?_, a', c', ?_, ?_⟩
      · first
          | exact ((HB3.out.setCell (p := ⟨w.heap.size, 0, none⟩) (Nat.le_refl _) _).setCell (p := ⟨w.heap.size, 1, none⟩) (Nat.le_refl _) _).alloc (by simpa [World.setCell] using HB3.out.size) _
          | exact ((HB3.out.alloc HB3.out.size _).setCell (p := ⟨w.heap.size, 0, none⟩) (Nat.le_refl _) _).setCell (p := ⟨w.heap.size, 1, none⟩) (Nat.le_refl _) _
      · first
          | exact ((HR3.out.set 0 _).set 1 _).alloc _
          | exact ((HR3.out.alloc _).set 0 _).set 1 _
      · rw [Hn.out]
        first
          | exact (D3.keep (Below.heap_setCell _ _ _ _ (by show w3.heap.size ≠ w.heap.size; omega))).keep (Below.heap_setCell _ _ _ _ (by show w3.heap.size ≠ w.heap.size; omega))
          | (have := Blk.new ((w3.setCell ⟨w.heap.size, 0, none⟩ (.int .i64 0)).setCell ⟨w.heap.size, 1, none⟩ (.int .i64 0)) [.slice a' n c', .int .u32 0, .int .i32 0, .int .u32 0, .pointer none, .map none] 116
             simpa [World.setCell] using this)
      · have hs : ∀ b, New (w1.alloc (.cells #[.int .i64 0, .int .i64 p] 221)) w3 b → b < w3.heap.size ∧ b ≠ w.heap.size ∧ w.heap.size ≤ b := fun b hb => ⟨hb.2, by have := hb.1; simp at this; omega, by have := hb.1; omega⟩
        refine Hrd.out.keep (fun b hb => ?_) (fun b hb => ⟨(hs b hb).2.2, ?_⟩) (fun _ _ _ hx => hx.keep (fun b hb => ?_) (fun b hb => ⟨(hs b hb).2.2, ?_⟩))
        all_goals
          obtain ⟨h1, h2, h3⟩ := hs b hb
          first
            | (rw [Below.heap_setCell _ _ _ _ h2, Below.heap_setCell _ _ _ _ h2, Below.heap_alloc _ _ _ h1])
            | (rw [Below.heap_alloc _ _ _ (by simpa [World.setCell] using h1), Below.heap_setCell _ _ _ _ h2, Below.heap_setCell _ _ _ _ h2])
            | (simp [World.setCell]; omega)
    rintro W ⟨hWB, hWX, hWD⟩
    have q0 := hWX.cell 0
    have q1 := hWX.cell 1
    simp at q0 q1
    refine bodyPost_ret (v := .tuple #[.pointer (some ⟨w3.heap.size, 0, none⟩), .agg #[.int .i64 0, .int .i64 0]]) (by simp [results, Tryz.results148, go_sem, q0, q1]) rfl ?_
    exact ⟨hWB, .inr ⟨w3.heap.size, l, by have := HB3.out.size; omega, rfl, hWD⟩⟩
  · have hn2 : (er != 0) = true := by rw [bne_iff_ne]; exact hn
    have her : 0 < er := by omega
    clear hn
    have HB := Lib.hid B1
    have HR := Lib.hid R1
    clear R0 gA hB B1 R1 HK HD
    go_wp2_with fail
    go_region
    all_goals
      go_wp2_with fail
      refine end_world (fun W => Below w.heap.size w W ∧ Blk W w.heap.size [.int .i64 er, .int .i64 p] 221) ?_ ?_
      · first
          | exact ⟨(((HB.out.setCell (p := ⟨w.heap.size, 0, none⟩) (Nat.le_refl _) _).setCell (p := ⟨w.heap.size, 1, none⟩) (Nat.le_refl _) _).alloc (by simpa [World.setCell] using z1) _).drew, (((HR.out.set 0 _).set 1 _).alloc _)⟩
          | exact ⟨(((HB.out.alloc z1 _).setCell (p := ⟨w.heap.size, 0, none⟩) (Nat.le_refl _) _).setCell (p := ⟨w.heap.size, 1, none⟩) (Nat.le_refl _) _).drew, (((HR.out.alloc _).set 0 _).set 1 _)⟩
      rintro W ⟨hWB, hWX⟩
      have q0 := hWX.cell 0
      have q1 := hWX.cell 1
      simp at q0 q1
      refine bodyPost_ret (v := .tuple #[.pointer none, .agg #[.int .i64 er, .int .i64 p]]) (by simp [results, Tryz.results148, go_sem, q0, q1]) rfl ?_
      exact ⟨hWB, .inl ⟨er, p, by omega, rfl⟩⟩
end Go.Proofs.YtfoihafhpmbaeaaGreatDoor

/- A schema is read. -/
namespace Go.Proofs.YtfoihafhpmbaeaaGreatDoor
open Go.RowKit

theorem declsF_len (toks : List Tok) : ∀ (f : Nat) (p : PS) (l : List Dcl), (declsF toks f p l).1.length ≤ l.length + f
  | 0, p, l => by simp [declsF]
  | f + 1, p, l => by
    unfold declsF
    split
    · split
      · simp
      · split
        · simp
        · have := declsF_len toks f (declF toks p).2 (l ++ [(declF toks p).1])
          rw [List.length_append] at this
          simp only [List.length_cons, List.length_nil] at this
          omega
    · simp
theorem parseS_len (s : ByteArray) : (parseS s).2.length ≤ 17 := by
  unfold parseS
  split
  · have := declsF_len (lexS s).2 17 ⟨0, 0, 0⟩ []
    simp only
    split
    · simpa using this
    · simp
  · simp

theorem Tokens_long (s : ByteArray) (w : World) (h1 : 1024 < s.size) :
    Calls Tryz.prog 183 #[.string s] w fun e w' => e = .returned (.tuple #[.slice none 0 0, .agg #[.int .i64 3, .int .i64 0]]) ∧ Below w.heap.size w w' := by
  go_enter Tryz.func183, Tryz.ntmps183
  go_wp2_with fail
  refine bodyPost_ret (v := .tuple #[.slice none 0 0, .agg #[.int .i64 3, .int .i64 0]]) (by simp [results, Tryz.results183, go_sem]) rfl ?_
  exact ⟨rfl, (Below.refl _ _).alloc (Nat.le_refl _) _⟩

theorem Parse_long (s : ByteArray) (w : World) (h1 : 1024 < s.size) :
    Calls Tryz.prog 147 #[.string s] w fun e w' => e = .returned (.tuple #[.slice none 0 0, .agg #[.int .i64 3, .int .i64 0]]) ∧ Below w.heap.size w w' := by
  have HT := Lib.hid (fun W => Tokens_long s W h1)
  go_enter Tryz.func147, Tryz.ntmps147
  go_wp2_with fail
  refine (HT.out _).mono ?_
  rintro e w1 ⟨rfl, hB⟩
  have R0 := Blk.new w [.int .i64 0, .int .i64 0] 221
  have R1 := R0.below hB R0.lt
  have d0 := R1.cell 0
  have d1 := R1.cell 1
  have f0 := R1.free 0
  have f1 := R1.free 1
  have l1 := R1.lt
  simp at d0 d1
  go_wp2_with fail
  go_region
  all_goals
    go_wp2_with fail
    refine end_world (fun W => Blk W w.heap.size [.int .i64 3, .int .i64 0] 221 ∧ Below w.heap.size w W) ?_ ?_
    · have B1 := hB.popc
      have z1 := B1.size
      first
        | exact ⟨((R1.set 0 _).set 1 _).alloc _, (((B1.setCell (p := ⟨w.heap.size, 0, none⟩) (Nat.le_refl _) _).setCell (p := ⟨w.heap.size, 1, none⟩) (Nat.le_refl _) _).alloc (by simpa using z1) _).drew⟩
        | exact ⟨((R1.alloc _).set 0 _).set 1 _, (((B1.alloc z1 _).drew.setCell (p := ⟨w.heap.size, 0, none⟩) (Nat.le_refl _) _).setCell (p := ⟨w.heap.size, 1, none⟩) (Nat.le_refl _) _)⟩
    rintro W ⟨hW1, hW2⟩
    have q0 := hW1.cell 0
    have q1 := hW1.cell 1
    simp at q0 q1
    refine bodyPost_ret (v := .tuple #[.slice none 0 0, .agg #[.int .i64 3, .int .i64 0]]) (by simp [results, Tryz.results147, go_sem, q0, q1]) rfl ?_
    exact ⟨rfl, hW2⟩

/-- declarations, or a fault -/
def PrsPost (w : World) (e : Ending) (w' : World) : Prop :=
  Below w.heap.size w w' ∧ ∃ (l : List Dcl) (a : Option Addr) (c : Nat) (n p : Int), l.length ≤ 1000 ∧ e = .returned (.tuple #[.slice a l.length c, .agg #[.int .i64 n, .int .i64 p]]) ∧ RSl 5 (RDcl (New w w') w') (New w w') w' l a c
theorem Parse_any (s : ByteArray) (w : World) (hML : MaxL w) : Calls Tryz.prog 147 #[.string s] w (PrsPost w) := by
  by_cases h : 1024 < s.size
  · exact (Parse_long s w h).mono fun e w' ⟨he, hB⟩ => ⟨hB, [], none, 0, 3, 0, by simp, he, .inl ⟨rfl, rfl, rfl⟩⟩
  · exact (Parse_calls s w (by omega) hML).mono fun e w' ⟨hB, a, c, he, hr⟩ => ⟨hB, (parseS s).2, a, c, (parseS s).1.1, (parseS s).1.2, by have := parseS_len s; omega, he, hr⟩

set_option maxHeartbeats 1000000 in
theorem DescRead_wk (s : ByteArray) (w : World) (hML : MaxL w) (hlow : 3 < w.heap.size) :
    Calls Tryz.prog 110 #[.string s] w (DscPost w) := by
  have R0 := Blk.new w [.int .i64 0, .int .i64 0] 221
  have gA : Below w.heap.size w (w.alloc (.cells #[.int .i64 0, .int .i64 0] 221)) := (Below.refl _ _).alloc (Nat.le_refl _) _
  have HP := Lib.hid (Parse_any s (w.alloc (.cells #[.int .i64 0, .int .i64 0] 221)) (hML.keep (Below.heap_alloc _ _ _ hlow)))
  have HO : Hid (∀ (S : Blocks) (l : List Dcl) (la : Option Addr) (lc : Nat) (W : World), RSl 5 (RDcl S W) S W l la lc → Under S W → l.length ≤ 1000 → Calls Tryz.prog 148 #[.slice la l.length lc] W (DscPost W)) := fun S l la lc W h1 h2 h3 => DescOf_wk h1 h2 h3
  go_enter Tryz.func110, Tryz.ntmps110
  go_wp2_with fail
  refine HP.out.mono ?_
  rintro e w1 ⟨hB, l, a, c, n, p, hl, rfl, hrd⟩
  have R1 := R0.below hB R0.lt
  have B1 : Below w.heap.size w w1 := gA.up hB gA.size
  have r0 := R1.cell 0
  have r1 := R1.cell 1
  have rf0 := R1.free 0
  have rf1 := R1.free 1
  have rl := R1.lt
  simp at r0 r1
  have z1 := B1.size
  by_cases hn : n = 0
  · subst hn
    have gC : Below w1.heap.size w1 (w1.alloc (.cells #[.int .i64 0, .int .i64 p] 221)) := (Below.refl _ _).alloc (Nat.le_refl _) _
    have hU : Under (New (w.alloc (.cells #[.int .i64 0, .int .i64 0] 221)) w1) w1 := Under.new _ _
    have HOc := Lib.hid (HO.out _ l a c _ (hrd.keep (hU.same gC) (Sub.refl _) (fun _ _ _ hx => hx.keep (hU.same gC) (Sub.refl _))) (hU.below gC) hl)
    have HB := Lib.hid (B1.up gC z1)
    have HR := Lib.hid (R1.below gC rl)
    generalize l.length = ln at *
    clear R0 gA hB B1 R1 HO hrd gC hU HP
    go_wp2_with fail
    refine HOc.out.mono ?_
    rintro e w3 ⟨hB3, hcase⟩
    have B3 := HB.out.up hB3 HB.out.size
    have R3 := HR.out.below hB3 HR.out.lt
    have r0 := R3.cell 0
    have r1 := R3.cell 1
    have rf0 := R3.free 0
    have rf1 := R3.free 1
    have rl3 := R3.lt
    simp at r0 r1
    have HB3 := Lib.hid B3
    have HR3 := Lib.hid R3
    have hzz := HB.out.size
    clear B3 R3 HOc
    rcases hcase with ⟨n, q, hn, rfl⟩ | ⟨db, l2, hdb, rfl, hD⟩
    · clear hB3
      go_wp2_with fail
      refine end_world (fun W => Below w.heap.size w W ∧ Blk W w.heap.size [.int .i64 n, .int .i64 q] 221) ?_ ?_
      · exact ⟨(HB3.out.setCell (p := ⟨w.heap.size, 0, none⟩) (Nat.le_refl _) _).setCell (p := ⟨w.heap.size, 1, none⟩) (Nat.le_refl _) _, (HR3.out.set 0 _).set 1 _⟩
      rintro W ⟨hWB, hWX⟩
      have q0 := hWX.cell 0
      have q1 := hWX.cell 1
      simp at q0 q1
      refine bodyPost_ret (v := .tuple #[.pointer none, .agg #[.int .i64 n, .int .i64 q]]) (by simp [results, Tryz.results110, go_sem, q0, q1]) rfl ?_
      exact ⟨hWB, .inl ⟨n, q, hn, rfl⟩⟩
    · have HD := Lib.hid hD
      clear hD hB3
      go_wp2_with fail
      refine end_world (fun W => Below w.heap.size w W ∧ Blk W w.heap.size [.int .i64 0, .int .i64 0] 221 ∧ DescAt (New w W) W db l2) ?_ ?_
      · refine ⟨(HB3.out.setCell (p := ⟨w.heap.size, 0, none⟩) (Nat.le_refl _) _).setCell (p := ⟨w.heap.size, 1, none⟩) (Nat.le_refl _) _, (HR3.out.set 0 _).set 1 _, ?_⟩
        obtain ⟨a', c', hb, hr⟩ := HD.out
        have hdw : db ≠ w.heap.size := by simp at hdb; omega
        have hs : ∀ b, New (w1.alloc (.cells #[.int .i64 0, .int .i64 p] 221)) w3 b → b < w3.heap.size ∧ b ≠ w.heap.size ∧ w.heap.size ≤ b := fun b hb => ⟨hb.2, by have := hb.1; simp at this; omega, by have := hb.1; omega⟩
        have hk : Same (New (w1.alloc (.cells #[.int .i64 0, .int .i64 p] 221)) w3) w3 ((w3.setCell ⟨w.heap.size, 0, none⟩ (.int .i64 0)).setCell ⟨w.heap.size, 1, none⟩ (.int .i64 0)) := fun b hb => by
          obtain ⟨h1, h2, h3⟩ := hs b hb
          rw [Below.heap_setCell _ _ _ _ h2, Below.heap_setCell _ _ _ _ h2]
        have hsub : Sub (New (w1.alloc (.cells #[.int .i64 0, .int .i64 p] 221)) w3) (New w ((w3.setCell ⟨w.heap.size, 0, none⟩ (.int .i64 0)).setCell ⟨w.heap.size, 1, none⟩ (.int .i64 0))) := fun b hb => by
          obtain ⟨h1, h2, h3⟩ := hs b hb
          exact ⟨h3, by simpa [World.setCell] using h1⟩
        exact ⟨a', c', (hb.keep (Below.heap_setCell _ _ _ _ hdw)).keep (Below.heap_setCell _ _ _ _ hdw), hr.keep hk hsub (fun _ _ _ hx => hx.keep hk hsub)⟩
      rintro W ⟨hWB, hWX, hWD⟩
      have q0 := hWX.cell 0
      have q1 := hWX.cell 1
      simp at q0 q1
      refine bodyPost_ret (v := .tuple #[.pointer (some ⟨db, 0, none⟩), .agg #[.int .i64 0, .int .i64 0]]) (by simp [results, Tryz.results110, go_sem, q0, q1]) rfl ?_
      exact ⟨hWB, .inr ⟨db, l2, by omega, rfl, hWD⟩⟩
  · have hn2 : (n != 0) = true := by rw [bne_iff_ne]; exact hn
    have Hne := Lib.hid hn
    clear hn
    have HB := Lib.hid B1
    have HR := Lib.hid R1
    generalize l.length = ln at *
    clear R0 gA hB B1 R1 HP HO hrd
    go_wp2_with fail
    go_region
    all_goals
      go_wp2_with fail
      refine end_world (fun W => Below w.heap.size w W ∧ Blk W w.heap.size [.int .i64 n, .int .i64 p] 221) ?_ ?_
      · first
          | exact ⟨(((HB.out.setCell (p := ⟨w.heap.size, 0, none⟩) (Nat.le_refl _) _).setCell (p := ⟨w.heap.size, 1, none⟩) (Nat.le_refl _) _).alloc (by simpa [World.setCell] using z1) _).drew, (((HR.out.set 0 _).set 1 _).alloc _)⟩
          | exact ⟨(((HB.out.alloc z1 _).setCell (p := ⟨w.heap.size, 0, none⟩) (Nat.le_refl _) _).setCell (p := ⟨w.heap.size, 1, none⟩) (Nat.le_refl _) _).drew, (((HR.out.alloc _).set 0 _).set 1 _)⟩
      rintro W ⟨hWB, hWX⟩
      have q0 := hWX.cell 0
      have q1 := hWX.cell 1
      simp at q0 q1
      refine bodyPost_ret (v := .tuple #[.pointer none, .agg #[.int .i64 n, .int .i64 p]]) (by simp [results, Tryz.results110, go_sem, q0, q1]) rfl ?_
      exact ⟨hWB, .inl ⟨n, p, Hne.out, rfl⟩⟩
end Go.Proofs.YtfoihafhpmbaeaaGreatDoor
