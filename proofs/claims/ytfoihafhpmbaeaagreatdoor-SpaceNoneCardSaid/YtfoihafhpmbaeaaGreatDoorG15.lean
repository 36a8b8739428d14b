/- The parser takes a type with what stands behind it. -/
import Derived.Test.YtfoihafhpmbaeaaGreatDoorG14
namespace Go.Proofs.YtfoihafhpmbaeaaGreatDoor
open Go.RowKit


theorem Same.own3' {S : Blocks} {w w5 : World} (h : Same S w w5) (r : Nat) (hr : ∀ b, S b → b ≠ r) (x y z : Value) :
    Same S w (((w5.setCell ⟨r, 0, none⟩ x).setCell ⟨r, 1, none⟩ y).setCell ⟨r, 2, none⟩ z) := by
  intro b hb
  rw [Below.heap_setCell _ _ _ _ (hr b hb), Below.heap_setCell _ _ _ _ (hr b hb), Below.heap_setCell _ _ _ _ (hr b hb)]
  exact h b hb
/-- the way that something is wrong already -/
theorem typ_bad {S : Blocks} {bp : Nat} {a : Option Addr} {cap : Nat} {toks : List Tok} (d : Nat) (hd : d ≤ 100) {p p1 : PS} {w : World} (h : PAt S bp a cap toks p w)
    (hp : p1 = if 8 < d then p.fail toks 10 else p) (he : p1.err ≠ 0) :
    Calls Tryz.prog 230 #[.pointer (some ⟨bp, 0, none⟩), .int .i64 d] w (TyPost S bp a cap toks w (noTy, p1)) := by
  have hlt := h.blk.lt
  have hU := h.und
  have hf := fun W (hW : PAt S bp a cap toks p W) => fail_calls 10 hW
  have Hl : Hid (∀ W, PAt S bp a cap toks (p1) W → Calls Tryz.prog 185 #[.pointer (some ⟨bp, 0, none⟩)] W fun e w' => e = .returned (.bool false) ∧ W = w') := fun W hW => by
    have := well_calls hW
    rw [beq_eq_false_iff_ne.2 he] at this
    exact this
  by_cases h8 : 8 < d
  · rw [if_pos h8] at hp
    rw [← hp] at hf
    have Hf := Lib.hid hf
    clear hf hp he
    go_enter Tryz.func230, Tryz.ntmps230
    go_wp2_with fail
    refine (Hf.out _ (h.alloc _)).mono ?_
    rintro e w1 ⟨rfl, h1, hB1⟩
    have R1 : Blk w1 w.heap.size [.int .i64 0, .string ⟨#[]⟩, .slice none 0 0] 206 := (Blk.new w [.int .i64 0, .string ⟨#[]⟩, .slice none 0 0] 206).grown hB1 (by simp; omega)
    have B1 := (But.alloc (But.refl bp w) _).trans hB1
    go_wp2_with fail
    refine (Hl.out _ h1).mono ?_
    rintro e w' ⟨rfl, rfl⟩
    have rl := R1.lt
    have r0 := R1.cell 0
    have r1 := R1.cell 1
    have r2 := R1.cell 2
    have s0 := R1.free 0
    have s1 := R1.free 1
    have s2 := R1.free 2
    simp at r0 r1 r2
    go_wp2_with fail
    refine end_world (fun W => Blk W w.heap.size [.int .i64 0, .string ⟨#[]⟩, .slice none 0 0] 206 ∧ PAt S bp a cap toks p1 W ∧ But bp w W) ?_ ?_
    · exact ⟨((R1.set 0 _).set 1 _).set 2 _, ((h1.own hU hlt (Nat.le_refl _) 0 _).own hU hlt (Nat.le_refl _) 1 _).own hU hlt (Nat.le_refl _) 2 _, ((B1.own (Nat.le_refl _) 0 _).own (Nat.le_refl _) 1 _).own (Nat.le_refl _) 2 _⟩
    rintro W ⟨hR, hP, hB⟩
    clear R1 rl r0 r1 r2 s0 s1 s2
    have q0 := hR.cell 0
    have q1 := hR.cell 1
    have q2 := hR.cell 2
    simp at q0 q1 q2
    refine bodyPost_ret (v := .agg #[.int .i64 0, .string ⟨#[]⟩, .slice none 0 0]) (by simp [results, Tryz.results230, go_sem, q0, q1, q2]) rfl ?_
    exact TyPost.mk (ty := noTy) rfl (by unfold i64ok; decide) (by decide) (.inl ⟨rfl, rfl, rfl⟩) hP hB
  · rw [if_neg h8] at hp
    subst hp
    clear he
    go_enter Tryz.func230, Tryz.ntmps230
    go_wp2_with fail
    refine (Hl.out _ (h.alloc _)).mono ?_
    rintro e w' ⟨rfl, rfl⟩
    go_wp2_with fail
    refine end_world (fun W => Blk W w.heap.size [.int .i64 0, .string ⟨#[]⟩, .slice none 0 0] 206 ∧ PAt S bp a cap toks p1 W ∧ But bp w W) ?_ ?_
    · exact ⟨Blk.new w [.int .i64 0, .string ⟨#[]⟩, .slice none 0 0] 206, h.alloc _, But.alloc (But.refl _ _) _⟩
    rintro W ⟨hR, hP, hB⟩
    have q0 := hR.cell 0
    have q1 := hR.cell 1
    have q2 := hR.cell 2
    simp at q0 q1 q2
    refine bodyPost_ret (v := .agg #[.int .i64 0, .string ⟨#[]⟩, .slice none 0 0]) (by simp [results, Tryz.results230, go_sem, q0, q1, q2]) rfl ?_
    exact TyPost.mk (ty := noTy) rfl (by unfold i64ok; decide) (by decide) (.inl ⟨rfl, rfl, rfl⟩) hP hB

theorem typ_calls {S : Blocks} {bp : Nat} {a : Option Addr} {cap : Nat} {toks : List Tok} (f : Nat) : ∀ (d : Nat), d ≤ 99 → 9 ≤ d + f → ∀ (p : PS) (w : World), PAt S bp a cap toks p w →
    Calls Tryz.prog 230 #[.pointer (some ⟨bp, 0, none⟩), .int .i64 d] w (TyPost S bp a cap toks w (typF toks (f + 1) d p)) := by
  induction f with
  | zero =>
    intro d hd hf p w h
    have h8 : 8 < d := by omega
    have he := fail_err toks p 10 (by decide)
    have E : typF toks (0 + 1) d p = (noTy, p.fail toks 10) := by
      simp [typF, h8, he]
    rw [E]
    exact typ_bad d (by omega) h (by rw [if_pos h8]) he
  | succ f ih =>
    intro d hd hf p w h
    by_cases he : (if 8 < d then p.fail toks 10 else p).err = 0
    · have h8 : ¬ 8 < d := by
        intro h8
        rw [if_pos h8] at he
        exact fail_err toks p 10 (by decide) he
      rw [if_neg h8] at he
      have hbase := fun W (hW : PAt S bp a cap toks p W) => base_calls (S := S) (bp := bp) (a := a) (cap := cap) (toks := toks) d (by omega) (typF toks (f + 1) (d + 1)) (fun q W hq => ih (d + 1) (by omega) (by omega) q W hq) hW
      have E : typF toks (f + 1 + 1) d p = if mayB toks (baseG toks (typF toks (f + 1) (d + 1)) p).2 ⟨#[63]⟩ then (.mk 9 ⟨#[]⟩ [(baseG toks (typF toks (f + 1) (d + 1)) p).1], (baseG toks (typF toks (f + 1) (d + 1)) p).2.step) else baseG toks (typF toks (f + 1) (d + 1)) p := by
        rw [typF]
        simp only [h8, if_false, he, if_true]
      rw [E]
      generalize baseG toks (typF toks (f + 1) (d + 1)) p = r at *
      have Hb := Lib.hid hbase
      have Hl : Hid (∀ W, PAt S bp a cap toks (p) W → Calls Tryz.prog 185 #[.pointer (some ⟨bp, 0, none⟩)] W fun e w' => e = .returned (.bool true) ∧ W = w') := fun W hW => by
        have := well_calls hW
        rw [he] at this
        exact this
      have hlt := h.blk.lt
      have hU := h.und
      clear E ih hbase he
      have hm1 := fun W (hW : PAt S bp a cap toks r.2 W) => may_calls ⟨#[63]⟩ (by decide +kernel) hW
      cases hb1 : mayB toks r.2 ⟨#[63]⟩
      · have e1 : r.2.may toks ⟨#[63]⟩ = r.2 := by unfold PS.may; rw [hb1]; rfl
        have Hm := Lib.hid (fun W hW => by have := hm1 W hW; rw [hb1, e1] at this; exact this : ∀ W, PAt S bp a cap toks r.2 W → Calls Tryz.prog 231 #[.pointer (some ⟨bp, 0, none⟩), .string ⟨#[63]⟩] W (PPost S bp a cap toks W (.bool false) r.2))
        rw [if_neg (by decide)]
        clear e1 hb1 hm1
        go_enter Tryz.func230, Tryz.ntmps230
        go_wp2_with fail
        refine (Hl.out _ (h.alloc _)).mono ?_
        rintro e w' ⟨rfl, rfl⟩
        go_wp2_with fail
        refine (Hb.out _ (h.alloc _)).mono ?_
        rintro e w2 ⟨oa, oc, rfl, hty, h2, hB2⟩
        have R2 : Blk w2 w.heap.size [.int .i64 0, .string ⟨#[]⟩, .slice none 0 0] 206 := (Blk.new w [.int .i64 0, .string ⟨#[]⟩, .slice none 0 0] 206).grown hB2 (by simp; omega)
        go_wp2_with fail
        refine (Hm.out _ (h2.alloc _)).mono ?_
        rintro e w3 ⟨rfl, h3, hB3⟩
        have R3 := (R2.alloc (.cells #[.int .i64 r.1.kind, .string r.1.name, .slice oa r.1.of.length oc] 206)).grown hB3 (by simp; omega)
        have l2 : bp < w2.heap.size := h2.blk.lt
        have X3 : Blk w3 w2.heap.size [.int .i64 r.1.kind, .string r.1.name, .slice oa r.1.of.length oc] 206 := (Blk.new w2 [.int .i64 r.1.kind, .string r.1.name, .slice oa r.1.of.length oc] 206).grown hB3 (by simp; omega)
        have z1 : w.heap.size + 1 ≤ w2.heap.size := by have := hB2.size; simpa using this
        have z2 : w2.heap.size < w3.heap.size := X3.lt
        have B3 := ((But.alloc (But.refl bp w) _).trans hB2).trans ((But.alloc (But.refl bp w2) _).trans hB3)
        have kU : Under (New (w.alloc (.cells #[.int .i64 0, .string ⟨#[]⟩, .slice none 0 0] 206)) w2) w2 := Under.new _ _
        have k1 : Same (New (w.alloc (.cells #[.int .i64 0, .string ⟨#[]⟩, .slice none 0 0] 206)) w2) w2 w3 := (Same.alloc kU _).trans (hB3.same (kU.alloc _) (by intro hb; have := hb.1; simp at this; omega))
        have rl := R3.lt
        have r0 := R3.cell 0
        have r1 := R3.cell 1
        have r2 := R3.cell 2
        have s0 := R3.free 0
        have s1 := R3.free 1
        have s2 := R3.free 2
        simp at r0 r1 r2
        have xl := X3.lt
        have x0 := X3.cell 0
        have x1 := X3.cell 1
        have x2 := X3.cell 2
        simp at x0 x1 x2
        go_wp2_with fail
        refine end_world (fun W => Blk W w.heap.size [.int .i64 r.1.kind, .string r.1.name, .slice oa r.1.of.length oc] 206 ∧ PAt S bp a cap toks r.2 W ∧ But bp w W ∧ RTy (New w W) W r.1 [.int .i64 r.1.kind, .string r.1.name, .slice oa r.1.of.length oc]) ?_ ?_
        · refine ⟨((R3.set 0 _).set 1 _).set 2 _, ((h3.own hU hlt (Nat.le_refl _) 0 _).own hU hlt (Nat.le_refl _) 1 _).own hU hlt (Nat.le_refl _) 2 _, ((B3.own (Nat.le_refl _) 0 _).own (Nat.le_refl _) 1 _).own (Nat.le_refl _) 2 _, ?_⟩
          exact hty.keep (k1.own3' _ (fun b hb => by have := hb.1; simp at this; omega) _ _ _) (New.both (by simp) (by simp [World.setCell]; omega))
        rintro W ⟨hR, hP, hB, hT⟩
        clear R3 rl r0 r1 r2 s0 s1 s2
        have q0 := hR.cell 0
        have q1 := hR.cell 1
        have q2 := hR.cell 2
        simp at q0 q1 q2
        refine bodyPost_ret (v := .agg #[.int .i64 r.1.kind, .string r.1.name, .slice oa r.1.of.length oc]) (by simp [results, Tryz.results230, go_sem, q0, q1, q2]) rfl ?_
        exact ⟨oa, oc, rfl, hT, hP, hB⟩
      · have e1 : r.2.may toks ⟨#[63]⟩ = r.2.step := by unfold PS.may; rw [hb1]; rfl
        have Hm := Lib.hid (fun W hW => by have := hm1 W hW; rw [hb1, e1] at this; exact this : ∀ W, PAt S bp a cap toks r.2 W → Calls Tryz.prog 231 #[.pointer (some ⟨bp, 0, none⟩), .string ⟨#[63]⟩] W (PPost S bp a cap toks W (.bool true) r.2.step))
        rw [if_pos rfl]
        clear e1 hb1 hm1
        go_enter Tryz.func230, Tryz.ntmps230
        go_wp2_with fail
        refine (Hl.out _ (h.alloc _)).mono ?_
        rintro e w' ⟨rfl, rfl⟩
        go_wp2_with fail
        refine (Hb.out _ (h.alloc _)).mono ?_
        rintro e w2 ⟨oa, oc, rfl, hty, h2, hB2⟩
        have R2 : Blk w2 w.heap.size [.int .i64 0, .string ⟨#[]⟩, .slice none 0 0] 206 := (Blk.new w [.int .i64 0, .string ⟨#[]⟩, .slice none 0 0] 206).grown hB2 (by simp; omega)
        go_wp2_with fail
        refine (Hm.out _ (h2.alloc _)).mono ?_
        rintro e w3 ⟨rfl, h3, hB3⟩
        have R3 := (R2.alloc (.cells #[.int .i64 r.1.kind, .string r.1.name, .slice oa r.1.of.length oc] 206)).grown hB3 (by simp; omega)
        have l2 : bp < w2.heap.size := h2.blk.lt
        have X3 : Blk w3 w2.heap.size [.int .i64 r.1.kind, .string r.1.name, .slice oa r.1.of.length oc] 206 := (Blk.new w2 [.int .i64 r.1.kind, .string r.1.name, .slice oa r.1.of.length oc] 206).grown hB3 (by simp; omega)
        have z1 : w.heap.size + 1 ≤ w2.heap.size := by have := hB2.size; simpa using this
        have z2 : w2.heap.size < w3.heap.size := X3.lt
        have B3 := ((But.alloc (But.refl bp w) _).trans hB2).trans ((But.alloc (But.refl bp w2) _).trans hB3)
        have kU : Under (New (w.alloc (.cells #[.int .i64 0, .string ⟨#[]⟩, .slice none 0 0] 206)) w2) w2 := Under.new _ _
        have k1 : Same (New (w.alloc (.cells #[.int .i64 0, .string ⟨#[]⟩, .slice none 0 0] 206)) w2) w2 w3 := (Same.alloc kU _).trans (hB3.same (kU.alloc _) (by intro hb; have := hb.1; simp at this; omega))
        have rl := R3.lt
        have r0 := R3.cell 0
        have r1 := R3.cell 1
        have r2 := R3.cell 2
        have s0 := R3.free 0
        have s1 := R3.free 1
        have s2 := R3.free 2
        simp at r0 r1 r2
        have xl := X3.lt
        have x0 := X3.cell 0
        have x1 := X3.cell 1
        have x2 := X3.cell 2
        simp at x0 x1 x2
        go_wp2_with fail
        refine end_world (fun W => Blk W w.heap.size [.int .i64 9, .string ⟨#[]⟩, .slice (some ⟨w3.heap.size, 0, none⟩) 1 1] 206 ∧ PAt S bp a cap toks r.2.step W ∧ But bp w W ∧ Blk W w3.heap.size [.int .i64 r.1.kind, .string r.1.name, .slice oa r.1.of.length oc] 206 ∧ w.heap.size ≤ w3.heap.size ∧ w3.heap.size < W.heap.size ∧ RTy (New w W) W r.1 [.int .i64 r.1.kind, .string r.1.name, .slice oa r.1.of.length oc]) ?_ ?_
        · refine ⟨(((R3.set 0 _).set 1 _).set 2 _).alloc _, (((h3.own hU hlt (Nat.le_refl _) 0 _).own hU hlt (Nat.le_refl _) 1 _).own hU hlt (Nat.le_refl _) 2 _).alloc _, (((B3.own (Nat.le_refl _) 0 _).own (Nat.le_refl _) 1 _).own (Nat.le_refl _) 2 _).alloc _, ?_, ?_, ?_, ?_⟩
          · exact Blk.newAt (by simp [World.setCell]) _ _
          · omega
          · simp [World.setCell]
          · exact hty.keep (k1.own3 _ (fun b hb => ⟨by have := hb.1; simp at this; omega, by have := hb.2; omega⟩) _ _ _ _) (New.both (by simp) (by simp [World.setCell]; omega))
        rintro W ⟨hR, hP, hB, hX, hz, hz2, hT⟩
        clear R3 rl r0 r1 r2 s0 s1 s2
        have q0 := hR.cell 0
        have q1 := hR.cell 1
        have q2 := hR.cell 2
        simp at q0 q1 q2
        refine bodyPost_ret (v := .agg #[.int .i64 9, .string ⟨#[]⟩, .slice (some ⟨w3.heap.size, 0, none⟩) 1 1]) (by simp [results, Tryz.results230, go_sem, q0, q1, q2]) rfl ?_
        exact TyPost.mk rfl i64ok9 (by show (⟨#[]⟩ : ByteArray).size ≤ _; decide) (own1 hX ⟨hz, hz2⟩ rfl hT) hP hB
    · have E : typF toks (f + 1 + 1) d p = (noTy, if 8 < d then p.fail toks 10 else p) := by
        rw [typF]
        simp only [he, if_false]
      rw [E]
      exact typ_bad d (by omega) h rfl he
end Go.Proofs.YtfoihafhpmbaeaaGreatDoor

/- The parser takes a method. -/
namespace Go.Proofs.YtfoihafhpmbaeaaGreatDoor
open Go.RowKit

theorem name_ok {S : Blocks} {bp : Nat} {a : Option Addr} {cap : Nat} {toks : List Tok} {p : PS} {w : World} (h : PAt S bp a cap toks p w) : (p.name toks).1.size ≤ 1048576 := by
  have hsz := now_size h
  unfold PS.name
  simp only
  split
  all_goals (split <;> first | (show (p.now toks).text.size ≤ _; omega) | (show (⟨#[]⟩ : ByteArray).size ≤ _; decide))
theorem number_ok {S : Blocks} {bp : Nat} {a : Option Addr} {cap : Nat} {toks : List Tok} {p : PS} {w : World} (h : PAt S bp a cap toks p w) : i64ok (p.number toks).1 := by
  obtain ⟨b, off, cs, rfl, hSb, _, hcs, rfl, h1, h2, h3, h4⟩ := RSl.at h.rd h.inb
  rw [← now_eq h.inb] at h3
  have z : i64ok 0 := by unfold i64ok; omega
  unfold PS.number
  simp only
  split
  all_goals (split <;> assumption)

def tOneway : ByteArray := ⟨#[111, 110, 101, 119, 97, 121]⟩
def PS.method (toks : List Tok) (p : PS) : Mth × PS :=
  let n := (p.may toks tOneway).number toks
  let nm := n.2.name toks
  let i := (nm.2.need toks ⟨#[40]⟩).name toks
  let o := ((i.2.need toks ⟨#[41]⟩).need toks ⟨#[58]⟩).name toks
  (⟨n.1, nm.1, i.1, o.1, mayB toks p tOneway⟩, o.2)

def MthPost (S : Blocks) (bp : Nat) (a : Option Addr) (cap : Nat) (toks : List Tok) (w : World) (m : Mth) (p : PS) (e : Ending) (w' : World) : Prop :=
  e = .returned (.agg #[.int .i64 m.tag, .string m.name, .string m.inn, .string m.out, .bool m.oneWay]) ∧ RMth m [.int .i64 m.tag, .string m.name, .string m.inn, .string m.out, .bool m.oneWay] ∧ PAt S bp a cap toks p w' ∧ But bp w w'

/-- the parser, and two blocks of the call's own: r, m -/
structure Two (S : Blocks) (bp : Nat) (a : Option Addr) (cap : Nat) (toks : List Tok) (w0 : World) (p : PS) (r : Nat) (rc : List Value) (TR : TypeId) (m : Nat) (mc : List Value) (TM : TypeId) (w : World) : Prop where
  at_ : PAt S bp a cap toks p w
  but : But bp w0 w
  br : Blk w r rc TR
  bm : Blk w m mc TM
  lr : w0.heap.size ≤ r
  lm : w0.heap.size ≤ m
  ne : r ≠ m
  lb : bp < w0.heap.size
  un : Under S w0
section
variable {S : Blocks} {bp : Nat} {a : Option Addr} {cap : Nat} {toks : List Tok} {w0 w w' : World} {p p' : PS} {r m : Nat} {rc mc : List Value} {TR TM : TypeId}
theorem Two.call (h : Two S bp a cap toks w0 p r rc TR m mc TM w) (hp : PAt S bp a cap toks p' w') (hb : But bp w w') : Two S bp a cap toks w0 p' r rc TR m mc TM w' :=
  ⟨hp, h.but.trans hb, h.br.grown hb (by have := h.lr; have := h.lb; simp; omega), h.bm.grown hb (by have := h.lm; have := h.lb; simp; omega), h.lr, h.lm, h.ne, h.lb, h.un⟩
theorem Two.setm (h : Two S bp a cap toks w0 p r rc TR m mc TM w) (i : Nat) (v : Value) : Two S bp a cap toks w0 p r rc TR m (mc.set i v) TM (w.setCell ⟨m, i, none⟩ v) :=
  ⟨h.at_.own h.un h.lb h.lm i v, h.but.own h.lm i v, h.br.keep (Below.heap_setCell _ _ _ _ h.ne), h.bm.set i v, h.lr, h.lm, h.ne, h.lb, h.un⟩
theorem Two.setr (h : Two S bp a cap toks w0 p r rc TR m mc TM w) (i : Nat) (v : Value) : Two S bp a cap toks w0 p r (rc.set i v) TR m mc TM (w.setCell ⟨r, i, none⟩ v) :=
  ⟨h.at_.own h.un h.lb h.lr i v, h.but.own h.lr i v, h.br.set i v, h.bm.keep (Below.heap_setCell _ _ _ _ (Ne.symm h.ne)), h.lr, h.lm, h.ne, h.lb, h.un⟩
theorem Two.alloc (h : Two S bp a cap toks w0 p r rc TR m mc TM w) (o : Obj) : Two S bp a cap toks w0 p r rc TR m mc TM (w.alloc o) :=
  ⟨h.at_.alloc o, h.but.alloc o, h.br.alloc o, h.bm.alloc o, h.lr, h.lm, h.ne, h.lb, h.un⟩
end

theorem method_calls {S : Blocks} {bp : Nat} {a : Option Addr} {cap : Nat} {toks : List Tok} {p : PS} {w : World} (h : PAt S bp a cap toks p w) :
    Calls Tryz.prog 234 #[.pointer (some ⟨bp, 0, none⟩)] w (MthPost S bp a cap toks w (p.method toks).1 (p.method toks).2) := by
  have hlt := h.blk.lt
  have hU := h.und
  have hmay := fun W (hW : PAt S bp a cap toks p W) => may_calls tOneway (by decide +kernel) hW
  unfold PS.method
  simp only
  generalize mayB toks p tOneway = ow at *
  generalize p.may toks tOneway = p1 at *
  have Hm : Hid (∀ W, PAt S bp a cap toks p W → Calls Tryz.prog 231 #[.pointer (some ⟨bp, 0, none⟩), .string ⟨#[111, 110, 101, 119, 97, 121]⟩] W (PPost S bp a cap toks W (.bool ow) p1)) := hmay
  clear hmay
  go_enter Tryz.func234, Tryz.ntmps234
  go_wp2_with fail
  refine (Hm.out _ (h.alloc _)).mono ?_
  rintro e w1 ⟨rfl, h1, hB1⟩
  have R1 : Blk w1 w.heap.size [.int .i64 0, .string ⟨#[]⟩, .string ⟨#[]⟩, .string ⟨#[]⟩, .bool false] 76 := (Blk.new w [.int .i64 0, .string ⟨#[]⟩, .string ⟨#[]⟩, .string ⟨#[]⟩, .bool false] 76).grown hB1 (by simp; omega)
  have z1 : w.heap.size < w1.heap.size := R1.lt
  have M1 : Two S bp a cap toks w p1 w.heap.size _ 76 w1.heap.size _ 76 (w1.alloc (.cells #[.int .i64 0, .string ⟨#[]⟩, .string ⟨#[]⟩, .string ⟨#[]⟩, .bool ow] 76)) :=
    ⟨h1.alloc _, ((But.alloc (But.refl bp w) _).trans hB1).alloc _, R1.alloc _, Blk.new w1 [.int .i64 0, .string ⟨#[]⟩, .string ⟨#[]⟩, .string ⟨#[]⟩, .bool ow] 76, Nat.le_refl _, Nat.le_of_lt z1, by omega, hlt, hU⟩
  have ok1 := number_ok h1
  go_wp2_with fail
  refine (number2_calls M1.at_).mono ?_
  generalize p1.number toks = n at *
  rintro e w2 ⟨rfl, h2, hB2⟩
  have M2 := M1.call h2 hB2
  clear M1 R1 h1 hB1 h2 hB2
  have ml := M2.bm.lt
  have m0 := M2.bm.cell 0
  have m1 := M2.bm.cell 1
  have m2 := M2.bm.cell 2
  have m3 := M2.bm.cell 3
  have m4 := M2.bm.cell 4
  have u0 := M2.bm.free 0
  have u1 := M2.bm.free 1
  have u2 := M2.bm.free 2
  have u3 := M2.bm.free 3
  have u4 := M2.bm.free 4
  simp at m0 m1 m2 m3 m4
  go_wp2_with fail
  clear ml m0 m1 m2 m3 m4 u0 u1 u2 u3 u4
  have M3 := M2.setm 0 (.int .i64 n.1)
  have ok2 := name_ok M3.at_
  refine (name_calls M3.at_).mono ?_
  generalize n.2.name toks = nm at *
  rintro e w3 ⟨rfl, h3, hB3⟩
  have M4 := M3.call h3 hB3
  clear M2 M3 h3 hB3
  have ml := M4.bm.lt
  have m0 := M4.bm.cell 0
  have m1 := M4.bm.cell 1
  have m2 := M4.bm.cell 2
  have m3 := M4.bm.cell 3
  have m4 := M4.bm.cell 4
  have u0 := M4.bm.free 0
  have u1 := M4.bm.free 1
  have u2 := M4.bm.free 2
  have u3 := M4.bm.free 3
  have u4 := M4.bm.free 4
  simp at m0 m1 m2 m3 m4
  go_wp2_with fail
  clear ml m0 m1 m2 m3 m4 u0 u1 u2 u3 u4
  have M5 := M4.setm 1 (.string nm.1)
  refine (need_calls ⟨#[40]⟩ (by decide +kernel) M5.at_).mono ?_
  generalize nm.2.need toks ⟨#[40]⟩ = p4 at *
  rintro e w4 ⟨rfl, h4, hB4⟩
  have M6 := M5.call h4 hB4
  clear M4 M5 h4 hB4
  go_wp2_with fail
  have ok3 := name_ok M6.at_
  refine (name_calls M6.at_).mono ?_
  generalize p4.name toks = ii at *
  rintro e w5 ⟨rfl, h5, hB5⟩
  have M7 := M6.call h5 hB5
  clear M6 h5 hB5
  have ml := M7.bm.lt
  have m0 := M7.bm.cell 0
  have m1 := M7.bm.cell 1
  have m2 := M7.bm.cell 2
  have m3 := M7.bm.cell 3
  have m4 := M7.bm.cell 4
  have u0 := M7.bm.free 0
  have u1 := M7.bm.free 1
  have u2 := M7.bm.free 2
  have u3 := M7.bm.free 3
  have u4 := M7.bm.free 4
  simp at m0 m1 m2 m3 m4
  go_wp2_with fail
  clear ml m0 m1 m2 m3 m4 u0 u1 u2 u3 u4
  have M8 := M7.setm 2 (.string ii.1)
  refine (need_calls ⟨#[41]⟩ (by decide +kernel) M8.at_).mono ?_
  generalize ii.2.need toks ⟨#[41]⟩ = p6 at *
  rintro e w6 ⟨rfl, h6, hB6⟩
  have M9 := M8.call h6 hB6
  clear M7 M8 h6 hB6
  go_wp2_with fail
  refine (need_calls ⟨#[58]⟩ (by decide +kernel) M9.at_).mono ?_
  generalize p6.need toks ⟨#[58]⟩ = p7 at *
  rintro e w7 ⟨rfl, h7, hB7⟩
  have M10 := M9.call h7 hB7
  clear M9 h7 hB7
  go_wp2_with fail
  have ok4 := name_ok M10.at_
  refine (name_calls M10.at_).mono ?_
  generalize p7.name toks = o at *
  rintro e w8 ⟨rfl, h8, hB8⟩
  have M11 := M10.call h8 hB8
  clear M10 h8 hB8
  have ml := M11.bm.lt
  have m0 := M11.bm.cell 0
  have m1 := M11.bm.cell 1
  have m2 := M11.bm.cell 2
  have m3 := M11.bm.cell 3
  have m4 := M11.bm.cell 4
  have u0 := M11.bm.free 0
  have u1 := M11.bm.free 1
  have u2 := M11.bm.free 2
  have u3 := M11.bm.free 3
  have u4 := M11.bm.free 4
  simp at m0 m1 m2 m3 m4
  have rl := M11.br.lt
  have r0 := M11.br.cell 0
  have r1 := M11.br.cell 1
  have r2 := M11.br.cell 2
  have r3 := M11.br.cell 3
  have r4 := M11.br.cell 4
  have s0 := M11.br.free 0
  have s1 := M11.br.free 1
  have s2 := M11.br.free 2
  have s3 := M11.br.free 3
  have s4 := M11.br.free 4
  simp at r0 r1 r2 r3 r4
  go_wp2_with fail
  refine end_world (fun W => Two S bp a cap toks w o.2 w.heap.size [.int .i64 n.1, .string nm.1, .string ii.1, .string o.1, .bool ow] 76 w1.heap.size [.int .i64 n.1, .string nm.1, .string ii.1, .string o.1, .bool ow] 76 W) ?_ ?_
  · have M12 := M11.setm 3 (.string o.1)
    have M13 := ((((M12.setr 0 (.int .i64 n.1)).setr 1 (.string nm.1)).setr 2 (.string ii.1)).setr 3 (.string o.1)).setr 4 (.bool ow)
    exact M13
  rintro W hW
  clear M11 ml m0 m1 m2 m3 m4 u0 u1 u2 u3 u4 rl r0 r1 r2 r3 r4 s0 s1 s2 s3 s4
  have q0 := hW.br.cell 0
  have q1 := hW.br.cell 1
  have q2 := hW.br.cell 2
  have q3 := hW.br.cell 3
  have q4 := hW.br.cell 4
  simp at q0 q1 q2 q3 q4
  refine bodyPost_ret (v := .agg #[.int .i64 n.1, .string nm.1, .string ii.1, .string o.1, .bool ow]) (by simp [results, Tryz.results234, go_sem, q0, q1, q2, q3, q4]) rfl ?_
  exact ⟨rfl, ⟨rfl, ok1, by show nm.1.size ≤ _; omega, by show ii.1.size ≤ _; omega, by show o.1.size ≤ _; omega⟩, hW.at_, hW.but⟩
end Go.Proofs.YtfoihafhpmbaeaaGreatDoor
