/- The parser takes a declaration. -/
import Derived.Deep.CutBlock
import Derived.Test.YtfoihafhpmbaeaaGreatDoorG19
namespace Go.Proofs.YtfoihafhpmbaeaaGreatDoor
open Go.RowKit

def sStruct : ByteArray := ⟨#[115, 116, 114, 117, 99, 116]⟩
def sUnion : ByteArray := ⟨#[117, 110, 105, 111, 110]⟩
def sEnum : ByteArray := ⟨#[101, 110, 117, 109]⟩
def sService : ByteArray := ⟨#[115, 101, 114, 118, 105, 99, 101]⟩
def kindF (toks : List Tok) (p : PS) : Int × PS :=
  if mayB toks p sStruct then (1, p.step) else if mayB toks p sUnion then (2, p.step) else if mayB toks p sEnum then (3, p.step) else if mayB toks p sService then (4, p.step) else (0, p.fail toks 5)
def declF (toks : List Tok) (p : PS) : Dcl × PS :=
  let k := kindF toks p
  let nm := k.2.name toks
  let q := nm.2.need toks ⟨#[123]⟩
  if k.1 = 3 then (⟨k.1, nm.1, (rowsF (enumRow toks) toks 18 0 q []).1, [], (p.now toks).pos⟩, (rowsF (enumRow toks) toks 18 0 q []).2)
  else if k.1 = 4 then (⟨k.1, nm.1, [], (rowsF (PS.method toks) toks 18 0 q []).1, (p.now toks).pos⟩, (rowsF (PS.method toks) toks 18 0 q []).2)
  else (⟨k.1, nm.1, (rowsF (fldRow toks) toks 18 0 q []).1, [], (p.now toks).pos⟩, (rowsF (fldRow toks) toks 18 0 q []).2)

def DclPost (S : Blocks) (bp : Nat) (a : Option Addr) (cap : Nat) (toks : List Tok) (w : World) (r : Dcl × PS) (e : Ending) (w' : World) : Prop :=
  ∃ fa fc ma mc, e = .returned (.agg #[.int .i64 r.1.kind, .string r.1.name, .slice fa r.1.fields.length fc, .slice ma r.1.methods.length mc, .int .i64 r.1.pos]) ∧
    RDcl (New w w') w' r.1 [.int .i64 r.1.kind, .string r.1.name, .slice fa r.1.fields.length fc, .slice ma r.1.methods.length mc, .int .i64 r.1.pos] ∧ PAt S bp a cap toks r.2 w' ∧ But bp w w'

def cloF (k : Int) : Nat := if k = 3 then 232 else if k = 4 then 233 else 226
def capF (k : Int) (pb dd : Nat) : Array Value := if k = 3 ∨ k = 4 then #[.pointer (some ⟨dd, 0, none⟩), .pointer (some ⟨pb, 0, none⟩)] else #[.pointer (some ⟨pb, 0, none⟩), .pointer (some ⟨dd, 0, none⟩)]

theorem fail_same {toks : List Tok} {p : PS} {e : Int} (h : p.err ≠ 0) : p.fail toks e = p := by unfold PS.fail; rw [if_neg h]
theorem number_bad {toks : List Tok} {p : PS} (h : p.err ≠ 0) : (p.number toks).2 = p := by
  unfold PS.number
  have e : (if (p.now toks).kind = 2 then p else p.fail toks 5) = p := by rw [fail_same h]; split <;> rfl
  simp only [e, if_neg h]
theorem name_bad {toks : List Tok} {p : PS} (h : p.err ≠ 0) : (p.name toks).2 = p := by
  unfold PS.name
  have e : (if (p.now toks).kind = 1 ∧ wordB (p.now toks).text = false then p else p.fail toks 5) = p := by rw [fail_same h]; split <;> rfl
  simp only [e, if_neg h]
theorem mayB_bad {toks : List Tok} {p : PS} {s : ByteArray} (h : p.err ≠ 0) : mayB toks p s = false := by simp [mayB, h]
theorem need_bad {toks : List Tok} {p : PS} {s : ByteArray} (h : p.err ≠ 0) : p.need toks s = p := by
  unfold PS.need
  rw [mayB_bad h, fail_same h]
  rfl
theorem typF_bad {toks : List Tok} {p : PS} (f d : Nat) (h : p.err ≠ 0) : (typF toks (f + 1) d p).2 = p := by
  have e : (if 8 < d then p.fail toks 10 else p) = p := by rw [fail_same h]; split <;> rfl
  simp only [typF, e, if_neg h]
theorem number_end {toks : List Tok} {p : PS} (hk : (p.now toks).kind = 4) : (p.number toks).2.err ≠ 0 := by
  have h5 := fail_err toks p 5 (by decide)
  unfold PS.number
  have e : (if (p.now toks).kind = 2 then p else p.fail toks 5) = p.fail toks 5 := by rw [hk]; rfl
  simp only [e, if_neg h5]
  exact h5
theorem may_end {toks : List Tok} {p : PS} {s : ByteArray} (hs : s.toList.isEmpty = false) (he : Ends toks) (hi : p.at_ < toks.length) (hk : (p.now toks).kind = 4) : p.may toks s = p := by
  have ht : (p.now toks).text = ⟨#[]⟩ := by
    rw [now_eq hi] at hk ⊢
    exact ((he p.at_ hi).1 ((he p.at_ hi).2 hk)).1
  have : mayB toks p s = false := by
    unfold mayB
    rw [ht]
    cases hl : s.toList with
    | nil => rw [hl] at hs; cases hs
    | cons x xs =>
      have e0 : (⟨#[]⟩ : ByteArray).toList = [] := by decide +kernel
      rw [e0]
      simp
  unfold PS.may
  rw [this]
  rfl
theorem enum_end {toks : List Tok} {p : PS} (hk : (p.now toks).kind = 4) : ((enumRow toks p).2.need toks sSemi).err ≠ 0 := by
  have h := number_end hk
  unfold enumRow
  simp only [name_bad h, need_bad h]
  exact h
theorem fld_end {toks : List Tok} {p : PS} (hk : (p.now toks).kind = 4) : ((fldRow toks p).2.need toks sSemi).err ≠ 0 := by
  have h := number_end hk
  unfold fldRow
  simp only [name_bad h, need_bad h, typF_bad 9 0 h]
  exact h
theorem mth_end {toks : List Tok} {p : PS} (he : Ends toks) (hi : p.at_ < toks.length) (hk : (p.now toks).kind = 4) : ((p.method toks).2.need toks sSemi).err ≠ 0 := by
  have h := number_end hk
  unfold PS.method
  simp only [may_end (s := tOneway) (by decide +kernel) he hi hk, name_bad h, need_bad h]
  exact h

theorem mayT {S : Blocks} {bp : Nat} {a : Option Addr} {cap : Nat} {toks : List Tok} {p : PS} {w : World} (s : ByteArray) (hs : s.toList.isEmpty = false) (hm : mayB toks p s = true) (h : PAt S bp a cap toks p w) :
    Calls Tryz.prog 231 #[.pointer (some ⟨bp, 0, none⟩), .string s] w (PPost S bp a cap toks w (.bool true) p.step) := by
  have := may_calls s hs h
  unfold PS.may at this
  rw [if_pos hm, hm] at this
  exact this
theorem mayN {S : Blocks} {bp : Nat} {a : Option Addr} {cap : Nat} {toks : List Tok} {p : PS} {w : World} (s : ByteArray) (hs : s.toList.isEmpty = false) (hm : ¬ mayB toks p s = true) (h : PAt S bp a cap toks p w) :
    Calls Tryz.prog 231 #[.pointer (some ⟨bp, 0, none⟩), .string s] w (PPost S bp a cap toks w (.bool false) p) := by
  have := may_calls s hs h
  unfold PS.may at this
  rw [if_neg hm, show mayB toks p s = false by simpa using hm] at this
  exact this

theorem rowsF_len {α : Type} (row : PS → α × PS) (toks : List Tok) : ∀ (f n : Nat) (p : PS) (l : List α), (rowsF row toks f n p l).1.length ≤ l.length + f
  | 0, _, _, l => by simp [rowsF]
  | f + 1, n, p, l => by
    unfold rowsF
    split
    · split
      · simp
      · split
        · have := rowsF_len row toks f (n + 1) (p.fail toks 3) l
          omega
        · have := rowsF_len row toks f (n + 1) ((row p).2.need toks sSemi) (l ++ [(row p).1])
          simp at this
          omega
    · simp
theorem pos_ok {S : Blocks} {bp : Nat} {a : Option Addr} {cap : Nat} {toks : List Tok} {p : PS} {w : World} (h : PAt S bp a cap toks p w) : i64ok (p.now toks).pos := by
  obtain ⟨b, off, cs, rfl, hSb, _, hcs, rfl, h1, h2, h3, h4⟩ := RSl.at h.rd h.inb
  rw [now_eq h.inb]
  exact h4
theorem Frm.butFrom {B bp : Nat} {w w1 w2 : World} (h : But bp w w1) (g : Frm B bp w1 w2) (hB : w.heap.size ≤ B) : But bp w w2 :=
  Frm.toBut ((Frm.but h (Nat.le_refl _)).trans ⟨g.1, g.2.1, g.2.2.1, g.2.2.2.1, fun k hk hn => g.2.2.2.2 k (Nat.lt_of_lt_of_le hk hB) hn⟩)
theorem read_new {α : Type} {R : Blocks → World → α → List Value → Prop} (hR : Keeps R) {B : Nat} {X : Blocks} {T : TypeId} {sz : Nat} {w W : World} {l : List α} {a : Option Addr} {c : Nat}
    (h : OwnL R B X T sz W l a c) (hl : l.length ≤ 1000) (hB : w.heap.size ≤ B) : RSl sz (R (New w W) W) (New w W) W l a c := by
  obtain ⟨S', u1, u2, r⟩ := OwnL.read (R := R) hR h (by omega)
  exact r.keep (Same.refl _ _) (fun b hb => ⟨Nat.le_trans hB (u2 b hb).1, u1 b hb⟩) (fun x cs _ hx => hR (Same.refl _ _) (fun b hb => ⟨Nat.le_trans hB (u2 b hb).1, u1 b hb⟩) hx)

theorem kind_ok {toks : List Tok} {p : PS} {k : Int} {q : PS} (h : kindF toks p = (k, q)) : 0 ≤ k ∧ k ≤ 4 := by
  unfold kindF at h
  repeat' split at h
  all_goals (injection h with h; omega)

set_option maxHeartbeats 2000000 in
theorem decl_calls {S : Blocks} {bp : Nat} {a : Option Addr} {cap : Nat} {toks : List Tok} {p : PS} {w : World} (h : PAt S bp a cap toks p w) :
    Calls Tryz.prog 184 #[.pointer (some ⟨bp, 0, none⟩)] w (DclPost S bp a cap toks w (declF toks p)) := by
  have hlt := h.blk.lt
  have hU := h.und
  obtain ⟨res, hres⟩ : ∃ r, declF toks p = r := ⟨_, rfl⟩
  rw [hres]
  have HRES := Lib.hid hres
  clear hres
  go_enter Tryz.func184, Tryz.ntmps184
  go_upto_region 1 with fail
  have g1 : But bp w ((w.alloc (.cells #[.pointer (some ⟨bp, 0, none⟩)] 315)).alloc (.cells #[.int .i64 0, .string ⟨#[]⟩, .slice none 0 0, .slice none 0 0, .int .i64 0] 149)) := ((But.refl bp w).alloc _).alloc _
  have h1 := h.keep g1 ((h.blk.alloc _).alloc _) h.inb
  have P1 := (Blk.new w [.pointer (some ⟨bp, 0, none⟩)] 315).alloc (.cells #[.int .i64 0, .string ⟨#[]⟩, .slice none 0 0, .slice none 0 0, .int .i64 0] 149)
  have R1 := Blk.new (w.alloc (.cells #[.pointer (some ⟨bp, 0, none⟩)] 315)) [.int .i64 0, .string ⟨#[]⟩, .slice none 0 0, .slice none 0 0, .int .i64 0] 149
  simp only [World.size_alloc] at R1
  go_wp2_with fail
  refine (now_calls h1).mono ?_
  rintro e w2 ⟨rfl, hb2⟩
  have hf := fun W => tok_field3 (p.now toks).kind (p.now toks).text (p.now toks).num (p.now toks).pos W
  have P2 := P1.below hb2 P1.lt
  have R2 := R1.below hb2 R1.lt
  have h2 := h1.below hb2
  have g2 := g1.trans (But.below (b := bp) hb2)
  have hsz2 : w.heap.size + 2 ≤ w2.heap.size := by have := hb2.size; simpa using this
  have l2 := P2.lt
  have l3 := R2.lt
  have h3 := h2.keep (((But.refl bp w2).alloc (.cells #[.int .i64 0, .string ⟨#[]⟩, .slice none 0 0, .slice none 0 0, .int .i64 (p.now toks).pos] 149))) (h2.blk.alloc _) h2.inb
  have g3 := g2.alloc (.cells #[.int .i64 0, .string ⟨#[]⟩, .slice none 0 0, .slice none 0 0, .int .i64 (p.now toks).pos] 149)
  have P3 := P2.alloc (.cells #[.int .i64 0, .string ⟨#[]⟩, .slice none 0 0, .slice none 0 0, .int .i64 (p.now toks).pos] 149)
  have R3 := R2.alloc (.cells #[.int .i64 0, .string ⟨#[]⟩, .slice none 0 0, .slice none 0 0, .int .i64 (p.now toks).pos] 149)
  have D3 := Blk.new w2 [.int .i64 0, .string ⟨#[]⟩, .slice none 0 0, .slice none 0 0, .int .i64 (p.now toks).pos] 149
  go_upto_block 0 with fail
  obtain ⟨W3, hW3⟩ : ∃ W, w2.alloc (.cells #[.int .i64 0, .string ⟨#[]⟩, .slice none 0 0, .slice none 0 0, .int .i64 (p.now toks).pos] 149) = W := ⟨_, rfl⟩
  rw [hW3] at h3 g3 P3 R3
  simp only [List.toArray] at D3
  go_cut [5] (fun s5 wx => s5 = .func (.func (cloF (kindF toks p).1)) #[] (capF (kindF toks p).1 w.heap.size w2.heap.size) ∧ Blk wx w.heap.size [.pointer (some ⟨bp, 0, none⟩)] 315 ∧
      Blk wx (w.heap.size + 1) [.int .i64 0, .string ⟨#[]⟩, .slice none 0 0, .slice none 0 0, .int .i64 0] 149 ∧
      Blk wx w2.heap.size [.int .i64 (kindF toks p).1, .string ⟨#[]⟩, .slice none 0 0, .slice none 0 0, .int .i64 (p.now toks).pos] 149 ∧ PAt S bp a cap toks (kindF toks p).2 wx ∧ But bp w wx)
  case first =>
    rw [hW3] at D3
    have nP : some w.heap.size ≠ some bp := by intro e; injection e with e; omega
    have nR : some (w.heap.size + 1) ≠ some bp := by intro e; injection e with e; omega
    have nD : some w2.heap.size ≠ some bp := by intro e; injection e with e; omega
    have qP : w.heap.size ≠ w2.heap.size := by omega
    have qR : w.heap.size + 1 ≠ w2.heap.size := by omega
    clear hf h1 P1 R1 h2 g2 P2 R2
    rw [hW3]
    by_cases m1 : mayB toks p sStruct = true
    · have hk : kindF toks p = (1, p.step) := by simp [kindF, m1]
      have c3 := P3.cell 0
      simp at c3
      go_wp2_with fail
      refine (mayT sStruct (by decide +kernel) m1 h3).mono ?_
      rintro e W4 ⟨rfl, h4, f4⟩
      have P4 := P3.grown f4 nP
      have R4 := R3.grown f4 nR
      have D4 := D3.grown f4 nD
      have g4 := g3.trans f4
      have d4 := D4.cell 0
      have z4 := D4.free 0
      simp at d4
      go_wp2_with fail
      go_meet
      rw [hk]
      exact ⟨rfl, P4.keep (Below.heap_setCell _ _ _ _ qP), R4.keep (Below.heap_setCell _ _ _ _ qR), D4.set 0 _, h4.own hU hlt (by omega) 0 _, g4.own (by omega) 0 _⟩
    by_cases m2 : mayB toks p sUnion = true
    · have hk : kindF toks p = (2, p.step) := by simp [kindF, m1, m2]
      have c3 := P3.cell 0
      simp at c3
      go_wp2_with fail
      refine (mayN sStruct (by decide +kernel) m1 h3).mono ?_
      rintro e W4 ⟨rfl, h4, f4⟩
      have P4 := P3.grown f4 nP
      have R4 := R3.grown f4 nR
      have D4 := D3.grown f4 nD
      have g4 := g3.trans f4
      have c4 := P4.cell 0
      simp at c4
      go_wp2_with fail
      refine (mayT sUnion (by decide +kernel) m2 h4).mono ?_
      rintro e W5 ⟨rfl, h5, f5⟩
      have P5 := P4.grown f5 nP
      have R5 := R4.grown f5 nR
      have D5 := D4.grown f5 nD
      have g5 := g4.trans f5
      have d5 := D5.cell 0
      have z5 := D5.free 0
      simp at d5
      go_wp2_with fail
      go_meet
      rw [hk]
      exact ⟨rfl, P5.keep (Below.heap_setCell _ _ _ _ qP), R5.keep (Below.heap_setCell _ _ _ _ qR), D5.set 0 _, h5.own hU hlt (by omega) 0 _, g5.own (by omega) 0 _⟩
    by_cases m3 : mayB toks p sEnum = true
    · have hk : kindF toks p = (3, p.step) := by simp [kindF, m1, m2, m3]
      have c3 := P3.cell 0
      simp at c3
      go_wp2_with fail
      refine (mayN sStruct (by decide +kernel) m1 h3).mono ?_
      rintro e W4 ⟨rfl, h4, f4⟩
      have P4 := P3.grown f4 nP
      have R4 := R3.grown f4 nR
      have D4 := D3.grown f4 nD
      have g4 := g3.trans f4
      have c4 := P4.cell 0
      simp at c4
      go_wp2_with fail
      refine (mayN sUnion (by decide +kernel) m2 h4).mono ?_
      rintro e W5 ⟨rfl, h5, f5⟩
      have P5 := P4.grown f5 nP
      have R5 := R4.grown f5 nR
      have D5 := D4.grown f5 nD
      have g5 := g4.trans f5
      have c5 := P5.cell 0
      simp at c5
      go_wp2_with fail
      refine (mayT sEnum (by decide +kernel) m3 h5).mono ?_
      rintro e W6 ⟨rfl, h6, f6⟩
      have P6 := P5.grown f6 nP
      have R6 := R5.grown f6 nR
      have D6 := D5.grown f6 nD
      have g6 := g5.trans f6
      have d6 := D6.cell 0
      have z6 := D6.free 0
      simp at d6
      go_wp2_with fail
      go_meet
      rw [hk]
      exact ⟨rfl, P6.keep (Below.heap_setCell _ _ _ _ qP), R6.keep (Below.heap_setCell _ _ _ _ qR), D6.set 0 _, h6.own hU hlt (by omega) 0 _, g6.own (by omega) 0 _⟩
    by_cases m4 : mayB toks p sService = true
    · have hk : kindF toks p = (4, p.step) := by simp [kindF, m1, m2, m3, m4]
      have c3 := P3.cell 0
      simp at c3
      go_wp2_with fail
      refine (mayN sStruct (by decide +kernel) m1 h3).mono ?_
      rintro e W4 ⟨rfl, h4, f4⟩
      have P4 := P3.grown f4 nP
      have R4 := R3.grown f4 nR
      have D4 := D3.grown f4 nD
      have g4 := g3.trans f4
      have c4 := P4.cell 0
      simp at c4
      go_wp2_with fail
      refine (mayN sUnion (by decide +kernel) m2 h4).mono ?_
      rintro e W5 ⟨rfl, h5, f5⟩
      have P5 := P4.grown f5 nP
      have R5 := R4.grown f5 nR
      have D5 := D4.grown f5 nD
      have g5 := g4.trans f5
      have c5 := P5.cell 0
      simp at c5
      go_wp2_with fail
      refine (mayN sEnum (by decide +kernel) m3 h5).mono ?_
      rintro e W6 ⟨rfl, h6, f6⟩
      have P6 := P5.grown f6 nP
      have R6 := R5.grown f6 nR
      have D6 := D5.grown f6 nD
      have g6 := g5.trans f6
      have c6 := P6.cell 0
      simp at c6
      go_wp2_with fail
      refine (mayT sService (by decide +kernel) m4 h6).mono ?_
      rintro e W7 ⟨rfl, h7, f7⟩
      have P7 := P6.grown f7 nP
      have R7 := R6.grown f7 nR
      have D7 := D6.grown f7 nD
      have g7 := g6.trans f7
      have d7 := D7.cell 0
      have z7 := D7.free 0
      simp at d7
      go_wp2_with fail
      go_meet
      rw [hk]
      exact ⟨rfl, P7.keep (Below.heap_setCell _ _ _ _ qP), R7.keep (Below.heap_setCell _ _ _ _ qR), D7.set 0 _, h7.own hU hlt (by omega) 0 _, g7.own (by omega) 0 _⟩
    · have hk : kindF toks p = (0, p.fail toks 5) := by simp [kindF, m1, m2, m3, m4]
      have c3 := P3.cell 0
      simp at c3
      go_wp2_with fail
      refine (mayN sStruct (by decide +kernel) m1 h3).mono ?_
      rintro e W4 ⟨rfl, h4, f4⟩
      have P4 := P3.grown f4 nP
      have R4 := R3.grown f4 nR
      have D4 := D3.grown f4 nD
      have g4 := g3.trans f4
      have c4 := P4.cell 0
      simp at c4
      go_wp2_with fail
      refine (mayN sUnion (by decide +kernel) m2 h4).mono ?_
      rintro e W5 ⟨rfl, h5, f5⟩
      have P5 := P4.grown f5 nP
      have R5 := R4.grown f5 nR
      have D5 := D4.grown f5 nD
      have g5 := g4.trans f5
      have c5 := P5.cell 0
      simp at c5
      go_wp2_with fail
      refine (mayN sEnum (by decide +kernel) m3 h5).mono ?_
      rintro e W6 ⟨rfl, h6, f6⟩
      have P6 := P5.grown f6 nP
      have R6 := R5.grown f6 nR
      have D6 := D5.grown f6 nD
      have g6 := g5.trans f6
      have c6 := P6.cell 0
      simp at c6
      go_wp2_with fail
      refine (mayN sService (by decide +kernel) m4 h6).mono ?_
      rintro e W7 ⟨rfl, h7, f7⟩
      have P7 := P6.grown f7 nP
      have R7 := R6.grown f7 nR
      have D7 := D6.grown f7 nD
      have g7 := g6.trans f7
      have c7 := P7.cell 0
      simp at c7
      go_wp2_with fail
      refine (fail_calls 5 h7).mono ?_
      rintro e W8 ⟨rfl, h8, f8⟩
      have P8 := P7.grown f8 nP
      have R8 := R7.grown f8 nR
      have D8 := D7.grown f8 nD
      go_wp2_with fail
      go_meet
      rw [hk]
      exact ⟨rfl, P8, R8, D8, h8, g7.trans f8⟩
  case rest =>
    obtain ⟨rfl, P4, R4, D4, h4, g4⟩ := hcut
    have nP : some w.heap.size ≠ some bp := by intro e; injection e with e; omega
    have nR : some (w.heap.size + 1) ≠ some bp := by intro e; injection e with e; omega
    have nD : some w2.heap.size ≠ some bp := by intro e; injection e with e; omega
    have qP : w.heap.size ≠ w2.heap.size := by omega
    have qR : w.heap.size + 1 ≠ w2.heap.size := by omega
    clear hf h1 P1 R1 h2 g2 P2 R2 D3 h3 g3 P3 R3 hW3
    have hres := HRES.out
    unfold declF at hres
    simp only at hres
    obtain ⟨k, q, ek⟩ : ∃ k q, kindF toks p = (k, q) := ⟨_, _, rfl⟩
    rw [ek] at hres D4 h4
    rw [show (kindF toks p).1 = k by rw [ek]]
    simp only at D4 h4 hres
    have hkn := kind_ok ek
    have hN := name_calls h4
    have hns := name_size h4 q
    obtain ⟨nm, q2, en⟩ : ∃ k p, q.name toks = (k, p) := ⟨_, _, rfl⟩
    rw [en] at hN hns hres
    simp only at hN hns hres
    have c4 := P4.cell 0
    simp at c4
    have hpos := pos_ok h
    have hk64 : i64ok k := by unfold i64ok; omega
    have hnm : nm.size ≤ 2147483647 := by omega
    generalize (p.now toks).pos = pos at *
    go_wp2_with fail
    refine hN.mono ?_
    rintro e w5 ⟨rfl, h5, g5⟩
    have P5 := P4.grown g5 nP
    have R5 := R4.grown g5 nR
    have D5 := D4.grown g5 nD
    have c5 := P5.cell 0
    have d5 := D5.cell 1
    have z5 := D5.free 1
    simp at c5 d5
    have l5 := P5.lt
    have l6 := D5.lt
    go_upto_region 16 with fail
    obtain ⟨W6, hW6⟩ : ∃ W, w5.setCell ⟨w2.heap.size, 1, none⟩ (.string nm) = W := ⟨_, rfl⟩
    have P6 : Blk W6 w.heap.size [.pointer (some ⟨bp, 0, none⟩)] 315 := hW6 ▸ P5.keep (Below.heap_setCell _ _ _ _ qP)
    have R6 : Blk W6 (w.heap.size + 1) [.int .i64 0, .string ⟨#[]⟩, .slice none 0 0, .slice none 0 0, .int .i64 0] 149 := hW6 ▸ R5.keep (Below.heap_setCell _ _ _ _ qR)
    have D6 : Blk W6 w2.heap.size [.int .i64 k, .string nm, .slice none 0 0, .slice none 0 0, .int .i64 pos] 149 := hW6 ▸ D5.set 1 _
    have h6 : PAt S bp a cap toks q2 W6 := hW6 ▸ h5.own hU hlt (by omega) 1 _
    have g6 : But bp w W6 := hW6 ▸ (g4.trans g5).own (by omega) 1 _
    rw [hW6]
    have hS6 : ∀ b, S b → b < w2.heap.size := fun b hb => by have := hU b hb; omega
    have hB6 : w2.heap.size ≤ W6.heap.size := Nat.le_of_lt D6.lt
    have c6 := P6.cell 0
    simp at c6
    clear hW6 P5 R5 D5 c5 d5 z5 l5 l6 h5 g5 P4 R4 D4 h4 g4 c4 hN en ek HRES
    by_cases hk3 : k = 3
    · subst hk3
      rw [if_pos rfl] at hres
      have DA : DAt RFld 208 (mkF 3 nm pos) S bp a cap toks w2.heap.size w.heap.size w2.heap.size q2 [] W6 :=
        ⟨h6, P6, ⟨none, 0, D6, OwnL.nil _ _ _ _ _ _⟩, nP, Nat.le_refl _, qP, by omega, hS6, hB6⟩
      have hends := h6.ends
      have HR := rows_calls (R := RFld) keepsFld (enumRow toks) 232 (.pointer (some ⟨w2.heap.size, 0, none⟩)) (.pointer (some ⟨w.heap.size, 0, none⟩)) (.inr (.inl rfl)) (fun p l W h hl => enumRow_calls h hl) (fun p hi he hk => enum_end hk) DA
      have hlen := rowsF_len (enumRow toks) toks 18 0 (q2.need toks ⟨#[123]⟩) []
      generalize rowsF (enumRow toks) toks 18 0 (q2.need toks ⟨#[123]⟩) [] = r at *
      obtain ⟨rows, q3⟩ := r
      simp only [List.length_nil] at hlen
      simp only at HR hres
      have HRES := Lib.hid hres
      clear hres
      simp only [cloF, capF]
      go_wp2_with fail
      refine HR.mono ?_
      rintro e w7 ⟨rfl, D7, G7⟩
      obtain ⟨fa, fc, D8, O8⟩ := D7.fld
      have R7 := R6.keep (w' := w7) (G7.2.2.2.2 _ (by omega) (by omega))
      have P7 := P6.keep (w' := w7) (G7.2.2.2.2 _ (by omega) (by omega))
      have B7 := Frm.butFrom g6 G7 (by omega)
      have A7 := D7.pat
      have k0 := D8.cell 0
      have k1 := D8.cell 1
      have k2 := D8.cell 2
      have k3 := D8.cell 3
      have k4 := D8.cell 4
      have r0 := R7.cell 0
      have r1 := R7.cell 1
      have r2 := R7.cell 2
      have r3 := R7.cell 3
      have r4 := R7.cell 4
      have s0 := R7.free 0
      have s1 := R7.free 1
      have s2 := R7.free 2
      have s3 := R7.free 3
      have s4 := R7.free 4
      have rl := R7.lt
      have dl := D8.lt
      simp at k0 k1 k2 k3 k4 r0 r1 r2 r3 r4
      go_wp2_with fail
      refine end_world (fun W => Blk W (w.heap.size + 1) [.int .i64 3, .string nm, .slice fa rows.length fc, .slice none 0 0, .int .i64 pos] 149 ∧ PAt S bp a cap toks q3 W ∧ But bp w W ∧ OwnL RFld w2.heap.size (fun b => b = w.heap.size ∨ b = w2.heap.size) 208 5 W rows fa fc) ?_ ?_
      · refine ⟨((((R7.set 0 _).set 1 _).set 2 _).set 3 _).set 4 _, ((((A7.own hU hlt (by omega) 0 _).own hU hlt (by omega) 1 _).own hU hlt (by omega) 2 _).own hU hlt (by omega) 3 _).own hU hlt (by omega) 4 _,
          ((((B7.own (by omega) 0 _).own (by omega) 1 _).own (by omega) 2 _).own (by omega) 3 _).own (by omega) 4 _, ?_⟩
        refine OwnL.keep (R := RFld) keepsFld O8 (by simp [World.setCell]) (fun b hb _ _ => ?_)
        have hbr : b ≠ w.heap.size + 1 := by omega
        rw [Below.heap_setCell _ _ _ _ hbr, Below.heap_setCell _ _ _ _ hbr, Below.heap_setCell _ _ _ _ hbr, Below.heap_setCell _ _ _ _ hbr, Below.heap_setCell _ _ _ _ hbr]
      rintro W ⟨hW1, hW2, hW3, hW4⟩
      clear k0 k1 k2 k3 k4 r0 r1 r2 r3 r4 s0 s1 s2 s3 s4 rl dl
      have q0 := hW1.cell 0
      have q1 := hW1.cell 1
      have q2 := hW1.cell 2
      have q3 := hW1.cell 3
      have q4 := hW1.cell 4
      simp at q0 q1 q2 q3 q4
      refine bodyPost_ret (v := .agg #[.int .i64 3, .string nm, .slice fa rows.length fc, .slice none 0 0, .int .i64 pos]) (by simp [results, Tryz.results184, go_sem, q0, q1, q2, q3, q4]) rfl ?_
      have hRd := read_new (w := w) (R := RFld) keepsFld hW4 (by omega) (by omega)
      rw [← HRES.out]
      exact ⟨fa, fc, none, 0, rfl, ⟨fa, fc, none, 0, rfl, hk64, hnm, hRd, .inl ⟨rfl, rfl, rfl⟩, hpos⟩, hW2, hW3⟩
    rw [if_neg hk3] at hres
    by_cases hk4 : k = 4
    · subst hk4
      rw [if_pos rfl] at hres
      have DA : DAt RMth' 76 (mkM 4 nm pos) S bp a cap toks w2.heap.size w.heap.size w2.heap.size q2 [] W6 :=
        ⟨h6, P6, ⟨none, 0, D6, OwnL.nil _ _ _ _ _ _⟩, nP, Nat.le_refl _, qP, by omega, hS6, hB6⟩
      have hends := h6.ends
      have HR := rows_calls (R := RMth') keepsMth (PS.method toks) 233 (.pointer (some ⟨w2.heap.size, 0, none⟩)) (.pointer (some ⟨w.heap.size, 0, none⟩)) (.inr (.inr rfl)) (fun p l W h hl => mthRow_calls h hl) (fun p hi he hk => mth_end hends hi hk) DA
      have hlen := rowsF_len (PS.method toks) toks 18 0 (q2.need toks ⟨#[123]⟩) []
      generalize rowsF (PS.method toks) toks 18 0 (q2.need toks ⟨#[123]⟩) [] = r at *
      obtain ⟨rows, q3⟩ := r
      simp only [List.length_nil] at hlen
      simp only at HR hres
      have HRES := Lib.hid hres
      clear hres
      simp only [cloF, capF]
      go_wp2_with fail
      refine HR.mono ?_
      rintro e w7 ⟨rfl, D7, G7⟩
      obtain ⟨fa, fc, D8, O8⟩ := D7.fld
      have R7 := R6.keep (w' := w7) (G7.2.2.2.2 _ (by omega) (by omega))
      have P7 := P6.keep (w' := w7) (G7.2.2.2.2 _ (by omega) (by omega))
      have B7 := Frm.butFrom g6 G7 (by omega)
      have A7 := D7.pat
      have k0 := D8.cell 0
      have k1 := D8.cell 1
      have k2 := D8.cell 2
      have k3 := D8.cell 3
      have k4 := D8.cell 4
      have r0 := R7.cell 0
      have r1 := R7.cell 1
      have r2 := R7.cell 2
      have r3 := R7.cell 3
      have r4 := R7.cell 4
      have s0 := R7.free 0
      have s1 := R7.free 1
      have s2 := R7.free 2
      have s3 := R7.free 3
      have s4 := R7.free 4
      have rl := R7.lt
      have dl := D8.lt
      simp at k0 k1 k2 k3 k4 r0 r1 r2 r3 r4
      go_wp2_with fail
      refine end_world (fun W => Blk W (w.heap.size + 1) [.int .i64 4, .string nm, .slice none 0 0, .slice fa rows.length fc, .int .i64 pos] 149 ∧ PAt S bp a cap toks q3 W ∧ But bp w W ∧ OwnL RMth' w2.heap.size (fun b => b = w.heap.size ∨ b = w2.heap.size) 76 5 W rows fa fc) ?_ ?_
      · refine ⟨((((R7.set 0 _).set 1 _).set 2 _).set 3 _).set 4 _, ((((A7.own hU hlt (by omega) 0 _).own hU hlt (by omega) 1 _).own hU hlt (by omega) 2 _).own hU hlt (by omega) 3 _).own hU hlt (by omega) 4 _,
          ((((B7.own (by omega) 0 _).own (by omega) 1 _).own (by omega) 2 _).own (by omega) 3 _).own (by omega) 4 _, ?_⟩
        refine OwnL.keep (R := RMth') keepsMth O8 (by simp [World.setCell]) (fun b hb _ _ => ?_)
        have hbr : b ≠ w.heap.size + 1 := by omega
        rw [Below.heap_setCell _ _ _ _ hbr, Below.heap_setCell _ _ _ _ hbr, Below.heap_setCell _ _ _ _ hbr, Below.heap_setCell _ _ _ _ hbr, Below.heap_setCell _ _ _ _ hbr]
      rintro W ⟨hW1, hW2, hW3, hW4⟩
      clear k0 k1 k2 k3 k4 r0 r1 r2 r3 r4 s0 s1 s2 s3 s4 rl dl
      have q0 := hW1.cell 0
      have q1 := hW1.cell 1
      have q2 := hW1.cell 2
      have q3 := hW1.cell 3
      have q4 := hW1.cell 4
      simp at q0 q1 q2 q3 q4
      refine bodyPost_ret (v := .agg #[.int .i64 4, .string nm, .slice none 0 0, .slice fa rows.length fc, .int .i64 pos]) (by simp [results, Tryz.results184, go_sem, q0, q1, q2, q3, q4]) rfl ?_
      have hRd := read_new (w := w) (R := RMth') keepsMth hW4 (by omega) (by omega)
      rw [← HRES.out]
      exact ⟨none, 0, fa, fc, rfl, ⟨none, 0, fa, fc, rfl, hk64, hnm, .inl ⟨rfl, rfl, rfl⟩, hRd, hpos⟩, hW2, hW3⟩
    · rw [if_neg hk4] at hres
      have DA : DAt RFld 208 (mkF k nm pos) S bp a cap toks w2.heap.size w.heap.size w2.heap.size q2 [] W6 :=
        ⟨h6, P6, ⟨none, 0, D6, OwnL.nil _ _ _ _ _ _⟩, nP, Nat.le_refl _, qP, by omega, hS6, hB6⟩
      have hends := h6.ends
      have HR := rows_calls (R := RFld) keepsFld (fldRow toks) 226 (.pointer (some ⟨w.heap.size, 0, none⟩)) (.pointer (some ⟨w2.heap.size, 0, none⟩)) (.inl rfl) (fun p l W h hl => fldRow_calls h hl) (fun p hi he hk => fld_end hk) DA
      have hlen := rowsF_len (fldRow toks) toks 18 0 (q2.need toks ⟨#[123]⟩) []
      generalize rowsF (fldRow toks) toks 18 0 (q2.need toks ⟨#[123]⟩) [] = r at *
      obtain ⟨rows, q3⟩ := r
      simp only [List.length_nil] at hlen
      simp only at HR hres
      have HRES := Lib.hid hres
      clear hres
      have hclo : cloF k = 226 := by unfold cloF; rw [if_neg hk3, if_neg hk4]
      have hcap : capF k w.heap.size w2.heap.size = #[.pointer (some ⟨w.heap.size, 0, none⟩), .pointer (some ⟨w2.heap.size, 0, none⟩)] := by unfold capF; rw [if_neg (by omega)]
      rw [hclo, hcap]
      go_wp2_with fail
      refine HR.mono ?_
      rintro e w7 ⟨rfl, D7, G7⟩
      obtain ⟨fa, fc, D8, O8⟩ := D7.fld
      have R7 := R6.keep (w' := w7) (G7.2.2.2.2 _ (by omega) (by omega))
      have P7 := P6.keep (w' := w7) (G7.2.2.2.2 _ (by omega) (by omega))
      have B7 := Frm.butFrom g6 G7 (by omega)
      have A7 := D7.pat
      have k0 := D8.cell 0
      have k1 := D8.cell 1
      have k2 := D8.cell 2
      have k3 := D8.cell 3
      have k4 := D8.cell 4
      have r0 := R7.cell 0
      have r1 := R7.cell 1
      have r2 := R7.cell 2
      have r3 := R7.cell 3
      have r4 := R7.cell 4
      have s0 := R7.free 0
      have s1 := R7.free 1
      have s2 := R7.free 2
      have s3 := R7.free 3
      have s4 := R7.free 4
      have rl := R7.lt
      have dl := D8.lt
      simp at k0 k1 k2 k3 k4 r0 r1 r2 r3 r4
      go_wp2_with fail
      refine end_world (fun W => Blk W (w.heap.size + 1) [.int .i64 k, .string nm, .slice fa rows.length fc, .slice none 0 0, .int .i64 pos] 149 ∧ PAt S bp a cap toks q3 W ∧ But bp w W ∧ OwnL RFld w2.heap.size (fun b => b = w.heap.size ∨ b = w2.heap.size) 208 5 W rows fa fc) ?_ ?_
      · refine ⟨((((R7.set 0 _).set 1 _).set 2 _).set 3 _).set 4 _, ((((A7.own hU hlt (by omega) 0 _).own hU hlt (by omega) 1 _).own hU hlt (by omega) 2 _).own hU hlt (by omega) 3 _).own hU hlt (by omega) 4 _,
          ((((B7.own (by omega) 0 _).own (by omega) 1 _).own (by omega) 2 _).own (by omega) 3 _).own (by omega) 4 _, ?_⟩
        refine OwnL.keep (R := RFld) keepsFld O8 (by simp [World.setCell]) (fun b hb _ _ => ?_)
        have hbr : b ≠ w.heap.size + 1 := by omega
        rw [Below.heap_setCell _ _ _ _ hbr, Below.heap_setCell _ _ _ _ hbr, Below.heap_setCell _ _ _ _ hbr, Below.heap_setCell _ _ _ _ hbr, Below.heap_setCell _ _ _ _ hbr]
      rintro W ⟨hW1, hW2, hW3, hW4⟩
      clear k0 k1 k2 k3 k4 r0 r1 r2 r3 r4 s0 s1 s2 s3 s4 rl dl
      have q0 := hW1.cell 0
      have q1 := hW1.cell 1
      have q2 := hW1.cell 2
      have q3 := hW1.cell 3
      have q4 := hW1.cell 4
      simp at q0 q1 q2 q3 q4
      refine bodyPost_ret (v := .agg #[.int .i64 k, .string nm, .slice fa rows.length fc, .slice none 0 0, .int .i64 pos]) (by simp [results, Tryz.results184, go_sem, q0, q1, q2, q3, q4]) rfl ?_
      have hRd := read_new (w := w) (R := RFld) keepsFld hW4 (by omega) (by omega)
      rw [← HRES.out]
      exact ⟨fa, fc, none, 0, rfl, ⟨fa, fc, none, 0, rfl, hk64, hnm, hRd, .inl ⟨rfl, rfl, rfl⟩, hpos⟩, hW2, hW3⟩
end Go.Proofs.YtfoihafhpmbaeaaGreatDoor

/- What tokens there are. -/
namespace Go.Proofs.YtfoihafhpmbaeaaGreatDoor
open Go.RowKit

def TokOk (t : Tok) : Prop := RTok t t.cells ∧ t.kind ≠ 4

theorem lexOne_toks (s : ByteArray) (k : Nat) (h : k < s.size) (hs : s.size ≤ 1024) : ∀ t ∈ (lexOne s k s[k]).2.2, TokOk t := by
  have ex : ∀ a b, (s.extract a b).size ≤ 1048576 := fun a b => by
    rw [ByteArray.size_extract]; omega
  have k64 : i64ok (k : Int) := by unfold i64ok; omega
  have z64 : i64ok 0 := by unfold i64ok; omega
  unfold lexOne
  intro t ht
  split at ht
  · split at ht
    · cases ht
    · simp only [List.mem_singleton] at ht
      subst ht
      exact ⟨⟨rfl, by show i64ok 1; unfold i64ok; decide, ex _ _, z64, k64⟩, by show (1 : Int) ≠ 4; decide⟩
  · split at ht
    · split at ht
      · rename_i hn
        simp only [List.mem_singleton] at ht
        subst ht
        have hl : (s.extract k (k + digLen s k)).data.toList.length ≤ 4 := by
          unfold numErr at hn
          split at hn
          · cases hn
          · split at hn
            · cases hn
            · rename_i h4
              have : (s.extract k (k + digLen s k)).data.toList.length = (s.extract k (k + digLen s k)).size := by rw [Array.length_toList]; rfl
              omega
        have hb := numVal_bd _ hl
        exact ⟨⟨rfl, by show i64ok 2; unfold i64ok; decide, ex _ _, by show i64ok (numVal _); unfold i64ok; omega, k64⟩, by show (2 : Int) ≠ 4; decide⟩
      · cases ht
    · split at ht
      · split at ht <;> cases ht
      · split at ht
        · cases ht
        · split at ht
          · cases ht
          · simp only [List.mem_singleton] at ht
            subst ht
            exact ⟨⟨rfl, by show i64ok 3; unfold i64ok; decide, ex _ _, z64, k64⟩, by show (3 : Int) ≠ 4; decide⟩

theorem lexAll_toks (s : ByteArray) (hs : s.size ≤ 1024) : ∀ (f k : Nat) (l : List Tok), k ≤ s.size → s.size - k < f → l.length ≤ k → (∀ t ∈ l, TokOk t) →
    ((lexAll s f k l).1.1 ≠ 0 ∧ (lexAll s f k l).2 = []) ∨ ((lexAll s f k l).1.1 = 0 ∧ ∃ l', (lexAll s f k l).2 = l' ++ [⟨4, ⟨#[]⟩, 0, s.size⟩] ∧ l'.length ≤ s.size ∧ ∀ t ∈ l', TokOk t)
  | 0, k, l, hk, hf, _, _ => absurd hf (by omega)
  | f + 1, k, l, hk, hf, hlen, hl => by
    by_cases hlt : k < s.size
    · by_cases h0 : (lexOne s k s[k]).1 = 0
      · rw [lexAll_go hlt h0]
        have hup := lexOne_up s k hlt h0
        have hsh := lexOne_short s k s[k]
        refine lexAll_toks s hs f _ _ hup.2 (by omega) (by rw [List.length_append]; omega) (fun t ht => ?_)
        rcases List.mem_append.1 ht with ht | ht
        · exact hl t ht
        · exact lexOne_toks s k hlt hs t ht
      · rw [lexAll_stop hlt h0]
        exact .inl ⟨h0, rfl⟩
    · have e : k = s.size := by omega
      subst e
      rw [lexAll_end]
      exact .inr ⟨rfl, l, rfl, hlen, hl⟩

theorem lexS_toks (s : ByteArray) : ((lexS s).1.1 ≠ 0 ∧ (lexS s).2 = []) ∨ ((lexS s).1.1 = 0 ∧ s.size ≤ 1024 ∧ ∃ l', (lexS s).2 = l' ++ [⟨4, ⟨#[]⟩, 0, s.size⟩] ∧ l'.length ≤ s.size ∧ ∀ t ∈ l', TokOk t) := by
  unfold lexS
  split
  · exact .inl ⟨by decide, rfl⟩
  · rename_i h
    rcases lexAll_toks s (by omega) (s.size + 1) 0 [] (by omega) (by omega) (by simp) (fun t ht => by cases ht) with h | ⟨h1, h2⟩
    · exact .inl h
    · exact .inr ⟨h1, by omega, h2⟩

theorem ends_of {l' : List Tok} {e : Tok} (h1 : e.text = ⟨#[]⟩) (h2 : e.kind = 4) (h : ∀ t ∈ l', TokOk t) : Ends (l' ++ [e]) := by
  intro i hi
  by_cases hlt : i < l'.length
  · rw [List.getElem_append_left hlt]
    refine ⟨fun e => ?_, fun e => absurd e (h _ (List.getElem_mem hlt)).2⟩
    simp at e; omega
  · have hie : i = l'.length := by simp at hi; omega
    subst hie
    rw [List.getElem_append_right (Nat.le_refl _)]
    simp only [Nat.sub_self, List.getElem_cons_zero]
    exact ⟨fun _ => ⟨h1, h2⟩, fun _ => by simp⟩

theorem tokCells_at (l : List Tok) : ∀ (i : Nat) (h : i < l.length), ((tokCells l).drop (i * 4)).take 4 = l[i].cells := by
  induction l with
  | nil => intro i h; simp at h
  | cons x xs ih =>
    intro i h
    have e : tokCells (x :: xs) = x.cells ++ tokCells xs := by simp [tokCells]
    have hx : x.cells.length = 4 := rfl
    rw [e]
    cases i with
    | zero =>
      simp only [Nat.zero_mul, List.drop_zero, List.getElem_cons_zero]
      rw [← hx, List.take_left]
    | succ j =>
      have : (j + 1) * 4 = x.cells.length + j * 4 := by rw [hx]; omega
      rw [this, List.drop_length_add_append, List.getElem_cons_succ]
      exact ih j (by simp at h; omega)

abbrev RTok' : Blocks → World → Tok → List Value → Prop := fun _ _ t cs => RTok t cs
theorem keepsTok : Keeps RTok' := fun _ _ r => r
theorem toks_own {W : World} {B : Nat} {l : List Tok} {a : Option Addr} {c : Nat} (h : W.ownsRow B 320 4 (.slice a l.length c) l.length (tokCells l)) (hl : ∀ t ∈ l, RTok t t.cells) :
    OwnL RTok' B (fun _ => False) 320 4 W l a c :=
  ⟨tokCells l, fun _ => False, h, fun _ h => h.elim, fun _ h => h.elim, fun _ h => h.elim, fun _ h => h.elim, fun i hi => by
    show RTok _ _
    rw [tokCells_at l i hi]
    exact hl _ (List.getElem_mem hi)⟩
end Go.Proofs.YtfoihafhpmbaeaaGreatDoor

/- A schema's text is parsed. -/
namespace Go.Proofs.YtfoihafhpmbaeaaGreatDoor
open Go.RowKit

def declsF (toks : List Tok) : Nat → PS → List Dcl → List Dcl × PS
  | 0, p, l => (l, p)
  | f + 1, p, l =>
    if p.err = 0 then
      if (p.now toks).kind = 4 then (l, p)
      else if l.length = 16 then (l, p.fail toks 3)
      else declsF toks f (declF toks p).2 (l ++ [(declF toks p).1])
    else (l, p)
/-- what is wrong and where, or the declarations -/
def parseS (s : ByteArray) : (Int × Int) × List Dcl :=
  if (lexS s).1.1 = 0 then
    let r := declsF (lexS s).2 17 ⟨0, 0, 0⟩ []
    if r.2.err = 0 then ((0, 0), r.1) else ((r.2.err, r.2.fat), [])
  else (((lexS s).1.1, (lexS s).1.2), [])

def ParsePost (s : ByteArray) (w : World) (e : Ending) (w' : World) : Prop :=
  Below w.heap.size w w' ∧ ∃ a cap, e = .returned (.tuple #[.slice a (parseS s).2.length cap, .agg #[.int .i64 (parseS s).1.1, .int .i64 (parseS s).1.2]]) ∧
    RSl 5 (RDcl (New w w') w') (New w w') w' (parseS s).2 a cap

theorem Parse_bad (s : ByteArray) (w : World) (hs : s.size ≤ 1048576) (h0 : (lexS s).1.1 ≠ 0) : Calls Tryz.prog 147 #[.string s] w (ParsePost s w) := by
  have hT := fun W => Tokens_calls s W hs
  have hn : (lexS s).2 = [] := by
    rcases lexS_toks s with h | h
    · exact h.2
    · exact absurd h.1 h0
  have E : parseS s = (((lexS s).1.1, ((lexS s).1.2 : Int)), []) := by unfold parseS; rw [if_neg h0]
  unfold ParsePost
  rw [E]
  unfold TokensPost at hT
  rw [hn] at hT
  generalize (lexS s).1 = f at *
  have HT := Lib.hid hT
  have hb : (f.1 != 0) = true := by rw [bne_iff_ne]; exact h0
  have hb2 : (f.1 == 0) = false := by rw [beq_eq_false_iff_ne]; exact h0
  clear hT hn E h0
  go_enter Tryz.func147, Tryz.ntmps147
  go_wp2_with fail
  refine (HT.out _).mono ?_
  rintro e w1 ⟨hB, a, cap, rfl, hown⟩
  have R0 := Blk.new w [.int .i64 0, .int .i64 0] 221
  have R1 := R0.below hB R0.lt
  have d0 := R1.cell 0
  have d1 := R1.cell 1
  have f0 := R1.free 0
  have f1 := R1.free 1
  have l1 := R1.lt
  simp at d0 d1
  go_wp2_with fail
  go_region
  all_goals
    go_wp2_with fail
    refine end_world (fun W => Blk W w.heap.size [.int .i64 f.1, .int .i64 (f.2 : Int)] 221 ∧ Below w.heap.size w W) ?_ ?_
    · have B1 := hB.popc
      have z1 := B1.size
      first
        | exact ⟨((R1.set 0 _).set 1 _).alloc _, (((B1.setCell (p := ⟨w.heap.size, 0, none⟩) (Nat.le_refl _) _).setCell (p := ⟨w.heap.size, 1, none⟩) (Nat.le_refl _) _).alloc (by simpa using z1) _).drew⟩
        | exact ⟨((R1.alloc _).set 0 _).set 1 _, (((B1.alloc z1 _).drew.setCell (p := ⟨w.heap.size, 0, none⟩) (Nat.le_refl _) _).setCell (p := ⟨w.heap.size, 1, none⟩) (Nat.le_refl _) _)⟩
    rintro W ⟨hW1, hW2⟩
    have q0 := hW1.cell 0
    have q1 := hW1.cell 1
    simp at q0 q1
    refine bodyPost_ret (v := .tuple #[.slice none 0 0, .agg #[.int .i64 f.1, .int .i64 (f.2 : Int)]]) (by simp [results, Tryz.results147, go_sem, q0, q1]) rfl ?_
    exact ⟨hW2, none, 0, rfl, .inl ⟨rfl, rfl, rfl⟩⟩
end Go.Proofs.YtfoihafhpmbaeaaGreatDoor

/- A schema's text is parsed: where its tokens are good. -/
namespace Go.Proofs.YtfoihafhpmbaeaaGreatDoor
open Go.RowKit

theorem Frm.below' {B bp b0 : Nat} {w w1 w2 : World} (g : Frm B bp w1 w2) (h : Below b0 w w1) (hB : b0 ≤ B) (hb : b0 ≤ bp) : Below b0 w w2 :=
  h.trans ⟨g.1, g.2.1, g.2.2.1, g.2.2.2.1, fun k hk => g.2.2.2.2 k (Nat.lt_of_lt_of_le hk hB) (by omega)⟩
theorem keepsDcl : Keeps RDcl := fun hs k r => r.keep hs k
def lenOf : Value → Nat
  | .slice _ n _ => n
  | _ => 0
theorem info_dcl : (Tryz.prog.info? 149).map (fun i => (i.zero, i.size, i.bytes)) = some (some (.agg #[.int .i64 0, .string ⟨#[]⟩, .slice none 0 0, .slice none 0 0, .int .i64 0]), 5, 80) := by kernel_rfl

theorem declsF_bad {toks : List Tok} {f : Nat} {p : PS} {l : List Dcl} (h : p.err ≠ 0) : declsF toks f p l = (l, p) := by
  cases f
  · rfl
  · simp only [declsF, if_neg h]

set_option maxHeartbeats 2000000 in
theorem Parse_ok (s : ByteArray) (w : World) (hs : s.size ≤ 1048576) (hML : MaxL w) (h0 : (lexS s).1.1 = 0) : Calls Tryz.prog 147 #[.string s] w (ParsePost s w) := by
  have hT := fun W => Tokens_calls s W hs
  obtain ⟨h1024, l', hl', hlen', hok'⟩ : s.size ≤ 1024 ∧ ∃ l', (lexS s).2 = l' ++ [⟨4, ⟨#[]⟩, 0, s.size⟩] ∧ l'.length ≤ s.size ∧ ∀ t ∈ l', TokOk t := by
    rcases lexS_toks s with h | h
    · exact absurd h0 h.1
    · exact h.2
  have E : parseS s = (if (declsF (lexS s).2 17 ⟨0, 0, 0⟩ []).2.err = 0 then ((0, 0), (declsF (lexS s).2 17 ⟨0, 0, 0⟩ []).1) else (((declsF (lexS s).2 17 ⟨0, 0, 0⟩ []).2.err, (declsF (lexS s).2 17 ⟨0, 0, 0⟩ []).2.fat), [])) := by
    unfold parseS; rw [if_pos h0]
  have hends : Ends (lexS s).2 := by rw [hl']; exact ends_of rfl rfl hok'
  have hlen : (lexS s).2.length ≤ 100000 ∧ 0 < (lexS s).2.length := by rw [hl']; simp; omega
  have hrt : ∀ t ∈ (lexS s).2, RTok t t.cells := fun t ht => by
    rw [hl'] at ht
    rcases List.mem_append.1 ht with ht | ht
    · exact (hok' t ht).1
    · simp only [List.mem_singleton] at ht
      subst ht
      exact ⟨rfl, by show i64ok 4; unfold i64ok; decide, by show (⟨#[]⟩ : ByteArray).size ≤ _; decide, by show i64ok 0; unfold i64ok; decide, by show i64ok (s.size : Int); unfold i64ok; omega⟩
  obtain ⟨res, hres⟩ : ∃ r, parseS s = r := ⟨_, rfl⟩
  unfold ParsePost
  rw [hres]
  rw [hres] at E
  unfold TokensPost at hT
  generalize (lexS s).2 = toks at *
  obtain ⟨⟨f0, f1⟩, hf⟩ : ∃ r, (lexS s).1 = r := ⟨_, rfl⟩
  rw [hf] at hT h0
  simp only at hT h0
  subst h0
  have HT := Lib.hid hT
  have HE := Lib.hid E
  clear hT E hres hf hl' hok'
  go_enter Tryz.func147, Tryz.ntmps147
  go_wp2_with fail
  refine (HT.out _).mono ?_
  rintro e w1 ⟨hB, a, cap, rfl, hown⟩
  have R0 := Blk.new w [.int .i64 0, .int .i64 0] 221
  have R1 := R0.below hB R0.lt
  have B1 := hB.popc
  obtain ⟨S', u1, u2, hrd⟩ := OwnL.read (R := RTok') keepsTok (toks_own hown hrt) (by omega)
  have z1 : w.heap.size + 1 ≤ w1.heap.size := by have := hB.size; simpa using this
  have c0 := (Blk.new w1 [.int .i64 0, .int .i64 (f1 : Int)] 221).cell 0
  simp at c0
  go_upto_region 6 with fail
  obtain ⟨W0, hW0⟩ : ∃ W, (w1.alloc (.cells #[.int .i64 0, .int .i64 (f1 : Int)] 221)).alloc (.cells #[.slice a toks.length cap, .int .i64 0, .int .i64 0, .int .i64 0] 317) = W := ⟨_, rfl⟩
  have hbp : Blk W0 (w1.heap.size + 1) [.slice a toks.length cap, .int .i64 ((0 : Nat) : Int), .int .i64 0, .int .i64 0] 317 := by
    have := Blk.new (w1.alloc (.cells #[.int .i64 0, .int .i64 (f1 : Int)] 221)) [.slice a toks.length cap, .int .i64 0, .int .i64 0, .int .i64 0] 317
    rw [World.size_alloc] at this
    rw [← hW0]
    exact this
  have BW : Below w1.heap.size w1 W0 := by rw [← hW0]; exact ((Below.refl _ _).alloc (Nat.le_refl _) _).alloc (by simp) _
  have hzW : W0.heap.size = w1.heap.size + 2 := by rw [← hW0]; simp
  have RF : Blk W0 w.heap.size [.int .i64 0, .int .i64 0] 221 := R1.below BW R1.lt
  have B0 : Below w.heap.size w W0 := B1.trans (BW.mono (by omega))
  have hMb : (3 : Nat) < w.heap.size := by
    obtain ⟨m, hm⟩ := hML
    exact World.block_lt_of_cell? w _ hm
  have hP0 : PAt (fun b => S' b ∨ b = 3) (w1.heap.size + 1) a cap toks ⟨0, 0, 0⟩ W0 := by
    refine ⟨hbp, hrd.keep (fun b hb => BW.block b (u1 b hb)) (fun b hb => .inl hb) (fun _ _ _ h => h), ?_, ?_, hlen.2, hlen.1, hends, hML.keep (B0.block _ hMb), .inr rfl⟩
    · rintro b (hb | rfl)
      · have := u1 b hb; omega
      · omega
    · rintro (hb | hb)
      · have := u1 _ hb; omega
      · omega
  rw [hW0]
  clear HT hown hrd hbp R0 R1 BW hrt hends
  go_wp2_with fail
  go_loopw [8] (fun s8 wr => ∃ (l : List Dcl) (p : PS) (oa : Option Addr) (oc : Nat), s8 = .slice oa l.length oc ∧ l.length ≤ 16 ∧ Hid (declsF toks 17 ⟨0, 0, 0⟩ [] = declsF toks (17 - l.length) p l) ∧
      PAt (fun b => S' b ∨ b = 3) (w1.heap.size + 1) a cap toks p wr ∧ OwnL RDcl W0.heap.size (fun _ => False) 149 5 wr l oa oc ∧ Frm W0.heap.size (w1.heap.size + 1) W0 wr) (fun s8 _ => 16 - lenOf s8)
  case atStart => exact ⟨[], ⟨0, 0, 0⟩, none, 0, rfl, by simp, rfl, hP0, OwnL.nil _ _ _ _ _ _, Frm.refl _ _ _⟩
  case round =>
    obtain ⟨l, p, oa, oc, rfl, hl16, hH, hP, hO, hG⟩ := hrel
    have hRF : Blk wr w.heap.size [.int .i64 0, .int .i64 0] 221 := RF.keep (hG.2.2.2.2 _ (by omega) (by omega))
    have hBw : Below w.heap.size w wr := Frm.below' hG B0 (by omega) (by omega)
    have hw := well_calls hP
    obtain ⟨f, hf⟩ : ∃ f, 17 - l.length = f + 1 := ⟨16 - l.length, by omega⟩
    by_cases he : p.err = 0
    · have HW : Hid (∀ W, PAt (fun b => S' b ∨ b = 3) (w1.heap.size + 1) a cap toks p W → Calls Tryz.prog 185 #[.pointer (some ⟨w1.heap.size + 1, 0, none⟩)] W fun e w' => e = .returned (.bool true) ∧ W = w') := fun W hW => by
        have := well_calls hW
        rw [he] at this
        exact this
      have hN := now_calls hP
      have hfl := fun W => tok_field0 (p.now toks).kind (p.now toks).num (p.now toks).pos (p.now toks).text W
      clear hw hP0
      by_cases hk : (p.now toks).kind = 4
      · have HG : Hid (declsF toks 17 ⟨0, 0, 0⟩ [] = (l, p)) := by
          show _ = _
          rw [hH.out, hf, declsF, if_pos he, if_pos hk]
        have HR : Hid (res = ((0, 0), l)) := by
          show _ = _
          rw [HE.out, HG.out, if_pos he]
        have hk1 : ((p.now toks).kind != 4) = false := by simp [hk]
        clear hH he hk HG HE hf
        generalize p.now toks = t at *
        have HN := Lib.hid hN
        clear hN
        have r0 := hRF.cell 0
        have r1 := hRF.cell 1
        have r2 := hRF.free 0
        have r3 := hRF.free 1
        have lr := hRF.lt
        simp at r0 r1
        go_wp2_with (first
          | (go_at_call 185; first
              | (refine (HW.out _ h2).mono ?_; rintro e w3 ⟨rfl, rfl⟩)
              | (refine (HW.out _ hP).mono ?_; rintro e w3 ⟨rfl, rfl⟩))
          | (go_at_call 186; refine HN.out.mono ?_; rintro e w2 ⟨rfl, g2⟩
             have h2 := hP.below g2
             have x0 := (hRF.below g2 lr).cell 0
             have x1 := (hRF.below g2 lr).cell 1
             have x2 := (hRF.below g2 lr).free 0
             have x3 := (hRF.below g2 lr).free 1
             have xr := (hRF.below g2 lr).lt
             simp at x0 x1))
        refine end_world (fun W => Blk W w.heap.size [.int .i64 0, .int .i64 0] 221 ∧ Below w.heap.size w W ∧ OwnL RDcl W0.heap.size (fun _ => False) 149 5 W l oa oc) ?_ ?_
        · refine ⟨((hRF.below g2 lr).set 0 _).set 1 _, (((hBw.trans (g2.mono (hBw.size))).setCell (p := ⟨w.heap.size, 0, none⟩) (Nat.le_refl _) _).setCell (p := ⟨w.heap.size, 1, none⟩) (Nat.le_refl _) _), ?_⟩
          refine OwnL.keep (R := RDcl) keepsDcl hO (by have := g2.size; simp [World.setCell]; omega) (fun b hb hb2 _ => ?_)
          have hbr : b ≠ w.heap.size := by omega
          rw [Below.heap_setCell _ _ _ _ hbr, Below.heap_setCell _ _ _ _ hbr]
          exact g2.block b hb2
        rintro W ⟨hW1, hW2, hW3⟩
        have q0 := hW1.cell 0
        have q1 := hW1.cell 1
        simp at q0 q1
        refine bodyPost_ret (v := .tuple #[.slice oa l.length oc, .agg #[.int .i64 0, .int .i64 0]]) (by simp [results, Tryz.results147, go_sem, q0, q1]) rfl ?_
        rw [HR.out]
        exact ⟨hW2, oa, oc, rfl, read_new (w := w) (R := RDcl) (l := l) keepsDcl hW3 (by omega) (by omega)⟩
      · have hk1 : ((p.now toks).kind != 4) = true := by simp [hk]
        have hk2 : ((p.now toks).kind == 4) = false := by simp [hk]
        by_cases h16 : l.length = 16
        · have HG : Hid (declsF toks 17 ⟨0, 0, 0⟩ [] = (l, p.fail toks 3)) := by
            show _ = _
            rw [hH.out, hf, declsF, if_pos he, if_neg hk, if_pos h16]
          have hbad := fail_err toks p 3 (by decide)
          have HR : Hid (res = (((p.fail toks 3).err, (p.fail toks 3).fat), [])) := by
            show _ = _
            rw [HE.out, HG.out, if_neg hbad]
          have Hf : Hid (∀ W, PAt (fun b => S' b ∨ b = 3) (w1.heap.size + 1) a cap toks p W → Calls Tryz.prog 187 #[.pointer (some ⟨w1.heap.size + 1, 0, none⟩), .int .i64 3] W (PPost (fun b => S' b ∨ b = 3) (w1.heap.size + 1) a cap toks W (.tuple #[]) (p.fail toks 3))) := fun W hW => fail_calls 3 hW
          have HW2 : Hid (∀ W, PAt (fun b => S' b ∨ b = 3) (w1.heap.size + 1) a cap toks (p.fail toks 3) W → Calls Tryz.prog 185 #[.pointer (some ⟨w1.heap.size + 1, 0, none⟩)] W fun e w' => e = .returned (.bool false) ∧ W = w') := fun W hW => by
            have := well_calls hW
            rw [beq_eq_false_iff_ne.2 hbad] at this
            exact this
          clear hH he hk HG HE hf
          generalize p.fail toks 3 = p3 at *
          generalize p.now toks = t at *
          have HN := Lib.hid hN
          have hlq : ((l.length : Int) == 16) = true := by rw [h16]; rfl
          clear hN
          have lr := hRF.lt
          go_upto_region 12 with (first
            | (go_at_call 185; first
                | (refine (HW2.out _ h3).mono ?_; rintro e w4 ⟨rfl, rfl⟩)
                | (refine (HW.out _ hP).mono ?_; rintro e w4 ⟨rfl, rfl⟩))
            | (go_at_call 187; refine (Hf.out _ h2).mono ?_; rintro e w3 ⟨rfl, h3, g3⟩
               have h3r := (hRF.below g2 lr).grown g3 (by intro e; injection e with e; omega)
               have b3 := (Frm.but g3 (Nat.le_refl _)).below' (hBw.trans (g2.mono (hBw.size))) (by have := g2.size; have := hBw.size; omega) (by omega))
            | (go_at_call 186; refine HN.out.mono ?_; rintro e w2 ⟨rfl, g2⟩
               have h2 := hP.below g2))
          have HW := HW2
          have e2 := (h3).blk.cell 2
          have e3 := (h3).blk.cell 3
          have r0 := (h3r).cell 0
          have r1 := (h3r).cell 1
          have r2 := (h3r).free 0
          have r3 := (h3r).free 1
          have lr := (h3r).lt
          have lp := (h3).blk.lt
          simp at e2 e3 r0 r1
          go_wp2_with (go_at_call 185; refine HW.out.mono ?_; rintro e w2 ⟨rfl, rfl⟩)
          go_region
          all_goals
            go_wp2_with fail
            refine end_world (fun W => Blk W w.heap.size [.int .i64 (p3).err, .int .i64 (p3).fat] 221 ∧ Below w.heap.size w W) ?_ ?_
            · exact ⟨((h3r).set 0 _).set 1 _, (((b3).drew.setCell (p := ⟨w.heap.size, 0, none⟩) (Nat.le_refl _) _).setCell (p := ⟨w.heap.size, 1, none⟩) (Nat.le_refl _) _)⟩
            rintro W ⟨hW1, hW2⟩
            have q0 := hW1.cell 0
            have q1 := hW1.cell 1
            simp at q0 q1
            refine bodyPost_ret (v := .tuple #[.slice none 0 0, .agg #[.int .i64 (p3).err, .int .i64 (p3).fat]]) (by simp [results, Tryz.results147, go_sem, q0, q1]) rfl ?_
            rw [HR.out]
            exact ⟨hW2, none, 0, rfl, .inl ⟨rfl, rfl, rfl⟩⟩
        · have HG : Hid (declsF toks 17 ⟨0, 0, 0⟩ [] = declsF toks (17 - (l.length + 1)) (declF toks p).2 (l ++ [(declF toks p).1])) := by
            show _ = _
            rw [hH.out, hf, declsF, if_pos he, if_neg hk, if_neg h16, show 17 - (l.length + 1) = f by omega]
          have HD : Hid (∀ W, PAt (fun b => S' b ∨ b = 3) (w1.heap.size + 1) a cap toks p W → Calls Tryz.prog 184 #[.pointer (some ⟨w1.heap.size + 1, 0, none⟩)] W (DclPost (fun b => S' b ∨ b = 3) (w1.heap.size + 1) a cap toks W (declF toks p))) := fun W hW => decl_calls hW
          clear hH he hk HE hf
          generalize declF toks p = r at *
          obtain ⟨x, p5⟩ := r
          generalize p.now toks = t at *
          have HN := Lib.hid hN
          have hlq : ((l.length : Int) == 16) = false := by rw [beq_eq_false_iff_ne]; omega
          clear hN
          obtain ⟨i0, hi, hz0, hz1, hz2⟩ := info_parts info_dcl
          have hgs := hG.2.2.2.1
          go_upto_region 10 with (first
            | (go_at_call 185; refine (HW.out _ hP).mono ?_; rintro e w4 ⟨rfl, rfl⟩)
            | (go_at_call 186; refine HN.out.mono ?_; rintro e w2 ⟨rfl, g2⟩
               have h2 := hP.below g2))
          go_wp2_with fail
          refine (HD.out _ h2).mono ?_
          rintro e w3 ⟨xa, xc, ma, mc, rfl, hx, h3, g3⟩
          have g23 := (But.below (b := w1.heap.size + 1) g2).trans g3
          have hs3 := g23.size
          have hs2 := g2.size
          obtain ⟨xs, SS, k1, k2, k3, k4, k5, k6⟩ := OwnL.keep (R := RDcl) keepsDcl hO hs3 (fun b kb1 kb2 _ => g23.block b kb2 (by intro e; injection e with e; omega))
          have hrl : ∀ b, (Value.slice oa l.length oc).ownBlock = some b → b < wr.heap.size := fun b e => by
            obtain ⟨xs', SS', j1, _⟩ := hO
            exact (j1.lt b e).2
          go_wp2_with (at_builtin; refine wpList_append_own_at _ rfl _ _ 31 rfl W0.heap.size 149 i0 _ 5 80 Tryz.underlying31 hi hz0 hz1 hz2 rfl (by decide) _ _ _ rfl (k1.alloc _) ⟨w3.heap.size, 0, none⟩ 1 1 [.int .i64 x.kind, .string x.name, .slice xa x.fields.length xc, .slice ma x.methods.length mc, .int .i64 x.pos] ?c0 rfl ?c1 ?c2 ?c3 ?c4 ?c5 ?_)
          case c0 => rfl
          case c1 => exact news_newAt rfl [.int .i64 x.kind, .string x.name, .slice xa x.fields.length xc, .slice ma x.methods.length mc, .int .i64 x.pos] _
          case c2 => simp [Value.oneCell']
          case c3 => unfold maxLen; omega
          case c4 => omega
          case c5 => simp; omega
          intro v' w5 hown hg _ hloc
          obtain ⟨a', c', rfl⟩ := own_form hown
          have hrow : ∀ b, (Value.slice oa l.length oc).ownBlock = some b → W0.heap.size ≤ b := fun b e => (k1.lt b e).1
          have gA : Frm W0.heap.size (w1.heap.size + 1) w3 w5 := ((Frm.refl _ _ _).alloc (by omega) _).grown hg (by simp; omega) hrow
          go_wp2_with fail
          refine ⟨⟨l ++ [x], p5, a', c', by rw [List.length_append]; rfl, by simp; omega, by rw [List.length_append]; exact HG, ?_, ?_, ?_⟩, ?_⟩
          · refine PAt.frm (B := W0.heap.size) h3 gA ?_ ?_
            · rintro b (hb | rfl)
              · have := u1 b hb; omega
              · omega
            · rw [hg.block _ (by have := h3.blk.lt; simp; omega) (fun e => by have := hrow _ e.symm; omega), Below.heap_alloc _ _ _ h3.blk.lt]
          · exact OwnL.snoc (R := RDcl) (x := x) (W := w3) (S1 := New w2 w3) keepsDcl RDcl.len k1 k2 k3 k4 k5 k6 hx (fun b hb => hb.2) (fun b hb => ⟨by have := hb.1; omega, fun h => h⟩)
              (fun b hb e => by have := hrl b e; have := hb.1; omega) (fun b hb => hb.elim) rfl (by rw [hzW]; exact hown) hg (by simpa using hloc)
          · exact (hG.trans (Frm.but g23 (by omega))).trans gA
          · simp [lenOf]; omega
    · have HG : Hid (declsF toks 17 ⟨0, 0, 0⟩ [] = (l, p)) := by
        show _ = _
        rw [hH.out, declsF_bad he]
      have HR : Hid (res = ((p.err, p.fat), [])) := by
        show _ = _
        rw [HE.out, HG.out, if_neg he]
      rw [beq_eq_false_iff_ne.2 he] at hw
      have HW := Lib.hid hw
      clear hw hH he HG HE hO hP0
      have e2 := (hP).blk.cell 2
      have e3 := (hP).blk.cell 3
      have r0 := (hRF).cell 0
      have r1 := (hRF).cell 1
      have r2 := (hRF).free 0
      have r3 := (hRF).free 1
      have lr := (hRF).lt
      have lp := (hP).blk.lt
      simp at e2 e3 r0 r1
      go_wp2_with (go_at_call 185; refine HW.out.mono ?_; rintro e w2 ⟨rfl, rfl⟩)
      go_region
      all_goals
        go_wp2_with fail
        refine end_world (fun W => Blk W w.heap.size [.int .i64 (p).err, .int .i64 (p).fat] 221 ∧ Below w.heap.size w W) ?_ ?_
        · exact ⟨((hRF).set 0 _).set 1 _, (((hBw).drew.setCell (p := ⟨w.heap.size, 0, none⟩) (Nat.le_refl _) _).setCell (p := ⟨w.heap.size, 1, none⟩) (Nat.le_refl _) _)⟩
        rintro W ⟨hW1, hW2⟩
        have q0 := hW1.cell 0
        have q1 := hW1.cell 1
        simp at q0 q1
        refine bodyPost_ret (v := .tuple #[.slice none 0 0, .agg #[.int .i64 (p).err, .int .i64 (p).fat]]) (by simp [results, Tryz.results147, go_sem, q0, q1]) rfl ?_
        rw [HR.out]
        exact ⟨hW2, none, 0, rfl, .inl ⟨rfl, rfl, rfl⟩⟩

/-- a schema's text is parsed -/
theorem Parse_calls (s : ByteArray) (w : World) (hs : s.size ≤ 1048576) (hML : MaxL w) : Calls Tryz.prog 147 #[.string s] w (ParsePost s w) := by
  by_cases h0 : (lexS s).1.1 = 0
  · exact Parse_ok s w hs hML h0
  · exact Parse_bad s w hs h0
end Go.Proofs.YtfoihafhpmbaeaaGreatDoor
