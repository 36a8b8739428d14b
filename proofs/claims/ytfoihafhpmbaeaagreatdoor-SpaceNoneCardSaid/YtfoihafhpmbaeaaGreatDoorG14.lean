/- The parser looks, fails, goes on. -/
import Derived.RegionTactic
import Derived.Test.YtfoihafhpmbaeaaGreatDoorG13
namespace Go.Proofs.YtfoihafhpmbaeaaGreatDoor
open Go.RowKit

structure PS where
  at_ : Nat
  err : Int
  fat : Int

theorem cells4 {w : World} {b o : Nat} {c0 c1 c2 c3 : Value} (h : cellsAt w b o [c0, c1, c2, c3]) :
    w.cell? ⟨b, o, none⟩ = some c0 ∧ w.cell? ⟨b, o + 1, none⟩ = some c1 ∧ w.cell? ⟨b, o + 2, none⟩ = some c2 ∧ w.cell? ⟨b, o + 3, none⟩ = some c3 :=
  ⟨h 0 (by simp), h 1 (by simp), h 2 (by simp), h 3 (by simp)⟩

/-- the package variable that strings.Contains reads holds some number -/
def MaxL (w : World) : Prop := ∃ m : Int, w.cell? ⟨3, 0, none⟩ = some (.int .i64 m)
theorem MaxL.keep {w w' : World} (h : MaxL w) (k : w'.heap[(3 : Nat)]? = w.heap[(3 : Nat)]?) : MaxL w' := by
  obtain ⟨m, hm⟩ := h
  exact ⟨m, by rw [← hm]; exact World.cell?_of_block k⟩

/-- the last token, and it alone, is the end -/
def Ends (toks : List Tok) : Prop := ∀ i, (h : i < toks.length) → (i + 1 = toks.length → toks[i].text = ⟨#[]⟩ ∧ toks[i].kind = 4) ∧ (toks[i].kind = 4 → i + 1 = toks.length)

structure PAt (S : Blocks) (bp : Nat) (a : Option Addr) (cap : Nat) (toks : List Tok) (p : PS) (w : World) : Prop where
  blk : Blk w bp [.slice a toks.length cap, .int .i64 p.at_, .int .i64 p.err, .int .i64 p.fat] 317
  rd : RSl 4 RTok S w toks a cap
  und : Under S w
  out : ¬ S bp
  inb : p.at_ < toks.length
  short : toks.length ≤ 100000
  ends : Ends toks
  maxl : MaxL w
  low : S 3

theorem PAt.keep {S : Blocks} {bp : Nat} {a : Option Addr} {cap : Nat} {toks : List Tok} {p p' : PS} {w w' : World} (h : PAt S bp a cap toks p w) (g : But bp w w')
    (hb : Blk w' bp [.slice a toks.length cap, .int .i64 p'.at_, .int .i64 p'.err, .int .i64 p'.fat] 317) (hi : p'.at_ < toks.length) : PAt S bp a cap toks p' w' :=
  ⟨hb, h.rd.keep (g.same h.und h.out) (Sub.refl _) (fun _ _ _ h => h), g.under h.und, h.out, hi, h.short, h.ends, h.maxl.keep (g.same h.und h.out _ h.low), h.low⟩
theorem PAt.below {S : Blocks} {bp : Nat} {a : Option Addr} {cap : Nat} {toks : List Tok} {p : PS} {w w' : World} (h : PAt S bp a cap toks p w) (g : Below w.heap.size w w') : PAt S bp a cap toks p w' :=
  h.keep (But.below g) (h.blk.below g h.blk.lt) h.inb

def PS.now (toks : List Tok) (p : PS) : Tok := toks.getD p.at_ ⟨0, ⟨#[]⟩, 0, 0⟩
theorem now_eq {toks : List Tok} {p : PS} (h : p.at_ < toks.length) : p.now toks = toks[p.at_] := by simp [PS.now, List.getD, h]

def PS.fail (toks : List Tok) (p : PS) (e : Int) : PS := if p.err = 0 then ⟨p.at_, e, (p.now toks).pos⟩ else p
def mayB (toks : List Tok) (p : PS) (s : ByteArray) : Bool := p.err == 0 && (p.now toks).text.toList == s.toList
def PS.step (p : PS) : PS := ⟨p.at_ + 1, p.err, p.fat⟩

theorem now_calls {S : Blocks} {bp : Nat} {a : Option Addr} {cap : Nat} {toks : List Tok} {p : PS} {w : World} (h : PAt S bp a cap toks p w) :
    Calls Tryz.prog 186 #[.pointer (some ⟨bp, 0, none⟩)] w fun e w' => e = .returned (.agg #[.int .i64 (p.now toks).kind, .string (p.now toks).text, .int .i64 (p.now toks).num, .int .i64 (p.now toks).pos]) ∧ Below w.heap.size w w' := by
  obtain ⟨b, off, cs, rfl, hSb, _, hcs, rfl, ht⟩ := RSl.at h.rd h.inb
  have hn := Lib.hid (now_eq h.inb)
  obtain ⟨g0, g1, g2, g3⟩ := cells4 hcs
  have c0 := h.blk.cell 0
  have c1 := h.blk.cell 1
  have hi := h.inb
  have hsh := h.short
  have l1 := h.blk.lt
  have l2 := h.und b hSb
  simp at c0 c1
  generalize toks[p.at_] = t at *
  go_enter Tryz.func186, Tryz.ntmps186
  go_wp2_with fail
  go_region
  go_wp2_with fail
  refine bodyPost_ret (v := .agg #[.int .i64 t.kind, .string t.text, .int .i64 t.num, .int .i64 t.pos]) (by simp [results, Tryz.results186, go_sem]) rfl ⟨by rw [hn.out], ?_⟩
  first | exact ((Below.refl _ _).alloc (Nat.le_refl _) _).drew | exact (((Below.refl _ _).drew).alloc (Nat.le_refl _) _)

theorem well_calls {S : Blocks} {bp : Nat} {a : Option Addr} {cap : Nat} {toks : List Tok} {p : PS} {w : World} (h : PAt S bp a cap toks p w) :
    Calls Tryz.prog 185 #[.pointer (some ⟨bp, 0, none⟩)] w fun e w' => e = .returned (.bool (p.err == 0)) ∧ w = w' := by
  have c2 := h.blk.cell 2
  simp at c2
  go_enter Tryz.func185, Tryz.ntmps185
  go_wp2_with fail
  go_ret
  exact ⟨rfl, rfl⟩

/-- behind a method: what it answers, the parser as it is now, what was there -/
def PPost (S : Blocks) (bp : Nat) (a : Option Addr) (cap : Nat) (toks : List Tok) (w : World) (v : Value) (p' : PS) (e : Ending) (w' : World) : Prop :=
  e = .returned v ∧ PAt S bp a cap toks p' w' ∧ But bp w w'

theorem tok_field1 (a c d : Int) (b : ByteArray) (W : World) : (Instr.field 320 (.agg #[.int .i64 a, .string b, .int .i64 c, .int .i64 d]) 1).run Tryz.prog W = .ok (.string b) W := by kernel_rfl
theorem tok_field3 (a : Int) (b : ByteArray) (c d : Int) (W : World) : (Instr.field 320 (.agg #[.int .i64 a, .string b, .int .i64 c, .int .i64 d]) 3).run Tryz.prog W = .ok (.int .i64 d) W := by kernel_rfl
theorem fail_calls {S : Blocks} {bp : Nat} {a : Option Addr} {cap : Nat} {toks : List Tok} {p : PS} {w : World} (er : Int) (h : PAt S bp a cap toks p w) :
    Calls Tryz.prog 187 #[.pointer (some ⟨bp, 0, none⟩), .int .i64 er] w (PPost S bp a cap toks w (.tuple #[]) (p.fail toks er)) := by
  by_cases h0 : p.err = 0
  · have E : p.fail toks er = ⟨p.at_, er, (p.now toks).pos⟩ := by unfold PS.fail; rw [if_pos h0]
    have hw : Hid (∀ W, PAt S bp a cap toks p W → Calls Tryz.prog 185 #[.pointer (some ⟨bp, 0, none⟩)] W fun e w' => e = .returned (.bool true) ∧ W = w') := fun W hW => by
      have := well_calls hW
      rw [h0] at this
      exact this
    rw [E]
    clear h0 E
    go_enter Tryz.func187, Tryz.ntmps187
    go_wp2_with (go_at_call 185; refine (hw.out _ h).mono ?_; rintro e w' ⟨rfl, rfl⟩)
    refine (now_calls h).mono ?_
    rintro e w2 ⟨rfl, hb2⟩
    have h2 := h.below hb2
    have hB2 := But.below (b := bp) hb2
    have d2 := h2.blk.cell 2
    have d3 := h2.blk.cell 3
    have f2 := h2.blk.free 2
    have f3 := h2.blk.free 3
    simp at d2 d3
    generalize p.now toks = t at *
    have hf := fun W => tok_field3 t.kind t.text t.num t.pos W
    go_wp2_with fail
    go_end0
    refine ⟨rfl, h2.keep ((But.set (But.refl bp w2) 2 _).set 3 _) ((h2.blk.set 2 _).set 3 _) h.inb, (hB2.set 2 _).set 3 _⟩
  · have E : p.fail toks er = p := by unfold PS.fail; rw [if_neg h0]
    have hw : Hid (∀ W, PAt S bp a cap toks p W → Calls Tryz.prog 185 #[.pointer (some ⟨bp, 0, none⟩)] W fun e w' => e = .returned (.bool false) ∧ W = w') := fun W hW => by
      have := well_calls hW
      rw [beq_eq_false_iff_ne.2 h0] at this
      exact this
    rw [E]
    clear h0 E
    go_enter Tryz.func187, Tryz.ntmps187
    go_wp2_with (go_at_call 185; refine (hw.out _ h).mono ?_; rintro e w' ⟨rfl, rfl⟩)
    go_end0
    exact ⟨rfl, h, But.refl _ _⟩

end Go.Proofs.YtfoihafhpmbaeaaGreatDoor

/- The parser takes a word or a sign. -/
namespace Go.Proofs.YtfoihafhpmbaeaaGreatDoor
open Go.RowKit

def PS.may (toks : List Tok) (p : PS) (s : ByteArray) : PS := if mayB toks p s then p.step else p
theorem PAt.next {S : Blocks} {bp : Nat} {a : Option Addr} {cap : Nat} {toks : List Tok} {p : PS} {w : World} (h : PAt S bp a cap toks p w) (hn : (p.now toks).text ≠ ⟨#[]⟩ ∨ (p.now toks).kind ≠ 4) : p.at_ + 1 < toks.length := by
  rw [now_eq h.inb] at hn
  have hi := h.inb
  by_cases e : p.at_ + 1 = toks.length
  · have := (h.ends p.at_ h.inb).1 e
    rcases hn with hn | hn
    · exact absurd this.1 hn
    · exact absurd this.2 hn
  · omega

theorem may_calls {S : Blocks} {bp : Nat} {a : Option Addr} {cap : Nat} {toks : List Tok} {p : PS} {w : World} (s : ByteArray) (hs : s.toList.isEmpty = false) (h : PAt S bp a cap toks p w) :
    Calls Tryz.prog 231 #[.pointer (some ⟨bp, 0, none⟩), .string s] w (PPost S bp a cap toks w (.bool (mayB toks p s)) (p.may toks s)) := by
  have hw := fun W (hW : PAt S bp a cap toks p W) => well_calls hW
  by_cases h0 : p.err = 0
  · by_cases ht : (p.now toks).text.toList = s.toList
    · have hn1 := h.next (.inl (by intro e; rw [e] at ht; rw [← ht] at hs; exact absurd hs (by decide +kernel)))
      have E1 : mayB toks p s = true := by simp [mayB, h0, ht]
      have E2 : p.may toks s = p.step := by unfold PS.may; rw [if_pos E1]
      have hte : ((p.now toks).text.toList == s.toList) = true := by simp [ht]
      have Hw : Hid (∀ W, PAt S bp a cap toks p W → Calls Tryz.prog 185 #[.pointer (some ⟨bp, 0, none⟩)] W fun e w' => e = .returned (.bool true) ∧ W = w') := fun W hW => by
        have := hw W hW
        rw [h0] at this
        exact this
      rw [E1, E2]
      clear h0 E1 E2 hw ht
      go_enter Tryz.func231, Tryz.ntmps231
      go_wp2_with (go_at_call 185; refine (Hw.out _ h).mono ?_; rintro e w' ⟨rfl, rfl⟩)
      refine (now_calls h).mono ?_
      rintro e w2 ⟨rfl, hb2⟩
      have h2 := h.below hb2
      have hB2 := But.below (b := bp) hb2
      have d1 := h2.blk.cell 1
      have f1 := h2.blk.free 1
      have hsh := h.short
      simp at d1
      generalize p.now toks = t at *
      have hf := fun W => tok_field1 t.kind t.num t.pos t.text W
      go_wp2_with fail
      go_ret
      rw [show ((p.at_ : Int) + 1) = ((p.at_ + 1 : Nat) : Int) by omega]
      exact ⟨rfl, h2.keep (But.set (But.refl bp w2) 1 _) (h2.blk.set 1 _) hn1, hB2.set 1 _⟩
    · have E1 : mayB toks p s = false := by simp [mayB, h0, ht]
      have E2 : p.may toks s = p := by unfold PS.may; rw [E1]; rfl
      have hte : ((p.now toks).text.toList == s.toList) = false := by simp [ht]
      have Hw : Hid (∀ W, PAt S bp a cap toks p W → Calls Tryz.prog 185 #[.pointer (some ⟨bp, 0, none⟩)] W fun e w' => e = .returned (.bool true) ∧ W = w') := fun W hW => by
        have := hw W hW
        rw [h0] at this
        exact this
      rw [E1, E2]
      clear h0 E1 E2 hw ht
      go_enter Tryz.func231, Tryz.ntmps231
      go_wp2_with (go_at_call 185; refine (Hw.out _ h).mono ?_; rintro e w' ⟨rfl, rfl⟩)
      refine (now_calls h).mono ?_
      rintro e w2 ⟨rfl, hb2⟩
      have h2 := h.below hb2
      have hB2 := But.below (b := bp) hb2
      generalize p.now toks = t at *
      have hf := fun W => tok_field1 t.kind t.num t.pos t.text W
      go_wp2_with fail
      go_ret
      exact ⟨rfl, h2, hB2⟩
  · have E1 : mayB toks p s = false := by simp [mayB, h0]
    have E2 : p.may toks s = p := by unfold PS.may; rw [E1]; rfl
    have Hw : Hid (∀ W, PAt S bp a cap toks p W → Calls Tryz.prog 185 #[.pointer (some ⟨bp, 0, none⟩)] W fun e w' => e = .returned (.bool false) ∧ W = w') := fun W hW => by
      have := hw W hW
      rw [beq_eq_false_iff_ne.2 h0] at this
      exact this
    rw [E1, E2]
    clear h0 E1 E2 hw
    go_enter Tryz.func231, Tryz.ntmps231
    go_wp2_with (go_at_call 185; refine (Hw.out _ h).mono ?_; rintro e w' ⟨rfl, rfl⟩)
    go_ret
    exact ⟨rfl, h, But.refl _ _⟩

def PS.need (toks : List Tok) (p : PS) (s : ByteArray) : PS := if mayB toks p s then p.step else p.fail toks 5

theorem need_calls {S : Blocks} {bp : Nat} {a : Option Addr} {cap : Nat} {toks : List Tok} {p : PS} {w : World} (s : ByteArray) (hs : s.toList.isEmpty = false) (h : PAt S bp a cap toks p w) :
    Calls Tryz.prog 229 #[.pointer (some ⟨bp, 0, none⟩), .string s] w (PPost S bp a cap toks w (.tuple #[]) (p.need toks s)) := by
  have hm := may_calls s hs h
  cases hb : mayB toks p s
  · have E1 : p.need toks s = p.fail toks 5 := by unfold PS.need; rw [hb]; rfl
    have E2 : p.may toks s = p := by unfold PS.may; rw [hb]; rfl
    rw [hb, E2] at hm
    rw [E1]
    have Hm := Lib.hid hm
    clear hm hb E1 E2 hs
    go_enter Tryz.func229, Tryz.ntmps229
    go_wp2_with (go_at_call 231; refine Hm.out.mono ?_; rintro e w2 ⟨rfl, h2, hB2⟩)
    refine (fail_calls 5 h2).mono ?_
    rintro e w3 ⟨rfl, h3, hB3⟩
    go_wp2_with fail
    go_end0
    exact ⟨rfl, h3, hB2.trans hB3⟩
  · have E1 : p.need toks s = p.step := by unfold PS.need; rw [hb]; rfl
    have E2 : p.may toks s = p.step := by unfold PS.may; rw [hb]; rfl
    rw [hb, E2] at hm
    rw [E1]
    have Hm := Lib.hid hm
    clear hm hb E1 E2 hs
    go_enter Tryz.func229, Tryz.ntmps229
    go_wp2_with (go_at_call 231; refine Hm.out.mono ?_; rintro e w2 ⟨rfl, h2, hB2⟩)
    go_end0
    exact ⟨rfl, h2, hB2⟩
end Go.Proofs.YtfoihafhpmbaeaaGreatDoor

/- Words of the language. -/
namespace Go.Proofs.YtfoihafhpmbaeaaGreatDoor
open Go.RowKit

/-- the words of the language, a blank around each -/
def langWords : List UInt8 := [32, 115, 116, 114, 117, 99, 116, 32, 117, 110, 105, 111, 110, 32, 101, 110, 117, 109, 32, 115, 101, 114, 118, 105, 99, 101, 32, 98, 111, 111, 108, 32, 105, 110, 116, 32, 117, 105, 110, 116, 32, 116, 101, 120, 116, 32, 98, 121, 116, 101, 115, 32, 108, 105, 115, 116, 32, 109, 97, 112, 32, 111, 110, 101, 119, 97, 121, 32]
def wordB (t : ByteArray) : Bool := !t.toList.isEmpty && !Lib.contains t.data.toList [32] && Lib.contains langWords ([32] ++ t.data.toList ++ [32])

theorem contains_any (l sub : List UInt8) (m : Int) (w : World) (hl : l.length < 4294967281) (hm : w.cell? ⟨3, 0, none⟩ = some (.int .i64 m)) (b : Bool) (hb : Lib.contains l sub = b) :
    Calls Tryz.prog 310 #[.string ⟨l.toArray⟩, .string ⟨sub.toArray⟩] w fun e w' => e = .returned (.bool b) ∧ w = w' :=
  (Tryz.strings_Contains ⟨l.toArray⟩ ⟨sub.toArray⟩ m w (by simpa [ByteArray.size] using hl) hm).mono (by rintro e w' ⟨rfl, rfl⟩; exact ⟨by simp only; rw [hb], rfl⟩)

set_option maxRecDepth 100000 in
theorem Word_calls (t : ByteArray) (w : World) (ht : t.size ≤ 1048576) (hm : MaxL w) :
    Calls Tryz.prog 279 #[.string t] w fun e w' => e = .returned (.bool (wordB t)) ∧ w = w' := by
  obtain ⟨m, hm⟩ := hm
  have H1 : Hid (∀ b, Lib.contains t.data.toList [32] = b → Calls Tryz.prog 310 #[.string t, .string ⟨#[32]⟩] w fun e w' => e = .returned (.bool b) ∧ w = w') := fun b hb =>
    contains_any t.data.toList [32] m w (by simp; omega) hm b hb
  have H2 : Hid (∀ b, Lib.contains langWords ([32] ++ t.data.toList ++ [32]) = b → Calls Tryz.prog 310 #[.string ⟨langWords.toArray⟩, .string ⟨([32] ++ t.data.toList ++ [32]).toArray⟩] w fun e w' => e = .returned (.bool b) ∧ w = w') := fun b hb =>
    contains_any langWords ([32] ++ t.data.toList ++ [32]) m w (by decide) hm b hb
  clear hm
  unfold wordB
  by_cases h0 : t.toList.isEmpty = true
  · have h0' : (!t.toList.isEmpty) = false := by simp [h0]
    rw [h0']
    go_enter Tryz.func279, Tryz.ntmps279
    go_wp2_with fail
    go_ret
    exact ⟨by simp, rfl⟩
  · have h0' : t.toList.isEmpty = false := by simpa using h0
    rw [h0']
    cases hb : Lib.contains t.data.toList [32]
    · have K1 := Lib.hid (H1.out _ hb)
      obtain ⟨c, hc⟩ : ∃ c, Lib.contains langWords ([32] ++ t.data.toList ++ [32]) = c := ⟨_, rfl⟩
      rw [hc]
      have K2 := Lib.hid (H2.out _ hc)
      clear hb hc h0
      go_enter Tryz.func279, Tryz.ntmps279
      go_wp2_with fail
      refine K1.out.mono ?_
      rintro e w' ⟨rfl, rfl⟩
      go_wp2_with fail
      have es : ((⟨#[32]⟩ : ByteArray) ++ t ++ (⟨#[32]⟩ : ByteArray)) = ⟨([32] ++ t.data.toList ++ [32]).toArray⟩ := by
        apply ByteArray.ext
        simp
      rw [es]
      refine K2.out.mono ?_
      rintro e w' ⟨rfl, rfl⟩
      go_wp2_with fail
      go_ret
      exact ⟨by simp, rfl⟩
    · have K1 := Lib.hid (H1.out _ hb)
      clear hb h0
      go_enter Tryz.func279, Tryz.ntmps279
      go_wp2_with fail
      refine K1.out.mono ?_
      rintro e w' ⟨rfl, rfl⟩
      go_wp2_with fail
      go_ret
      exact ⟨by simp, rfl⟩

def PS.name (toks : List Tok) (p : PS) : ByteArray × PS :=
  let p1 := if (p.now toks).kind = 1 ∧ wordB (p.now toks).text = false then p else p.fail toks 5
  if p1.err = 0 then ((p.now toks).text, p1.step) else (⟨#[]⟩, p1)

theorem now_size {S : Blocks} {bp : Nat} {a : Option Addr} {cap : Nat} {toks : List Tok} {p : PS} {w : World} (h : PAt S bp a cap toks p w) : (p.now toks).text.size ≤ 1048576 := by
  obtain ⟨b, off, cs, rfl, hSb, _, hcs, rfl, h1, h2, h3, h4⟩ := RSl.at h.rd h.inb
  rw [now_eq h.inb]
  exact h2
theorem fail_at (toks : List Tok) (p : PS) (e : Int) : (p.fail toks e).at_ = p.at_ := by unfold PS.fail; split <;> rfl
theorem fail_err (toks : List Tok) (p : PS) (e : Int) (he : e ≠ 0) : (p.fail toks e).err ≠ 0 := by
  unfold PS.fail
  split
  · exact he
  · assumption

theorem PAt.alloc {S : Blocks} {bp : Nat} {a : Option Addr} {cap : Nat} {toks : List Tok} {p : PS} {w : World} (h : PAt S bp a cap toks p w) (o : Obj) : PAt S bp a cap toks p (w.alloc o) :=
  h.below ((Below.refl _ _).alloc (Nat.le_refl _) o)

theorem name_calls {S : Blocks} {bp : Nat} {a : Option Addr} {cap : Nat} {toks : List Tok} {p : PS} {w : World} (h : PAt S bp a cap toks p w) :
    Calls Tryz.prog 228 #[.pointer (some ⟨bp, 0, none⟩)] w (PPost S bp a cap toks w (.string (p.name toks).1) (p.name toks).2) := by
  have hsz := now_size h
  have hsh := h.short
  have hin := h.inb
  by_cases hk : (p.now toks).kind = 1
  · have hk' : ((p.now toks).kind != 1) = false := by simp [hk]
    have hn1 := h.next (.inr (by rw [hk]; decide))
    cases hw : wordB (p.now toks).text
    · have Hw : Hid (∀ W, MaxL W → Calls Tryz.prog 279 #[.string (p.now toks).text] W fun e w' => e = .returned (.bool false) ∧ W = w') := fun W hW => by
        have := Word_calls (p.now toks).text W hsz hW
        rw [hw] at this
        exact this
      by_cases h0 : p.err = 0
      · have E : p.name toks = ((p.now toks).text, p.step) := by
          simp [PS.name, hk, hw, h0]
        rw [E]
        have Hl : Hid (∀ W, PAt S bp a cap toks (p) W → Calls Tryz.prog 185 #[.pointer (some ⟨bp, 0, none⟩)] W fun e w' => e = .returned (.bool true) ∧ W = w') := fun W hW => by
          have := well_calls hW
          rw [h0] at this
          exact this
        clear E h0 hw hk
        go_enter Tryz.func228, Tryz.ntmps228
        go_wp2_with fail
        refine (now_calls h).mono ?_
        rintro e w1 ⟨rfl, hb1⟩
        have h1 := h.below hb1
        have hB1 := But.below (b := bp) hb1
        generalize p.now toks = t at *
        go_wp2_with fail
        refine (Hw.out _ (h1.alloc _).maxl).mono ?_
        rintro e w' ⟨rfl, rfl⟩
        go_wp2_with fail
        refine (Hl.out _ (h1.alloc _)).mono ?_
        rintro e w' ⟨rfl, rfl⟩
        have d1 := h1.blk.cell 1
        have f1 := h1.blk.free 1
        have l1 := h1.blk.lt
        simp at d1
        go_wp2_with fail
        go_ret
        rw [show ((p.at_ : Int) + 1) = ((p.at_ + 1 : Nat) : Int) by omega]
        exact ⟨rfl, (PAt.keep (p' := p.step) h1 (But.set (But.refl bp w1) 1 _) (h1.blk.set 1 _) hn1).alloc _, (hB1.set 1 _).alloc _⟩
      · have E : p.name toks = (⟨#[]⟩, p) := by
          simp [PS.name, hk, hw, h0]
        rw [E]
        have Hl : Hid (∀ W, PAt S bp a cap toks (p) W → Calls Tryz.prog 185 #[.pointer (some ⟨bp, 0, none⟩)] W fun e w' => e = .returned (.bool false) ∧ W = w') := fun W hW => by
          have := well_calls hW
          rw [beq_eq_false_iff_ne.2 h0] at this
          exact this
        clear E h0 hw hk hn1
        go_enter Tryz.func228, Tryz.ntmps228
        go_wp2_with fail
        refine (now_calls h).mono ?_
        rintro e w1 ⟨rfl, hb1⟩
        have h1 := h.below hb1
        have hB1 := But.below (b := bp) hb1
        generalize p.now toks = t at *
        go_wp2_with fail
        refine (Hw.out _ (h1.alloc _).maxl).mono ?_
        rintro e w' ⟨rfl, rfl⟩
        go_wp2_with fail
        refine (Hl.out _ (h1.alloc _)).mono ?_
        rintro e w' ⟨rfl, rfl⟩
        go_wp2_with fail
        go_ret
        exact ⟨rfl, h1.alloc _, hB1.alloc _⟩
    · have Hw : Hid (∀ W, MaxL W → Calls Tryz.prog 279 #[.string (p.now toks).text] W fun e w' => e = .returned (.bool true) ∧ W = w') := fun W hW => by
        have := Word_calls (p.now toks).text W hsz hW
        rw [hw] at this
        exact this
      have hfe := fail_err toks p 5 (by decide)
      have E : p.name toks = (⟨#[]⟩, p.fail toks 5) := by
        simp [PS.name, hw, hfe]
      rw [E]
      have Hl : Hid (∀ W, PAt S bp a cap toks (p.fail toks 5) W → Calls Tryz.prog 185 #[.pointer (some ⟨bp, 0, none⟩)] W fun e w' => e = .returned (.bool false) ∧ W = w') := fun W hW => by
        have := well_calls hW
        rw [beq_eq_false_iff_ne.2 hfe] at this
        exact this
      have hfl := fun W (hW : PAt S bp a cap toks p W) => fail_calls 5 hW
      generalize p.fail toks 5 = p2 at *
      have Hf := Lib.hid hfl
      clear E hw hk hn1 hfe hfl
      go_enter Tryz.func228, Tryz.ntmps228
      go_wp2_with fail
      refine (now_calls h).mono ?_
      rintro e w1 ⟨rfl, hb1⟩
      have h1 := h.below hb1
      have hB1 := But.below (b := bp) hb1
      generalize p.now toks = t at *
      go_wp2_with fail
      refine (Hw.out _ (h1.alloc _).maxl).mono ?_
      rintro e w' ⟨rfl, rfl⟩
      go_wp2_with fail
      refine (Hf.out _ (h1.alloc _)).mono ?_
      rintro e w3 ⟨rfl, h3, hB3⟩
      go_wp2_with fail
      refine (Hl.out _ h3).mono ?_
      rintro e w' ⟨rfl, rfl⟩
      go_wp2_with fail
      go_ret
      exact ⟨rfl, h3, (hB1.alloc _).trans hB3⟩
  · have hk' : ((p.now toks).kind != 1) = true := by simp [hk]
    have hfe := fail_err toks p 5 (by decide)
    have E : p.name toks = (⟨#[]⟩, p.fail toks 5) := by
      simp [PS.name, hk, hfe]
    rw [E]
    have Hl : Hid (∀ W, PAt S bp a cap toks (p.fail toks 5) W → Calls Tryz.prog 185 #[.pointer (some ⟨bp, 0, none⟩)] W fun e w' => e = .returned (.bool false) ∧ W = w') := fun W hW => by
      have := well_calls hW
      rw [beq_eq_false_iff_ne.2 hfe] at this
      exact this
    have hfl := fun W (hW : PAt S bp a cap toks p W) => fail_calls 5 hW
    generalize p.fail toks 5 = p2 at *
    have Hf := Lib.hid hfl
    clear E hk hfe hfl
    go_enter Tryz.func228, Tryz.ntmps228
    go_wp2_with fail
    refine (now_calls h).mono ?_
    rintro e w1 ⟨rfl, hb1⟩
    have h1 := h.below hb1
    have hB1 := But.below (b := bp) hb1
    generalize p.now toks = t at *
    go_wp2_with fail
    refine (Hf.out _ (h1.alloc _)).mono ?_
    rintro e w3 ⟨rfl, h3, hB3⟩
    go_wp2_with fail
    refine (Hl.out _ h3).mono ?_
    rintro e w' ⟨rfl, rfl⟩
    go_wp2_with fail
    go_ret
    exact ⟨rfl, h3, (hB1.alloc _).trans hB3⟩
end Go.Proofs.YtfoihafhpmbaeaaGreatDoor

/- The parser takes a number; which word is a plain type. -/
namespace Go.Proofs.YtfoihafhpmbaeaaGreatDoor
open Go.RowKit

def PS.number (toks : List Tok) (p : PS) : Int × PS :=
  let p1 := if (p.now toks).kind = 2 then p else p.fail toks 5
  if p1.err = 0 then ((p.now toks).num, p1.step) else (0, p1)

theorem number2_calls {S : Blocks} {bp : Nat} {a : Option Addr} {cap : Nat} {toks : List Tok} {p : PS} {w : World} (h : PAt S bp a cap toks p w) :
    Calls Tryz.prog 227 #[.pointer (some ⟨bp, 0, none⟩)] w (PPost S bp a cap toks w (.int .i64 (p.number toks).1) (p.number toks).2) := by
  have hsh := h.short
  have hin := h.inb
  by_cases hk : (p.now toks).kind = 2
  · have hk' : ((p.now toks).kind != 2) = false := by simp [hk]
    have hn1 := h.next (.inr (by rw [hk]; decide))
    by_cases h0 : p.err = 0
    · have E : p.number toks = ((p.now toks).num, p.step) := by
        simp [PS.number, hk, h0]
      rw [E]
      have Hl : Hid (∀ W, PAt S bp a cap toks (p) W → Calls Tryz.prog 185 #[.pointer (some ⟨bp, 0, none⟩)] W fun e w' => e = .returned (.bool true) ∧ W = w') := fun W hW => by
        have := well_calls hW
        rw [h0] at this
        exact this
      clear E h0 hk
      go_enter Tryz.func227, Tryz.ntmps227
      go_wp2_with fail
      refine (now_calls h).mono ?_
      rintro e w1 ⟨rfl, hb1⟩
      have h1 := h.below hb1
      have hB1 := But.below (b := bp) hb1
      generalize p.now toks = t at *
      go_wp2_with fail
      refine (Hl.out _ (h1.alloc _)).mono ?_
      rintro e w' ⟨rfl, rfl⟩
      have d1 := h1.blk.cell 1
      have f1 := h1.blk.free 1
      have l1 := h1.blk.lt
      simp at d1
      go_wp2_with fail
      go_ret
      rw [show ((p.at_ : Int) + 1) = ((p.at_ + 1 : Nat) : Int) by omega]
      exact ⟨rfl, (PAt.keep (p' := p.step) h1 (But.set (But.refl bp w1) 1 _) (h1.blk.set 1 _) hn1).alloc _, (hB1.set 1 _).alloc _⟩
    · have E : p.number toks = (0, p) := by
        simp [PS.number, hk, h0]
      rw [E]
      have Hl : Hid (∀ W, PAt S bp a cap toks (p) W → Calls Tryz.prog 185 #[.pointer (some ⟨bp, 0, none⟩)] W fun e w' => e = .returned (.bool false) ∧ W = w') := fun W hW => by
        have := well_calls hW
        rw [beq_eq_false_iff_ne.2 h0] at this
        exact this
      clear E h0 hk hn1
      go_enter Tryz.func227, Tryz.ntmps227
      go_wp2_with fail
      refine (now_calls h).mono ?_
      rintro e w1 ⟨rfl, hb1⟩
      have h1 := h.below hb1
      have hB1 := But.below (b := bp) hb1
      generalize p.now toks = t at *
      go_wp2_with fail
      refine (Hl.out _ (h1.alloc _)).mono ?_
      rintro e w' ⟨rfl, rfl⟩
      go_wp2_with fail
      go_ret
      exact ⟨rfl, h1.alloc _, hB1.alloc _⟩
  · have hk' : ((p.now toks).kind != 2) = true := by simp [hk]
    have hfe := fail_err toks p 5 (by decide)
    have E : p.number toks = (0, p.fail toks 5) := by
      simp [PS.number, hk, hfe]
    rw [E]
    have Hl : Hid (∀ W, PAt S bp a cap toks (p.fail toks 5) W → Calls Tryz.prog 185 #[.pointer (some ⟨bp, 0, none⟩)] W fun e w' => e = .returned (.bool false) ∧ W = w') := fun W hW => by
      have := well_calls hW
      rw [beq_eq_false_iff_ne.2 hfe] at this
      exact this
    have hfl := fun W (hW : PAt S bp a cap toks p W) => fail_calls 5 hW
    generalize p.fail toks 5 = p2 at *
    have Hf := Lib.hid hfl
    clear E hk hfe hfl
    go_enter Tryz.func227, Tryz.ntmps227
    go_wp2_with fail
    refine (now_calls h).mono ?_
    rintro e w1 ⟨rfl, hb1⟩
    have h1 := h.below hb1
    have hB1 := But.below (b := bp) hb1
    generalize p.now toks = t at *
    go_wp2_with fail
    refine (Hf.out _ (h1.alloc _)).mono ?_
    rintro e w3 ⟨rfl, h3, hB3⟩
    go_wp2_with fail
    refine (Hl.out _ h3).mono ?_
    rintro e w' ⟨rfl, rfl⟩
    go_wp2_with fail
    go_ret
    exact ⟨rfl, h3, (hB1.alloc _).trans hB3⟩

def plainK (t : ByteArray) : Int :=
  if t.toList = [98, 111, 111, 108] then 1 else if t.toList = [105, 110, 116] then 2 else if t.toList = [117, 105, 110, 116] then 3 else if t.toList = [116, 101, 120, 116] then 4 else if t.toList = [98, 121, 116, 101, 115] then 5 else 0

theorem plain_calls (t : ByteArray) (w : World) : Calls Tryz.prog 311 #[.string t] w fun e w' => e = .returned (.int .i64 (plainK t)) ∧ w = w' := by
  have key : ∀ k, plainK t = k → Calls Tryz.prog 311 #[.string t] w fun e w' => e = .returned (.int .i64 k) ∧ w = w' := by
    intro k hk
    unfold plainK at hk
    by_cases h1 : t.toList = [98, 111, 111, 108]
    · rw [if_pos h1] at hk
      subst hk
      have t1 : (t.toList == [98, 111, 111, 108]) = true := by simp [h1]
      clear h1
      go_enter Tryz.func311, Tryz.ntmps311
      go_wp2_with fail
      go_ret
      exact ⟨rfl, rfl⟩
    rw [if_neg h1] at hk
    have t1 : (t.toList == [98, 111, 111, 108]) = false := by simp [h1]
    by_cases h2 : t.toList = [105, 110, 116]
    · rw [if_pos h2] at hk
      subst hk
      have t2 : (t.toList == [105, 110, 116]) = true := by simp [h2]
      clear h1 h2
      go_enter Tryz.func311, Tryz.ntmps311
      go_wp2_with fail
      go_ret
      exact ⟨rfl, rfl⟩
    rw [if_neg h2] at hk
    have t2 : (t.toList == [105, 110, 116]) = false := by simp [h2]
    by_cases h3 : t.toList = [117, 105, 110, 116]
    · rw [if_pos h3] at hk
      subst hk
      have t3 : (t.toList == [117, 105, 110, 116]) = true := by simp [h3]
      clear h1 h2 h3
      go_enter Tryz.func311, Tryz.ntmps311
      go_wp2_with fail
      go_ret
      exact ⟨rfl, rfl⟩
    rw [if_neg h3] at hk
    have t3 : (t.toList == [117, 105, 110, 116]) = false := by simp [h3]
    by_cases h4 : t.toList = [116, 101, 120, 116]
    · rw [if_pos h4] at hk
      subst hk
      have t4 : (t.toList == [116, 101, 120, 116]) = true := by simp [h4]
      clear h1 h2 h3 h4
      go_enter Tryz.func311, Tryz.ntmps311
      go_wp2_with fail
      go_ret
      exact ⟨rfl, rfl⟩
    rw [if_neg h4] at hk
    have t4 : (t.toList == [116, 101, 120, 116]) = false := by simp [h4]
    by_cases h5 : t.toList = [98, 121, 116, 101, 115]
    · rw [if_pos h5] at hk
      subst hk
      have t5 : (t.toList == [98, 121, 116, 101, 115]) = true := by simp [h5]
      clear h1 h2 h3 h4 h5
      go_enter Tryz.func311, Tryz.ntmps311
      go_wp2_with fail
      go_ret
      exact ⟨rfl, rfl⟩
    rw [if_neg h5] at hk
    have t5 : (t.toList == [98, 121, 116, 101, 115]) = false := by simp [h5]
    subst hk
    clear h1 h2 h3 h4 h5
    go_enter Tryz.func311, Tryz.ntmps311
    go_wp2_with fail
    go_ret
    exact ⟨rfl, rfl⟩
  exact key _ rfl
theorem plainK_text {t : ByteArray} (h : 0 < plainK t) : t ≠ ⟨#[]⟩ := by
  intro e
  rw [e] at h
  exact absurd h (by decide +kernel)
theorem plainK_range (t : ByteArray) : 0 ≤ plainK t ∧ plainK t ≤ 5 := by
  unfold plainK
  repeat' split
  all_goals omega
end Go.Proofs.YtfoihafhpmbaeaaGreatDoor

/- The parser takes a type. -/
namespace Go.Proofs.YtfoihafhpmbaeaaGreatDoor
open Go.RowKit

def noTy : Ty := .mk 0 ⟨#[]⟩ []
def baseG (toks : List Tok) (rec_ : PS → Ty × PS) (p : PS) : Ty × PS :=
  if 0 < plainK (p.now toks).text then (.mk (plainK (p.now toks).text) ⟨#[]⟩ [], p.step)
  else if mayB toks p ⟨#[108, 105, 115, 116]⟩ then
    let r := rec_ (p.step.need toks ⟨#[60]⟩)
    (.mk 7 ⟨#[]⟩ [r.1], r.2.need toks ⟨#[62]⟩)
  else if mayB toks p ⟨#[109, 97, 112]⟩ then
    let k := rec_ (p.step.need toks ⟨#[60]⟩)
    let v := rec_ (k.2.need toks ⟨#[44]⟩)
    (.mk 8 ⟨#[]⟩ [k.1, v.1], v.2.need toks ⟨#[62]⟩)
  else (.mk 6 (p.name toks).1 [], (p.name toks).2)
def typF (toks : List Tok) : Nat → Nat → PS → Ty × PS
  | 0, _, p => (noTy, p)
  | f + 1, d, p =>
    let p1 := if 8 < d then p.fail toks 10 else p
    if p1.err = 0 then
      let r := baseG toks (typF toks f (d + 1)) p1
      if mayB toks r.2 ⟨#[63]⟩ then (.mk 9 ⟨#[]⟩ [r.1], r.2.step) else r
    else (noTy, p1)

def TyPost (S : Blocks) (bp : Nat) (a : Option Addr) (cap : Nat) (toks : List Tok) (w : World) (r : Ty × PS) (e : Ending) (w' : World) : Prop :=
  ∃ oa oc, e = .returned (.agg #[.int .i64 r.1.kind, .string r.1.name, .slice oa r.1.of.length oc]) ∧ RTy (New w w') w' r.1 [.int .i64 r.1.kind, .string r.1.name, .slice oa r.1.of.length oc] ∧
    PAt S bp a cap toks r.2 w' ∧ But bp w w'

theorem own1 {α : Type} {R : α → List Value → Prop} {S : Blocks} {w : World} {b sz : Nat} {T : TypeId} {cs : List Value} {x : α} (hb : Blk w b cs T) (hS : S b) (hl : cs.length = sz) (hx : R x cs) : RSl sz R S w [x] (some ⟨b, 0, none⟩) 1 := by
  refine .inr ⟨b, 0, rfl, by simp, by decide, by simp, hS, fun i hi => ?_⟩
  obtain rfl : i = 0 := by simpa using hi
  refine ⟨cs, hl, fun j hj => ?_, hx⟩
  rw [hb.cell]
  simp [hj]

theorem New.sub {w w1 w2 : World} (h : w1.heap.size ≤ w2.heap.size) : Sub (New w w1) (New w w2) := fun _ k => ⟨k.1, Nat.lt_of_lt_of_le k.2 h⟩
theorem New.sub' {w w1 w2 : World} (h : w.heap.size ≤ w1.heap.size) : Sub (New w1 w2) (New w w2) := fun _ k => ⟨Nat.le_trans h k.1, k.2⟩
theorem New.both {w0 w1 w2 w3 : World} (h : w0.heap.size ≤ w1.heap.size) (k : w2.heap.size ≤ w3.heap.size) : Sub (New w1 w2) (New w0 w3) := fun _ x => ⟨Nat.le_trans h x.1, Nat.lt_of_lt_of_le x.2 k⟩

theorem _root_.Go.RowKit.Below.blkc {w wr : World} {cs : List Value} {T : TypeId} (h : Below (w.alloc (.cells cs.toArray T)).heap.size (w.alloc (.cells cs.toArray T)) wr) : Blk wr w.heap.size cs T :=
  (Blk.new w cs T).keep (h.block _ (by simp))

theorem PAt.own {S : Blocks} {bp r : Nat} {a : Option Addr} {cap : Nat} {toks : List Tok} {p : PS} {w w1 : World} (h : PAt S bp a cap toks p w1) (hS : Under S w) (hbp : bp < w.heap.size) (hr : w.heap.size ≤ r) (i : Nat) (v : Value) :
    PAt S bp a cap toks p (w1.setCell ⟨r, i, none⟩ v) := by
  have hh : ∀ b, b < w.heap.size → (w1.setCell ⟨r, i, none⟩ v).heap[b]? = w1.heap[b]? := fun b hb => Below.heap_setCell _ _ _ _ (by show b ≠ r; omega)
  refine ⟨h.blk.keep (hh bp hbp), h.rd.keep (fun b hb => hh b (hS b hb)) (Sub.refl _) (fun _ _ _ h => h), fun b hb => ?_, h.out, h.inb, h.short, h.ends, h.maxl.keep (hh _ (hS _ h.low)), h.low⟩
  have := h.und b hb
  simpa [World.setCell] using this
theorem But.own {b r : Nat} {w w1 : World} (h : But b w w1) (hr : w.heap.size ≤ r) (i : Nat) (v : Value) : But b w (w1.setCell ⟨r, i, none⟩ v) :=
  ⟨h.os, h.tape, h.output, by simpa [World.setCell] using h.size, fun k hk hn => (Below.heap_setCell _ _ _ _ (by show k ≠ r; omega)).trans (h.block k hk hn)⟩

theorem Blk.newAt {w : World} {n : Nat} (h : n = w.heap.size) (cs : List Value) (T : TypeId) : Blk (w.alloc (.cells cs.toArray T)) n cs T := h ▸ Blk.new w cs T
/-- the end of a body: all that is needed of the world is said first -/
theorem end_world {P : Program} {f : Func} {R : Ending → World → Prop} {x : Exit} {a : Act} {W : World} (I : World → Prop) (hI : I W) (h : ∀ W', I W' → bodyPost P f R x a W') : bodyPost P f R x a W := h W hI

theorem TyPost.mk {S : Blocks} {bp : Nat} {a : Option Addr} {cap : Nat} {toks : List Tok} {w w' : World} {ty : Ty} {p : PS} {oa : Option Addr} {oc : Nat} {e : Ending} (he : e = .returned (.agg #[.int .i64 ty.kind, .string ty.name, .slice oa ty.of.length oc]))
    (hk : i64ok ty.kind) (hn : ty.name.size ≤ 2147483647) (ho : RSl 3 (RTy (New w w') w') (New w w') w' ty.of oa oc) (hP : PAt S bp a cap toks p w') (hB : But bp w w') : TyPost S bp a cap toks w (ty, p) e w' :=
  ⟨oa, oc, he, RTy.intro hk hn ho, hP, hB⟩

theorem Same.own3 {S : Blocks} {w w5 : World} (h : Same S w w5) (r : Nat) (hr : ∀ b, S b → b ≠ r ∧ b < w5.heap.size) (x y z : Value) (o : Obj) :
    Same S w ((((w5.setCell ⟨r, 0, none⟩ x).setCell ⟨r, 1, none⟩ y).setCell ⟨r, 2, none⟩ z).alloc o) := by
  intro b hb
  obtain ⟨hn, hl⟩ := hr b hb
  rw [Below.heap_alloc _ _ _ (by simpa [World.setCell] using hl), Below.heap_setCell _ _ _ _ hn, Below.heap_setCell _ _ _ _ hn, Below.heap_setCell _ _ _ _ hn]
  exact h b hb
theorem RTy.same {S S' : Blocks} {w w' : World} {t : Ty} {cs : List Value} (h : RTy S w t cs) (k : Same S w w') (s : Sub S S') : RTy S' w' t cs := h.keep k s

theorem i64ok6 : i64ok 6 := by unfold i64ok; omega
theorem i64ok7 : i64ok 7 := by unfold i64ok; omega
theorem i64ok8 : i64ok 8 := by unfold i64ok; omega
theorem i64ok9 : i64ok 9 := by unfold i64ok; omega
theorem own2 {α : Type} {R : α → List Value → Prop} {S : Blocks} {w : World} {b sz : Nat} {T : TypeId} {cs ds : List Value} {x y : α} (hb : Blk w b (cs ++ ds) T) (hS : S b) (hl : cs.length = sz) (hm : ds.length = sz) (hx : R x cs) (hy : R y ds) :
    RSl sz R S w [x, y] (some ⟨b, 0, none⟩) 2 := by
  refine .inr ⟨b, 0, rfl, by simp, by decide, by simp, hS, fun i hi => ?_⟩
  have hi2 : i = 0 ∨ i = 1 := by simp at hi; omega
  rcases hi2 with rfl | rfl
  · refine ⟨cs, hl, fun j hj => ?_, hx⟩
    rw [hb.cell]
    simp [List.getElem?_append_left, hj]
  · refine ⟨ds, hm, fun j hj => ?_, hy⟩
    rw [hb.cell]
    simp [hl, hj]

theorem base_calls {S : Blocks} {bp : Nat} {a : Option Addr} {cap : Nat} {toks : List Tok} (d : Nat) (hd : d ≤ 100) (rec_ : PS → Ty × PS)
    (hrec : ∀ p w, PAt S bp a cap toks p w → Calls Tryz.prog 230 #[.pointer (some ⟨bp, 0, none⟩), .int .i64 ((d + 1 : Nat) : Int)] w (TyPost S bp a cap toks w (rec_ p)))
    {p : PS} {w : World} (h : PAt S bp a cap toks p w) :
    Calls Tryz.prog 280 #[.pointer (some ⟨bp, 0, none⟩), .int .i64 d] w (TyPost S bp a cap toks w (baseG toks rec_ p)) := by
  have hsh := h.short
  have hin := h.inb
  have hsz := now_size h
  have hlt := h.blk.lt
  have Hrec := Lib.hid hrec
  clear hrec
  have hp := fun W => plain_calls (p.now toks).text W
  by_cases hk : 0 < plainK (p.now toks).text
  · have E : baseG toks rec_ p = (.mk (plainK (p.now toks).text) ⟨#[]⟩ [], p.step) := by unfold baseG; rw [if_pos hk]
    have hn1 := h.next (.inl (plainK_text hk))
    have hkr := plainK_range (p.now toks).text
    rw [E]
    clear E
    generalize plainK (p.now toks).text = k at *
    have Hp := Lib.hid hp
    clear hp
    go_enter Tryz.func280, Tryz.ntmps280
    go_wp2_with fail
    refine (now_calls (h.alloc _)).mono ?_
    rintro e w1 ⟨rfl, hb1⟩
    have hB1 := hb1.popc
    have h1 := h.below hB1
    generalize p.now toks = t at *
    go_wp2_with fail
    refine (Hp.out _).mono ?_
    rintro e w' ⟨rfl, rfl⟩
    have hr : Blk w1 w.heap.size [.int .i64 0, .string ⟨#[]⟩, .slice none 0 0] 206 := hb1.blkc
    have hne : w.heap.size ≠ bp := by omega
    have l1 := h1.blk.lt
    have l2 := hr.lt
    have r0 := hr.cell 0
    have r1 := hr.cell 1
    have r2 := hr.cell 2
    have s0 := hr.free 0
    have s1 := hr.free 1
    have s2 := hr.free 2
    have d1 := h1.blk.cell 1
    have f1 := h1.blk.free 1
    simp at d1 r0 r1 r2
    go_wp2_with fail
    rw [show ((p.at_ : Int) + 1) = ((p.at_ + 1 : Nat) : Int) by omega]
    have hU : Under S w := h.und
    have hbw := h.blk.lt
    refine end_world (fun W => Blk W w.heap.size [.int .i64 k, .string ⟨#[]⟩, .slice none 0 0] 206 ∧ PAt S bp a cap toks p.step W ∧ But bp w W) ?_ ?_
    · have hP := PAt.keep (p' := p.step) h1 (But.set (But.refl bp w1) 1 _) (h1.blk.set 1 _) hn1
      have hB := (But.below (b := bp) hB1).set 1 (.int .i64 ((p.at_ + 1 : Nat) : Int))
      have hR : Blk (w1.setCell ⟨bp, 1, none⟩ (.int .i64 ((p.at_ + 1 : Nat) : Int))) w.heap.size [.int .i64 0, .string ⟨#[]⟩, .slice none 0 0] 206 := hr.keep (Below.heap_setCell _ _ _ _ hne)
      exact ⟨(((hR.set 0 _).set 1 _).set 2 _).alloc _, (((hP.own hU hbw (Nat.le_refl _) 0 _).own hU hbw (Nat.le_refl _) 1 _).own hU hbw (Nat.le_refl _) 2 _).alloc _, (((hB.own (Nat.le_refl _) 0 _).own (Nat.le_refl _) 1 _).own (Nat.le_refl _) 2 _).alloc _⟩
    rintro W ⟨hR, hP, hB⟩
    have q0 := hR.cell 0
    have q1 := hR.cell 1
    have q2 := hR.cell 2
    simp at q0 q1 q2
    refine bodyPost_ret (v := .agg #[.int .i64 k, .string ⟨#[]⟩, .slice none 0 0]) (by simp [results, Tryz.results280, go_sem, q0, q1, q2]) rfl ?_
    exact TyPost.mk rfl ⟨by show -_ ≤ k; omega, by show k ≤ _; omega⟩ (by show (⟨#[]⟩ : ByteArray).size ≤ _; decide) (.inl ⟨rfl, rfl, rfl⟩) hP hB
  have hk0 : plainK (p.now toks).text = 0 := by have := plainK_range (p.now toks).text; omega
  have hp0 : ∀ W : World, Calls Tryz.prog 311 #[.string (p.now toks).text] W fun e w' => e = .returned (.int .i64 0) ∧ W = w' := fun W => by
    have := hp W
    rw [hk0] at this
    exact this
  have Hp := Lib.hid hp0
  have hU : Under S w := h.und
  have hne : w.heap.size ≠ bp := by omega
  have hm1 := fun W (hW : PAt S bp a cap toks p W) => may_calls ⟨#[108, 105, 115, 116]⟩ (by decide +kernel) hW
  have hm2 := fun W (hW : PAt S bp a cap toks p W) => may_calls ⟨#[109, 97, 112]⟩ (by decide +kernel) hW
  have hneed := fun (q : PS) (W : World) (hW : PAt S bp a cap toks q W) (s : ByteArray) (hs : s.toList.isEmpty = false) => need_calls s hs hW
  have Hneed := Lib.hid hneed
  clear hneed
  cases hb1 : mayB toks p ⟨#[108, 105, 115, 116]⟩
  · have e1 : p.may toks ⟨#[108, 105, 115, 116]⟩ = p := by unfold PS.may; rw [hb1]; rfl
    have Hm := Lib.hid (fun W hW => by have := hm1 W hW; rw [hb1, e1] at this; exact this : ∀ W, PAt S bp a cap toks p W → Calls Tryz.prog 231 #[.pointer (some ⟨bp, 0, none⟩), .string ⟨#[108, 105, 115, 116]⟩] W (PPost S bp a cap toks W (.bool false) p))
    clear e1 hm1
    cases hb2 : mayB toks p ⟨#[109, 97, 112]⟩
    · have E : baseG toks rec_ p = (.mk 6 (p.name toks).1 [], (p.name toks).2) := by
        unfold baseG; rw [if_neg hk, hb1, hb2]; rfl
      have e1 : p.may toks ⟨#[109, 97, 112]⟩ = p := by unfold PS.may; rw [hb2]; rfl
      have Hm2 := Lib.hid (fun W hW => by have := hm2 W hW; rw [hb2, e1] at this; exact this : ∀ W, PAt S bp a cap toks p W → Calls Tryz.prog 231 #[.pointer (some ⟨bp, 0, none⟩), .string ⟨#[109, 97, 112]⟩] W (PPost S bp a cap toks W (.bool false) p))
      have hnm := fun W (hW : PAt S bp a cap toks p W) => name_calls hW
      have hns : (p.name toks).1.size ≤ 2147483647 := by
        unfold PS.name
        simp only
        split
        all_goals (split <;> first | (show (p.now toks).text.size ≤ _; omega) | (show (⟨#[]⟩ : ByteArray).size ≤ _; decide))
      rw [E]
      generalize p.name toks = r at *
      have Hnm := Lib.hid hnm
      clear E e1 hb1 hb2 hm2 hp hp0 hk0 hk hnm
      go_enter Tryz.func280, Tryz.ntmps280
      go_wp2_with fail
      refine (now_calls (h.alloc _)).mono ?_
      rintro e w1 ⟨rfl, hb1⟩
      have hB1 := hb1.popc
      have h1 := h.below hB1
      generalize p.now toks = t at *
      have hr : Blk w1 w.heap.size [.int .i64 0, .string ⟨#[]⟩, .slice none 0 0] 206 := hb1.blkc
      clear hb1
      go_wp2_with fail
      refine (Hp.out _).mono ?_
      rintro e w' ⟨rfl, rfl⟩
      go_wp2_with fail
      refine (Hm.out _ (h1.alloc _)).mono ?_
      rintro e w2 ⟨rfl, h2, hB2⟩
      have B2 := (But.below (b := bp) hB1).trans ((But.alloc (But.refl _ _) _).trans hB2)
      have R2 : Blk w2 w.heap.size [.int .i64 0, .string ⟨#[]⟩, .slice none 0 0] 206 := (hr.alloc _).grown hB2 (by simp; omega)
      go_wp2_with fail
      refine (Hm2.out _ h2).mono ?_
      rintro e w3 ⟨rfl, h3, hB3⟩
      have R3 := R2.grown hB3 (by simp; omega)
      go_wp2_with fail
      refine (Hnm.out _ h3).mono ?_
      rintro e w4 ⟨rfl, h4, hB4⟩
      have R4 := R3.grown hB4 (by simp; omega)
      have B4 := (B2.trans hB3).trans hB4
      have rl := R4.lt
      have r0 := R4.cell 0
      have r1 := R4.cell 1
      have r2 := R4.cell 2
      have s0 := R4.free 0
      have s1 := R4.free 1
      have s2 := R4.free 2
      simp at r0 r1 r2
      go_wp2_with fail
      refine end_world (fun W => Blk W w.heap.size [.int .i64 6, .string r.1, .slice none 0 0] 206 ∧ PAt S bp a cap toks r.2 W ∧ But bp w W) ?_ ?_
      · exact ⟨((R4.set 0 _).set 1 _).set 2 _, ((h4.own hU hlt (Nat.le_refl _) 0 _).own hU hlt (Nat.le_refl _) 1 _).own hU hlt (Nat.le_refl _) 2 _, ((B4.own (Nat.le_refl _) 0 _).own (Nat.le_refl _) 1 _).own (Nat.le_refl _) 2 _⟩
      rintro W ⟨hR, hP, hB⟩
      clear R4 rl r0 r1 r2 s0 s1 s2
      have q0 := hR.cell 0
      have q1 := hR.cell 1
      have q2 := hR.cell 2
      simp at q0 q1 q2
      refine bodyPost_ret (v := .agg #[.int .i64 6, .string r.1, .slice none 0 0]) (by simp [results, Tryz.results280, go_sem, q0, q1, q2]) rfl ?_
      exact TyPost.mk rfl i64ok6 hns (.inl ⟨rfl, rfl, rfl⟩) hP hB
    · have E : baseG toks rec_ p = (.mk 8 ⟨#[]⟩ [(rec_ (p.step.need toks ⟨#[60]⟩)).1, (rec_ ((rec_ (p.step.need toks ⟨#[60]⟩)).2.need toks ⟨#[44]⟩)).1], (rec_ ((rec_ (p.step.need toks ⟨#[60]⟩)).2.need toks ⟨#[44]⟩)).2.need toks ⟨#[62]⟩) := by
        unfold baseG; rw [if_neg hk, hb1, hb2]; rfl
      have e1 : p.may toks ⟨#[109, 97, 112]⟩ = p.step := by unfold PS.may; rw [hb2]; rfl
      have Hm2 := Lib.hid (fun W hW => by have := hm2 W hW; rw [hb2, e1] at this; exact this : ∀ W, PAt S bp a cap toks p W → Calls Tryz.prog 231 #[.pointer (some ⟨bp, 0, none⟩), .string ⟨#[109, 97, 112]⟩] W (PPost S bp a cap toks W (.bool true) p.step))
      rw [E]
      clear E e1 hb1 hb2 hm2 hp hp0 hk0 hk
      go_enter Tryz.func280, Tryz.ntmps280
      go_wp2_with fail
      refine (now_calls (h.alloc _)).mono ?_
      rintro e w1 ⟨rfl, hb1⟩
      have hB1 := hb1.popc
      have h1 := h.below hB1
      generalize p.now toks = t at *
      have hr : Blk w1 w.heap.size [.int .i64 0, .string ⟨#[]⟩, .slice none 0 0] 206 := hb1.blkc
      clear hb1
      go_wp2_with fail
      refine (Hp.out _).mono ?_
      rintro e w' ⟨rfl, rfl⟩
      go_wp2_with fail
      refine (Hm.out _ (h1.alloc _)).mono ?_
      rintro e w2 ⟨rfl, h2, hB2⟩
      have B2 := (But.below (b := bp) hB1).trans ((But.alloc (But.refl _ _) _).trans hB2)
      have R2 : Blk w2 w.heap.size [.int .i64 0, .string ⟨#[]⟩, .slice none 0 0] 206 := (hr.alloc _).grown hB2 (by simp; omega)
      go_wp2_with fail
      refine (Hm2.out _ h2).mono ?_
      rintro e w3 ⟨rfl, h3, hB3⟩
      have R3 := R2.grown hB3 (by simp; omega)
      go_wp2_with fail
      refine (Hneed.out _ _ h3 ⟨#[60]⟩ (by decide +kernel)).mono ?_
      rintro e w4 ⟨rfl, h4, hB4⟩
      have R4 := R3.grown hB4 (by simp; omega)
      go_wp2_with fail
      rw [show ((d : Int) + 1) = ((d + 1 : Nat) : Int) by omega]
      refine (Hrec.out _ _ h4).mono ?_
      rintro e w5 ⟨oa, oc, rfl, hty, h5, hB5⟩
      have R5 := R4.grown hB5 (by simp; omega)
      generalize rec_ (p.step.need toks ⟨#[60]⟩) = r at *
      go_wp2_with fail
      refine (Hneed.out _ _ (h5.alloc _) ⟨#[44]⟩ (by decide +kernel)).mono ?_
      rintro e w6 ⟨rfl, h6, hB6⟩
      have R6 := (R5.alloc (.cells #[.int .i64 r.1.kind, .string r.1.name, .slice oa r.1.of.length oc] 206)).grown hB6 (by simp; omega)
      have l5 : bp < w5.heap.size := h5.blk.lt
      have X6 : Blk w6 w5.heap.size [.int .i64 r.1.kind, .string r.1.name, .slice oa r.1.of.length oc] 206 := (Blk.new w5 [.int .i64 r.1.kind, .string r.1.name, .slice oa r.1.of.length oc] 206).grown hB6 (by simp; omega)
      have z4 := R4.lt
      have z5 : w4.heap.size ≤ w5.heap.size := hB5.size
      have z6 : w5.heap.size < w6.heap.size := X6.lt
      have k1 : Same (New w4 w5) w5 w6 := (Same.alloc (Under.new w4 w5) _).trans (hB6.same ((Under.new w4 w5).alloc _) (by intro hb; have := hb.1; omega))
      go_wp2_with fail
      rw [show ((d : Int) + 1) = ((d + 1 : Nat) : Int) by omega]
      refine (Hrec.out _ _ h6).mono ?_
      rintro e w7 ⟨oa2, oc2, rfl, hty2, h7, hB7⟩
      have R7 := R6.grown hB7 (by simp; omega)
      have X7 := X6.grown hB7 (by simp; omega)
      generalize rec_ (r.2.need toks ⟨#[44]⟩) = rv at *
      go_wp2_with fail
      refine (Hneed.out _ _ (h7.alloc _) ⟨#[62]⟩ (by decide +kernel)).mono ?_
      rintro e w8 ⟨rfl, h8, hB8⟩
      have R8 := (R7.alloc (.cells #[.int .i64 rv.1.kind, .string rv.1.name, .slice oa2 rv.1.of.length oc2] 206)).grown hB8 (by simp; omega)
      have l7 : bp < w7.heap.size := h7.blk.lt
      have X8 := (X7.alloc (.cells #[.int .i64 rv.1.kind, .string rv.1.name, .slice oa2 rv.1.of.length oc2] 206)).grown hB8 (by simp; omega)
      have Y8 : Blk w8 w7.heap.size [.int .i64 rv.1.kind, .string rv.1.name, .slice oa2 rv.1.of.length oc2] 206 := (Blk.new w7 [.int .i64 rv.1.kind, .string rv.1.name, .slice oa2 rv.1.of.length oc2] 206).grown hB8 (by simp; omega)
      have z7 : w6.heap.size ≤ w7.heap.size := hB7.size
      have z8 : w7.heap.size < w8.heap.size := Y8.lt
      have k2 : Same (New w4 w5) w6 w7 := hB7.same (fun b hb => by have := hb.2; omega) (by intro hb; have := hb.1; omega)
      have k3 : Same (New w4 w5) w7 w8 := (Same.alloc (fun b hb => by have := hb.2; omega) _).trans (hB8.same (fun b hb => by have := hb.2; simp; omega) (by intro hb; have := hb.1; omega))
      have k4 : Same (New w6 w7) w7 w8 := (Same.alloc (Under.new w6 w7) _).trans (hB8.same ((Under.new w6 w7).alloc _) (by intro hb; have := hb.1; omega))
      have B8 := (((((B2.trans hB3).trans hB4).trans hB5).trans ((But.alloc (But.refl bp w5) _).trans hB6)).trans hB7).trans ((But.alloc (But.refl bp w7) _).trans hB8)
      have rl := R8.lt
      have r0 := R8.cell 0
      have r1 := R8.cell 1
      have r2 := R8.cell 2
      have s0 := R8.free 0
      have s1 := R8.free 1
      have s2 := R8.free 2
      simp at r0 r1 r2
      have xl := X8.lt
      have x0 := X8.cell 0
      have x1 := X8.cell 1
      have x2 := X8.cell 2
      simp at x0 x1 x2
      have yl := Y8.lt
      have y0 := Y8.cell 0
      have y1 := Y8.cell 1
      have y2 := Y8.cell 2
      simp at y0 y1 y2
      go_wp2_with fail
      refine end_world (fun W => Blk W w.heap.size [.int .i64 8, .string ⟨#[]⟩, .slice (some ⟨w8.heap.size, 0, none⟩) 2 2] 206 ∧ PAt S bp a cap toks (PS.need toks rv.2 ⟨#[62]⟩) W ∧ But bp w W ∧ Blk W w8.heap.size [.int .i64 r.1.kind, .string r.1.name, .slice oa r.1.of.length oc, .int .i64 rv.1.kind, .string rv.1.name, .slice oa2 rv.1.of.length oc2] 206 ∧ w.heap.size ≤ w8.heap.size ∧ w8.heap.size < W.heap.size ∧ (RTy (New w W) W r.1 [.int .i64 r.1.kind, .string r.1.name, .slice oa r.1.of.length oc] ∧ RTy (New w W) W rv.1 [.int .i64 rv.1.kind, .string rv.1.name, .slice oa2 rv.1.of.length oc2])) ?_ ?_
      · refine ⟨(((R8.set 0 _).set 1 _).set 2 _).alloc _, (((h8.own hU hlt (Nat.le_refl _) 0 _).own hU hlt (Nat.le_refl _) 1 _).own hU hlt (Nat.le_refl _) 2 _).alloc _, (((B8.own (Nat.le_refl _) 0 _).own (Nat.le_refl _) 1 _).own (Nat.le_refl _) 2 _).alloc _, ?_, ?_, ?_, ?_, ?_⟩
        · exact Blk.newAt (by simp [World.setCell]) _ _
        · omega
        · simp [World.setCell]
        · exact hty.keep (((k1.trans k2).trans k3).own3 _ (fun b hb => ⟨by have := hb.1; omega, by have := hb.2; omega⟩) _ _ _ _) (New.both (by omega) (by simp [World.setCell]; omega))
        · exact hty2.keep (k4.own3 _ (fun b hb => ⟨by have := hb.1; omega, by have := hb.2; omega⟩) _ _ _ _) (New.both (by omega) (by simp [World.setCell]; omega))
      rintro W ⟨hR, hP, hB, hX, hz, hz2, hT, hT2⟩
      clear R8 rl r0 r1 r2 s0 s1 s2
      have q0 := hR.cell 0
      have q1 := hR.cell 1
      have q2 := hR.cell 2
      simp at q0 q1 q2
      refine bodyPost_ret (v := .agg #[.int .i64 8, .string ⟨#[]⟩, .slice (some ⟨w8.heap.size, 0, none⟩) 2 2]) (by simp [results, Tryz.results280, go_sem, q0, q1, q2]) rfl ?_
      exact TyPost.mk rfl i64ok8 (by show (⟨#[]⟩ : ByteArray).size ≤ _; decide) (own2 (cs := [_, _, _]) (ds := [_, _, _]) hX ⟨hz, hz2⟩ rfl rfl hT hT2) hP hB
  · have E : baseG toks rec_ p = (.mk 7 ⟨#[]⟩ [(rec_ (p.step.need toks ⟨#[60]⟩)).1], (rec_ (p.step.need toks ⟨#[60]⟩)).2.need toks ⟨#[62]⟩) := by
      unfold baseG; rw [if_neg hk, hb1]; rfl
    have e1 : p.may toks ⟨#[108, 105, 115, 116]⟩ = p.step := by unfold PS.may; rw [hb1]; rfl
    rw [E]
    have Hm := Lib.hid (fun W hW => by have := hm1 W hW; rw [hb1, e1] at this; exact this : ∀ W, PAt S bp a cap toks p W → Calls Tryz.prog 231 #[.pointer (some ⟨bp, 0, none⟩), .string ⟨#[108, 105, 115, 116]⟩] W (PPost S bp a cap toks W (.bool true) p.step))
    clear E e1 hb1 hm1 hm2 hp hp0 hk0 hk
    go_enter Tryz.func280, Tryz.ntmps280
    go_wp2_with fail
    refine (now_calls (h.alloc _)).mono ?_
    rintro e w1 ⟨rfl, hb1⟩
    have hB1 := hb1.popc
    have h1 := h.below hB1
    generalize p.now toks = t at *
    have hr : Blk w1 w.heap.size [.int .i64 0, .string ⟨#[]⟩, .slice none 0 0] 206 := hb1.blkc
    clear hb1
    go_wp2_with fail
    refine (Hp.out _).mono ?_
    rintro e w' ⟨rfl, rfl⟩
    go_wp2_with fail
    refine (Hm.out _ (h1.alloc _)).mono ?_
    rintro e w2 ⟨rfl, h2, hB2⟩
    have B2 := (But.below (b := bp) hB1).trans ((But.alloc (But.refl _ _) _).trans hB2)
    have R2 : Blk w2 w.heap.size [.int .i64 0, .string ⟨#[]⟩, .slice none 0 0] 206 := (hr.alloc _).grown hB2 (by simp; omega)
    go_wp2_with fail
    refine (Hneed.out _ _ h2 ⟨#[60]⟩ (by decide +kernel)).mono ?_
    rintro e w3 ⟨rfl, h3, hB3⟩
    have R3 := R2.grown hB3 (by simp; omega)
    go_wp2_with fail
    rw [show ((d : Int) + 1) = ((d + 1 : Nat) : Int) by omega]
    refine (Hrec.out _ _ h3).mono ?_
    rintro e w4 ⟨oa, oc, rfl, hty, h4, hB4⟩
    have R4 := R3.grown hB4 (by simp; omega)
    generalize rec_ (p.step.need toks ⟨#[60]⟩) = r at *
    go_wp2_with fail
    refine (Hneed.out _ _ (h4.alloc _) ⟨#[62]⟩ (by decide +kernel)).mono ?_
    rintro e w5 ⟨rfl, h5, hB5⟩
    have R5 := (R4.alloc (.cells #[.int .i64 r.1.kind, .string r.1.name, .slice oa r.1.of.length oc] 206)).grown hB5 (by simp; omega)
    have l4 : bp < w4.heap.size := h4.blk.lt
    have X5 : Blk w5 w4.heap.size [.int .i64 r.1.kind, .string r.1.name, .slice oa r.1.of.length oc] 206 := (Blk.new w4 [.int .i64 r.1.kind, .string r.1.name, .slice oa r.1.of.length oc] 206).grown hB5 (by simp; omega)
    have rl := R5.lt
    have r0 := R5.cell 0
    have r1 := R5.cell 1
    have r2 := R5.cell 2
    have s0 := R5.free 0
    have s1 := R5.free 1
    have s2 := R5.free 2
    simp at r0 r1 r2
    have xl := X5.lt
    have x0 := X5.cell 0
    have x1 := X5.cell 1
    have x2 := X5.cell 2
    simp at x0 x1 x2
    have z3 := R3.lt
    have z4 : w3.heap.size ≤ w4.heap.size := hB4.size
    have z5 : w4.heap.size ≤ w5.heap.size := by have := hB5.size; simp at this; omega
    have B5 := ((B2.trans hB3).trans hB4).trans ((But.alloc (But.refl bp w4) _).trans hB5)
    have k1 : Same (New w3 w4) w4 w5 := (Same.alloc (Under.new w3 w4) _).trans (hB5.same ((Under.new w3 w4).alloc _) (by intro hb; have := hb.1; omega))
    go_wp2_with fail
    refine end_world (fun W => Blk W w.heap.size [.int .i64 7, .string ⟨#[]⟩, .slice (some ⟨w5.heap.size, 0, none⟩) 1 1] 206 ∧ PAt S bp a cap toks (PS.need toks r.2 ⟨#[62]⟩) W ∧ But bp w W ∧ Blk W w5.heap.size [.int .i64 r.1.kind, .string r.1.name, .slice oa r.1.of.length oc] 206 ∧ w.heap.size ≤ w5.heap.size ∧ w5.heap.size < W.heap.size ∧ RTy (New w W) W r.1 [.int .i64 r.1.kind, .string r.1.name, .slice oa r.1.of.length oc]) ?_ ?_
    · refine ⟨(((R5.set 0 _).set 1 _).set 2 _).alloc _, (((h5.own hU hlt (Nat.le_refl _) 0 _).own hU hlt (Nat.le_refl _) 1 _).own hU hlt (Nat.le_refl _) 2 _).alloc _, (((B5.own (Nat.le_refl _) 0 _).own (Nat.le_refl _) 1 _).own (Nat.le_refl _) 2 _).alloc _, ?_, ?_, ?_, ?_⟩
      · exact Blk.newAt (by simp [World.setCell]) _ _
      · omega
      · simp [World.setCell]
      · exact hty.keep (k1.own3 _ (fun b hb => ⟨by have := hb.1; omega, by have := hb.2; omega⟩) _ _ _ _) (New.both (by omega) (by simp [World.setCell]; omega))
    rintro W ⟨hR, hP, hB, hX, hz, hz2, hT⟩
    clear R5 rl r0 r1 r2 s0 s1 s2
    have q0 := hR.cell 0
    have q1 := hR.cell 1
    have q2 := hR.cell 2
    simp at q0 q1 q2
    refine bodyPost_ret (v := .agg #[.int .i64 7, .string ⟨#[]⟩, .slice (some ⟨w5.heap.size, 0, none⟩) 1 1]) (by simp [results, Tryz.results280, go_sem, q0, q1, q2]) rfl ?_
    exact TyPost.mk rfl i64ok7 (by show (⟨#[]⟩ : ByteArray).size ≤ _; decide) (own1 hX ⟨hz, hz2⟩ rfl hT) hP hB
end Go.Proofs.YtfoihafhpmbaeaaGreatDoor
