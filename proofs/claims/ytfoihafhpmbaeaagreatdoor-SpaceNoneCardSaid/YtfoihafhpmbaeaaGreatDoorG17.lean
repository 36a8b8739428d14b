/- The parser takes a field. -/
import Derived.Deep.DeepCutAuto
import Derived.Deep.RegionHeld3
import Derived.Deep.RegionWith
import Derived.Test.YtfoihafhpmbaeaaGreatDoorG16
namespace Go.Proofs.YtfoihafhpmbaeaaGreatDoor
open Go.RowKit

def fldRow (toks : List Tok) (p : PS) : Fld × PS :=
  let n := p.number toks
  let nm := n.2.name toks
  let t := typF toks 10 0 (nm.2.need toks ⟨#[58]⟩)
  (⟨n.1, nm.1, t.1⟩, t.2)
def enumRow (toks : List Tok) (p : PS) : Fld × PS :=
  let n := p.number toks
  let nm := n.2.name toks
  (⟨n.1, nm.1, noTy⟩, nm.2)

abbrev RMth' : Blocks → World → Mth → List Value → Prop := fun _ _ m cs => RMth m cs
abbrev Keeps {α : Type} (R : Blocks → World → α → List Value → Prop) : Prop := ∀ {S S' : Blocks} {w w' : World} {x : α} {cs : List Value}, Same S w w' → Sub S S' → R S w x cs → R S' w' x cs
theorem keepsFld : Keeps RFld := fun hs k r => r.keep hs k
theorem keepsMth : Keeps RMth' := fun _ _ r => r
/-- a declaration under way: its block, with a list of the call's own in one of its cells -/
structure DAt {α : Type} (R : Blocks → World → α → List Value → Prop) (T : TypeId) (mk : Value → List Value) (S : Blocks) (bp : Nat) (a : Option Addr) (cap : Nat) (toks : List Tok) (B pb dd : Nat) (p : PS) (l : List α) (w : World) : Prop where
  pat : PAt S bp a cap toks p w
  pbk : Blk w pb [.pointer (some ⟨bp, 0, none⟩)] 315
  fld : ∃ fa fc, Blk w dd (mk (.slice fa l.length fc)) 149 ∧ OwnL R B (fun b => b = pb ∨ b = dd) T 5 w l fa fc
  lpb : some pb ≠ some bp
  ldd : B ≤ dd
  ne : pb ≠ dd
  lbp : bp < B
  lS : ∀ b, S b → b < B
  lB : B ≤ w.heap.size
section
variable {α : Type} {R : Blocks → World → α → List Value → Prop} {T : TypeId} {mk : Value → List Value} {S : Blocks} {bp : Nat} {a : Option Addr} {cap : Nat} {toks : List Tok} {B pb dd : Nat} {p p' : PS} {l : List α} {w w' : World}
theorem DAt.call (hR : Keeps R) (h : DAt R T mk S bp a cap toks B pb dd p l w) (hp : PAt S bp a cap toks p' w') (hb : But bp w w') : DAt R T mk S bp a cap toks B pb dd p' l w' := by
  obtain ⟨fa, fc, h1, h2⟩ := h.fld
  have l1 := h.lpb
  have l2 := h.ldd
  have l3 := h.lbp
  have hk : ∀ b, B ≤ b → b < w.heap.size → w'.heap[b]? = w.heap[b]? := fun b hB hb' => hb.block b hb' (by intro e; injection e with e; omega)
  exact ⟨hp, h.pbk.grown hb l1, ⟨fa, fc, h1.keep (hk dd l2 h1.lt), OwnL.keep (R := R) hR h2 hb.size (fun b k1 k2 _ => hk b k1 k2)⟩, l1, l2, h.ne, l3, h.lS, Nat.le_trans h.lB hb.size⟩
end

theorem info_fld : (Tryz.prog.info? 208).map (fun i => (i.zero, i.size, i.bytes)) = some (some (.agg #[.int .i64 0, .string ⟨#[]⟩, .int .i64 0, .string ⟨#[]⟩, .slice none 0 0]), 5, 72) := by kernel_rfl

theorem Same.set {S : Blocks} {w w1 : World} (h : Same S w w1) {r : Nat} (hr : ∀ b, S b → b ≠ r) (i : Nat) (v : Value) : Same S w (w1.setCell ⟨r, i, none⟩ v) :=
  fun b hb => (Below.heap_setCell _ _ _ _ (hr b hb)).trans (h b hb)
theorem news_newAt {w : World} {n : Nat} (h : n = w.heap.size) (cs : List Value) (T : TypeId) : ∀ j u, cs[j]? = some u → (w.alloc (.cells cs.toArray T)).cell? ((⟨n, 0, none⟩ : Addr).add j) = some u := h ▸ news_new w cs T
theorem name_size {S : Blocks} {bp : Nat} {a : Option Addr} {cap : Nat} {toks : List Tok} {p : PS} {w : World} (h : PAt S bp a cap toks p w) (q : PS) : (q.name toks).1.size ≤ 1048576 := by
  have hsz : (q.now toks).text.size ≤ 1048576 := by
    by_cases hq : q.at_ < toks.length
    · obtain ⟨b, off, cs, _, hSb, _, hcs, rfl, h1, h2, h3, h4⟩ := RSl.at h.rd hq
      rw [now_eq hq]
      exact h2
    · simp [PS.now, List.getD, hq]
      decide
  unfold PS.name
  simp only
  split
  all_goals (split <;> first | (show (q.now toks).text.size ≤ _; omega) | (show (⟨#[]⟩ : ByteArray).size ≤ _; decide))
theorem cell_set_ne {w : World} {b r : Nat} (h : b ≠ r) {i o : Nat} {v : Value} : (w.setCell ⟨r, i, none⟩ v).cell? ⟨b, o, none⟩ = w.cell? ⟨b, o, none⟩ :=
  World.cell?_of_block (Below.heap_setCell _ _ _ _ h)

/-- behind a row: the list has one more -/
def RowPost {α : Type} (R : Blocks → World → α → List Value → Prop) (T : TypeId) (mk : Value → List Value) (S : Blocks) (bp : Nat) (a : Option Addr) (cap : Nat) (toks : List Tok) (B pb dd : Nat) (r : α × PS) (l : List α) (w : World) (e : Ending) (w' : World) : Prop :=
  e = .returned (.tuple #[]) ∧ DAt R T mk S bp a cap toks B pb dd r.2 (l ++ [r.1]) w' ∧ Frm B bp w w'
abbrev mkF (kind : Int) (name : ByteArray) (pos : Int) (v : Value) : List Value := [.int .i64 kind, .string name, v, .slice none 0 0, .int .i64 pos]
abbrev mkM (kind : Int) (name : ByteArray) (pos : Int) (v : Value) : List Value := [.int .i64 kind, .string name, .slice none 0 0, v, .int .i64 pos]

set_option maxHeartbeats 1000000 in
theorem fldRow_calls {S : Blocks} {bp : Nat} {a : Option Addr} {cap : Nat} {toks : List Tok} {B pb dd : Nat} {p : PS} {kind : Int} {name : ByteArray} {fl : List Fld} {pos : Int} {w : World}
    (h : DAt RFld 208 (mkF kind name pos) S bp a cap toks B pb dd p fl w) (hn : fl.length ≤ 100) :
    Calls Tryz.prog 226 #[.pointer (some ⟨pb, 0, none⟩), .pointer (some ⟨dd, 0, none⟩)] w (RowPost RFld 208 (mkF kind name pos) S bp a cap toks B pb dd (fldRow toks p) fl w) := by
  have b0 := h.pbk.cell 0
  simp at b0
  have lp := h.pbk.lt
  unfold fldRow
  simp only
  have ok1 := number_ok h.pat
  have lB := h.lB
  have lbp := h.lbp
  have ldd := h.ldd
  have lpb := h.lpb
  have hU : Under S w := h.pat.und
  have hlw := h.pat.blk.lt
  have z0 : w.heap.size ≤ w.heap.size := Nat.le_refl _
  obtain ⟨n, e1⟩ : ∃ n, (p.number toks).1 = n := ⟨_, rfl⟩
  obtain ⟨p1, e2⟩ : ∃ n, (p.number toks).2 = n := ⟨_, rfl⟩
  have okn := name_size h.pat p1
  obtain ⟨nm, e3⟩ : ∃ n, (p1.name toks).1 = n := ⟨_, rfl⟩
  rw [e3] at okn
  obtain ⟨p2, e4⟩ : ∃ n, (p1.name toks).2 = n := ⟨_, rfl⟩
  rw [e1, e2, e3, e4]
  rw [e1] at ok1
  go_enter Tryz.func226, Tryz.ntmps226
  go_upto_region 0 with fail
  go_cut [2] (fun s2 wx => ∃ m : Nat, s2 = .pointer (some ⟨m, 0, none⟩) ∧ w.heap.size ≤ m ∧ Blk wx m [.int .i64 n, .string nm, .int .i64 0, .string ⟨#[]⟩, .slice none 0 0] 208 ∧
      PAt S bp a cap toks p2 wx ∧ But bp w wx)
  case first =>
    have HN : Hid (∀ W, But bp w W → PAt S bp a cap toks p W → Calls Tryz.prog 227 #[.pointer (some ⟨bp, 0, none⟩)] W fun e W' => e = .returned (.int .i64 n) ∧ But bp w W' ∧ But bp W W' ∧ PAt S bp a cap toks p1 W' ∧ W'.cell? ⟨pb, 0, none⟩ = some (.pointer (some ⟨bp, 0, none⟩))) := fun W g q =>
      (number2_calls q).mono (by rintro e W' ⟨rfl, q', g'⟩; exact ⟨by rw [← e1], g.trans g', g', by rw [← e2]; exact q', (by have := (h.pbk.grown (g.trans g') lpb).cell 0; simpa using this)⟩)
    have HM : Hid (∀ W, But bp w W → PAt S bp a cap toks p1 W → Calls Tryz.prog 228 #[.pointer (some ⟨bp, 0, none⟩)] W fun e W' => e = .returned (.string nm) ∧ But bp w W' ∧ But bp W W' ∧ PAt S bp a cap toks p2 W' ∧ W'.cell? ⟨pb, 0, none⟩ = some (.pointer (some ⟨bp, 0, none⟩))) := fun W g q =>
      (name_calls q).mono (by rintro e W' ⟨rfl, q', g'⟩; exact ⟨by rw [← e3], g.trans g', g', by rw [← e4]; exact q', (by have := (h.pbk.grown (g.trans g') lpb).cell 0; simpa using this)⟩)
    have I0 : PAt S bp a cap toks p w := h.pat
    clear h lB e1 e2 e3 e4 ok1 hn
    go_region_held3 (fun W => W.cell? ⟨pb, 0, none⟩ = some (.pointer (some ⟨bp, 0, none⟩))) (first | go_keep | (rw [cell_set_ne np2, cell_set_ne np2, cell_set_ne np2, cell_set_ne np2, cell_set_ne np2]; exact b3) | (rw [cell_set_ne np1, cell_set_ne np1, cell_set_ne np1, cell_set_ne np1, cell_set_ne np1]; exact b3))
     ((first
      | (go_at_call 227; refine (HN.out _ (by first | exact (But.refl _ _).drew | exact ((But.refl _ _).alloc _).drew) (by first | exact I0.below (Below.refl _ _).drew | exact (I0.alloc _).below (Below.refl _ _).drew)).mono ?_; rintro e w2 ⟨rfl, g2, k2, q2, b2⟩
         have z2 : w.heap.size ≤ w2.heap.size := g2.size
         have lp2 : pb < w2.heap.size := Nat.lt_of_lt_of_le lp z2
         first
           | (have M2 : Blk w2 w.heap.size [.int .i64 0, .string ⟨#[]⟩, .int .i64 0, .string ⟨#[]⟩, .slice none 0 0] 208 := Blk.grown (w := (w.alloc (.cells #[.int .i64 0, .string ⟨#[]⟩, .int .i64 0, .string ⟨#[]⟩, .slice none 0 0] 208)).drew) (Blk.new w [.int .i64 0, .string ⟨#[]⟩, .int .i64 0, .string ⟨#[]⟩, .slice none 0 0] 208) k2 (by simp; omega))
           | skip)
      | (go_at_call 228; refine (HM.out _ (by first | exact g2 | exact g2.alloc _) (by first | exact q2 | exact q2.alloc _)).mono ?_; rintro e w3 ⟨rfl, g3, k3, q3, b3⟩
         have z3 : w2.heap.size ≤ w3.heap.size := (by have := k3.size; first | exact this | (simp at this; omega))
         have lp3 : pb < w3.heap.size := Nat.lt_of_lt_of_le lp2 z3
         have np3 : pb ≠ w3.heap.size := by omega
         have np2 : pb ≠ w2.heap.size := by omega
         have np1 : pb ≠ w.heap.size := by omega
         first
           | (have M3 : Blk w3 w.heap.size [.int .i64 0, .string ⟨#[]⟩, .int .i64 0, .string ⟨#[]⟩, .slice none 0 0] 208 := M2.grown k3 (by simp; omega)
              have ml := M3.lt
              have m0 := M3.cell 0
              have m1 := M3.cell 1
              have m2 := M3.cell 2
              have m3 := M3.cell 3
              have m4 := M3.cell 4
              have u0 := M3.free 0
              have u1 := M3.free 1
              have u2 := M3.free 2
              have u3 := M3.free 3
              have u4 := M3.free 4
              simp at m0 m1 m2 m3 m4)
           | (have M3 : Blk w3 w2.heap.size [.int .i64 0, .string ⟨#[]⟩, .int .i64 0, .string ⟨#[]⟩, .slice none 0 0] 208 := Blk.grown (w := w2.alloc (.cells #[.int .i64 0, .string ⟨#[]⟩, .int .i64 0, .string ⟨#[]⟩, .slice none 0 0] 208)) (Blk.new w2 [.int .i64 0, .string ⟨#[]⟩, .int .i64 0, .string ⟨#[]⟩, .slice none 0 0] 208) k3 (by simp; omega)
              have ml := M3.lt
              have m0 := M3.cell 0
              have m1 := M3.cell 1
              have m2 := M3.cell 2
              have m3 := M3.cell 3
              have m4 := M3.cell 4
              have u0 := M3.free 0
              have u1 := M3.free 1
              have u2 := M3.free 2
              have u3 := M3.free 3
              have u4 := M3.free 4
              simp at m0 m1 m2 m3 m4)
           | skip)))
    all_goals (go_wp2_with fail; go_meet)
    · exact ⟨w3.heap.size, rfl, g3.size, Blk.new w3 _ _, q3.alloc _, g3.alloc _⟩
    · exact ⟨w2.heap.size, rfl, z2, ((((M3.set 0 _).set 1 _).set 2 _).set 3 _).set 4 _,
        ((((q3.own hU hlw z2 0 _).own hU hlw z2 1 _).own hU hlw z2 2 _).own hU hlw z2 3 _).own hU hlw z2 4 _,
        ((((g3.own z2 0 _).own z2 1 _).own z2 2 _).own z2 3 _).own z2 4 _⟩
    · exact ⟨w.heap.size, rfl, z0, ((((M3.set 0 _).set 1 _).set 2 _).set 3 _).set 4 _,
        ((((q3.own hU hlw z0 0 _).own hU hlw z0 1 _).own hU hlw z0 2 _).own hU hlw z0 3 _).own hU hlw z0 4 _,
        ((((g3.own z0 0 _).own z0 1 _).own z0 2 _).own z0 3 _).own z0 4 _⟩
  case rest =>
    obtain ⟨m, rfl, lm, hm, hd, hb⟩ := hcut
    have hne : ∀ b, B ≤ b → some b ≠ some bp := fun b k e => by injection e with e; omega
    obtain ⟨fa, fc, hD, hO⟩ := h.fld
    have P0 := h.pbk.grown hb lpb
    have D0 := hD.grown hb (hne _ ldd)
    have c0 := P0.cell 0
    simp at c0
    go_wp2_with fail
    refine (need_calls ⟨#[58]⟩ (by decide +kernel) hd).mono ?_
    rintro e w4 ⟨rfl, h4, hB4⟩
    have P4 := P0.grown hB4 lpb
    have D4 := D0.grown hB4 (hne _ ldd)
    have M4 := hm.grown hB4 (hne _ (by omega))
    have c4 := P4.cell 0
    simp at c4
    go_wp2_with fail
    refine (typ_calls 9 0 (by omega) (by omega) _ _ h4).mono ?_
    rintro e w5 ⟨oa, oc, rfl, hty, h5, hB5⟩
    have P5 := P4.grown hB5 lpb
    have D5 := D4.grown hB5 (hne _ ldd)
    have M5 := M4.grown hB5 (hne _ (by omega))
    have G5 := (hb.trans hB4).trans hB5
    have hml : m < w4.heap.size := Nat.lt_of_lt_of_le hm.lt hB4.size
    have z4 : w.heap.size ≤ w4.heap.size := (hb.trans hB4).size
    have ldl := hD.lt
    have rowlt : ∀ k, (Value.slice fa fl.length fc).ownBlock = some k → k < w.heap.size := fun k hk => by
      obtain ⟨xs, SS, k1, _⟩ := hO
      exact (k1.lt k hk).2
    generalize typF toks (9 + 1) 0 (PS.need toks p2 ⟨#[58]⟩) = t at *
    obtain ⟨WW, hWW⟩ : ∃ WW, ((w5.setCell ⟨m, 2, none⟩ (.int .i64 t.1.kind)).setCell ⟨m, 3, none⟩ (.string t.1.name)).setCell ⟨m, 4, none⟩ (.slice oa t.1.of.length oc) = WW := ⟨_, rfl⟩
    have GW : But bp w WW := hWW ▸ ((G5.own lm 2 _).own lm 3 _).own lm 4 _
    have MW : Blk WW m [.int .i64 n, .string nm, .int .i64 t.1.kind, .string t.1.name, .slice oa t.1.of.length oc] 208 := hWW ▸ ((M5.set 2 _).set 3 _).set 4 _
    have PW : PAt S bp a cap toks t.2 WW := hWW ▸ ((h5.own hU hlw lm 2 _).own hU hlw lm 3 _).own hU hlw lm 4 _
    have hO2 : OwnL RFld B (fun b => b = pb ∨ b = dd) 208 5 WW fl fa fc := OwnL.keep (R := RFld) keepsFld hO GW.size (fun b k1 k2 _ => GW.block b k2 (hne b k1))
    have DW : Blk WW dd (mkF kind name pos (.slice fa fl.length fc)) 149 := hD.grown GW (hne _ ldd)
    have PB : Blk WW pb [.pointer (some ⟨bp, 0, none⟩)] 315 := h.pbk.grown GW lpb
    have hrm : ∀ b, New w4 w5 b → b ≠ m := fun b hb => by have := hb.1; omega
    have TW : RTy (New w4 w5) WW t.1 [.int .i64 t.1.kind, .string t.1.name, .slice oa t.1.of.length oc] := hty.keep (by rw [← hWW]; exact (((Same.refl _ w5).set hrm 2 _).set hrm 3 _).set hrm 4 _) (Sub.refl _)
    have U5 : Under (New w4 w5) WW := fun b hb => by
      have := hb.2
      have hz : WW.heap.size = w5.heap.size := by rw [← hWW]; simp [World.setCell]
      omega
    obtain ⟨i0, hi, hz0, hz1, hz2⟩ := info_parts info_fld
    obtain ⟨xs, SS, k1, k2, k3, k4, k5, k6⟩ := hO2
    have l5 := M5.lt
    have l6 := P5.lt
    have l7 := D5.lt
    have m0 := M5.cell 0
    have m1 := M5.cell 1
    have m2 := M5.cell 2
    have m3 := M5.cell 3
    have m4 := M5.cell 4
    have u2 := M5.free 2
    have u3 := M5.free 3
    have u4 := M5.free 4
    have d2 := D5.cell 2
    have x0 := P5.cell 0
    have nd : dd ≠ m := by omega
    simp at m0 m1 m2 m3 m4 d2 x0
    subst hWW
    go_wp2_with (at_builtin; refine wpList_append_own_at _ rfl _ _ 146 rfl B 208 i0 _ 5 72 Tryz.underlying146 hi hz0 hz1 hz2 rfl (by decide) _ _ _ rfl (k1.alloc _) ⟨w5.heap.size, 0, none⟩ 1 1 [.int .i64 n, .string nm, .int .i64 t.1.kind, .string t.1.name, .slice oa t.1.of.length oc] ?c0 rfl ?c1 ?c2 ?c3 ?c4 ?c5 ?_)
    case c0 => rfl
    case c1 => exact news_newAt (by simp [World.setCell]) [.int .i64 n, .string nm, .int .i64 t.1.kind, .string t.1.name, .slice oa t.1.of.length oc] _
    case c2 => simp [Value.oneCell']
    case c3 => unfold maxLen; omega
    case c4 => omega
    case c5 => simp [World.setCell]; omega
    clear m0 m1 m2 m3 m4 u2 u3 u4 d2 x0
    intro v' W2 hown hg _ hloc
    obtain ⟨a', c', rfl⟩ := own_form hown
    generalize hW1 : ((w5.setCell ⟨m, 2, none⟩ (.int .i64 t.1.kind)).setCell ⟨m, 3, none⟩ (.string t.1.name)).setCell ⟨m, 4, none⟩ (.slice oa t.1.of.length oc) = WW at *
    have e9 : WW.heap.size = w5.heap.size := by rw [← hW1]; simp [World.setCell]
    have hsn : OwnL RFld B (fun b => b = pb ∨ b = dd) 208 5 W2 (fl ++ [⟨n, nm, t.1⟩]) a' c' :=
      OwnL.snoc (R := RFld) (x := (⟨n, nm, t.1⟩ : Fld)) (W := WW) (S1 := New w4 w5) keepsFld RFld.len k1 k2 k3 k4 k5 k6 ⟨oa, oc, rfl, ok1, by show nm.size ≤ _; omega, TW⟩ U5
        (fun b hb => ⟨by have := hb.1; omega, by have := hb.1; rintro (e | e) <;> omega⟩) (fun b hb e => by have := rowlt b e; have := hb.1; omega)
        (fun b hb => by
          rcases hb with rfl | rfl
          · exact PB.lt
          · exact DW.lt) rfl hown hg (by simpa [e9] using hloc)
    have hrow : ∀ k, (Value.slice fa fl.length fc).ownBlock = some k → B ≤ k := fun k hk => (k1.lt k hk).1
    have g1 : Frm B bp w W2 := ((Frm.but GW lB).alloc (Nat.le_trans lB GW.size) _).grown hg (Nat.le_trans lB (by have := GW.size; simp; omega)) hrow
    have hkeep : ∀ b, b < WW.heap.size → (Value.slice fa fl.length fc).ownBlock ≠ some b → W2.heap[b]? = WW.heap[b]? := fun b hb hnb => by
      rw [hg.block b (by simp; omega) (Ne.symm hnb), Below.heap_alloc _ _ _ hb]
    have D2 : Blk W2 dd (mkF kind name pos (.slice fa fl.length fc)) 149 := DW.keep (hkeep dd DW.lt (k5 dd (.inr rfl)))
    have P2 : Blk W2 pb [.pointer (some ⟨bp, 0, none⟩)] 315 := PB.keep (hkeep pb PB.lt (k5 pb (.inl rfl)))
    have A2 : PAt S bp a cap toks t.2 W2 := by
      refine PAt.frm (B := B) PW (((Frm.refl B bp WW).alloc (Nat.le_trans lB GW.size) _).grown hg (Nat.le_trans lB (by have := GW.size; simp; omega)) hrow) h.lS ?_
      exact hkeep bp PW.blk.lt (fun e => by have := hrow bp e; omega)
    have d2 := D2.cell 2
    have e2 := D2.free 2
    simp at d2
    clear hW1
    go_wp2_with fail
    go_end0
    refine ⟨rfl, ⟨?_, P2.keep (Below.heap_setCell _ _ _ _ h.ne), ⟨a', c', ?_, ?_⟩, lpb, ldd, h.ne, lbp, h.lS, ?_⟩, g1.setCell ldd 2 _⟩
    · exact PAt.frm (B := B) A2 ((Frm.refl B bp W2).setCell ldd 2 _) h.lS (Below.heap_setCell _ _ _ _ (by show bp ≠ dd; omega))
    · have := D2.set 2 (.slice a' (fl.length + 1) c')
      rw [List.length_append]
      exact this
    · exact OwnL.keep (R := RFld) keepsFld hsn (by simp [World.setCell]) (fun b _ _ hx => Below.heap_setCell _ _ _ _ (by show b ≠ dd; exact fun e => hx (.inr e)))
    · have := g1.2.2.2.1
      simp [World.setCell]
      omega
end Go.Proofs.YtfoihafhpmbaeaaGreatDoor
