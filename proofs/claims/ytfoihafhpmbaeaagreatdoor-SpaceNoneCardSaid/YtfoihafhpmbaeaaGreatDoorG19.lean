/- The parser takes an enum's value. -/
import Derived.Deep.AppendLies
import Derived.Deep.RegionLaw
import Derived.Test.YtfoihafhpmbaeaaGreatDoorG17
import Derived.Test.YtfoihafhpmbaeaaGreatDoorG18
namespace Go.Proofs.YtfoihafhpmbaeaaGreatDoor
open Go.RowKit

/-- behind an append to the list and its store -/
theorem DAt.snoc {α : Type} {R : Blocks → World → α → List Value → Prop} {T : TypeId} {mk : Value → List Value} {idx : Nat} {S : Blocks} {bp : Nat} {a : Option Addr} {cap : Nat} {toks : List Tok} {B pb dd : Nat} {p : PS} {l : List α} {x : α} {cs : List Value} {xs : List Value} {SS S1 : Blocks} {w w3 w4 : World} {fa : Option Addr} {fc g c' : Nat}
    (hR : Keeps R) (hlen : ∀ {S w x cs}, R S w x cs → cs.length = 5) (hmk : ∀ v v', (mk v).set idx v' = mk v') (f0 : Frm B bp w w3) (hp : PAt S bp a cap toks p w3) (hpb : Blk w3 pb [.pointer (some ⟨bp, 0, none⟩)] 315)
    (hdd : Blk w3 dd (mk (.slice fa l.length fc)) 149) (lpb : some pb ≠ some bp) (ldd : B ≤ dd) (ne : pb ≠ dd) (lbp : bp < B) (lS : ∀ b, S b → b < B) (lB : B ≤ w3.heap.size)
    (h1 : w3.ownsRow B T 5 (.slice fa l.length fc) l.length xs) (h2 : Under SS w3) (h3 : ∀ b, SS b → B ≤ b ∧ ¬ (b = pb ∨ b = dd)) (h4 : ∀ b, SS b → (Value.slice fa l.length fc).ownBlock ≠ some b)
    (h5 : ∀ b, (b = pb ∨ b = dd) → (Value.slice fa l.length fc).ownBlock ≠ some b) (h6 : ∀ i, (h : i < l.length) → R SS w3 l[i] ((xs.drop (i * 5)).take 5))
    (hx : R S1 w3 x cs) (u1 : Under S1 w3) (u2 : ∀ b, S1 b → B ≤ b ∧ ¬ (b = pb ∨ b = dd)) (u3 : ∀ b, S1 b → (Value.slice fa l.length fc).ownBlock ≠ some b)
    (hown : w4.ownsRow B T 5 (.slice (some ⟨g, 0, none⟩) (l.length + 1) c') (l.length + 1) (xs ++ cs)) (hg : (w3.alloc (.cells cs.toArray T)).grownBy w4 (Value.slice fa l.length fc).ownBlock)
    (hat : (Value.slice fa l.length fc).ownBlock = some g ∨ g = w3.heap.size + 1) :
    DAt R T mk S bp a cap toks B pb dd p (l ++ [x]) (w4.setCell ⟨dd, idx, none⟩ (.slice (some ⟨g, 0, none⟩) (l.length + 1) c')) ∧ Frm B bp w (w4.setCell ⟨dd, idx, none⟩ (.slice (some ⟨g, 0, none⟩) (l.length + 1) c')) := by
  have hsn : OwnL R B (fun b => b = pb ∨ b = dd) T 5 w4 (l ++ [x]) (some ⟨g, 0, none⟩) c' :=
    OwnL.snoc (R := R) (W := w3) (S1 := S1) hR hlen h1 h2 h3 h4 h5 h6 hx u1 u2 u3 (fun b hb => by
      rcases hb with rfl | rfl
      · exact hpb.lt
      · exact hdd.lt) rfl hown hg (hat.elim (fun e => .inl e.symm) (fun e => .inr (by rw [e]; simp [Value.ownBlock])))
  have hrow : ∀ k, (Value.slice fa l.length fc).ownBlock = some k → B ≤ k := fun k hk => (h1.lt k hk).1
  have g0 : Frm B bp w3 w4 := ((Frm.refl B bp w3).alloc lB _).grown hg (Nat.le_trans lB (by simp)) hrow
  have hkeep : ∀ b, b < w3.heap.size → (Value.slice fa l.length fc).ownBlock ≠ some b → w4.heap[b]? = w3.heap[b]? := fun b hb hnb => by
    rw [hg.block b (by simp; omega) (Ne.symm hnb), Below.heap_alloc _ _ _ hb]
  have D2 := hdd.keep (hkeep dd hdd.lt (h5 dd (.inr rfl)))
  have P2 := hpb.keep (hkeep pb hpb.lt (h5 pb (.inl rfl)))
  have A2 : PAt S bp a cap toks p w4 := PAt.frm (B := B) hp g0 lS (hkeep bp hp.blk.lt (fun e => by have := hrow bp e; omega))
  refine ⟨⟨?_, P2.keep (Below.heap_setCell _ _ _ _ ne), ⟨some ⟨g, 0, none⟩, c', ?_, ?_⟩, lpb, ldd, ne, lbp, lS, ?_⟩, (f0.trans g0).setCell ldd idx _⟩
  · exact PAt.frm (B := B) A2 ((Frm.refl B bp w4).setCell ldd idx _) lS (Below.heap_setCell _ _ _ _ (by show bp ≠ dd; omega))
  · have := D2.set idx (.slice (some ⟨g, 0, none⟩) (l.length + 1) c')
    rw [hmk] at this
    rw [List.length_append]
    exact this
  · exact OwnL.keep (R := R) hR hsn (by simp [World.setCell]) (fun b _ _ hx => Below.heap_setCell _ _ _ _ (by show b ≠ dd; exact fun e => hx (.inr e)))
  · have := g0.2.2.2.1
    simp [World.setCell]
    omega

set_option maxHeartbeats 1000000 in
theorem enumRow_calls {S : Blocks} {bp : Nat} {a : Option Addr} {cap : Nat} {toks : List Tok} {B pb dd : Nat} {p : PS} {kind : Int} {name : ByteArray} {fl : List Fld} {pos : Int} {w : World}
    (h : DAt RFld 208 (mkF kind name pos) S bp a cap toks B pb dd p fl w) (hn : fl.length ≤ 100) :
    Calls Tryz.prog 232 #[.pointer (some ⟨dd, 0, none⟩), .pointer (some ⟨pb, 0, none⟩)] w (RowPost RFld 208 (mkF kind name pos) S bp a cap toks B pb dd (enumRow toks p) fl w) := by
  have b0 := h.pbk.cell 0
  simp at b0
  have lp := h.pbk.lt
  unfold enumRow
  simp only
  have ok1 := number_ok h.pat
  have lB := h.lB
  have lbp := h.lbp
  have ldd := h.ldd
  have lpb := h.lpb
  have hU : Under S w := h.pat.und
  have hlw := h.pat.blk.lt
  obtain ⟨n, e1⟩ : ∃ n, (p.number toks).1 = n := ⟨_, rfl⟩
  obtain ⟨p1, e2⟩ : ∃ n, (p.number toks).2 = n := ⟨_, rfl⟩
  have okn := name_size h.pat p1
  obtain ⟨nm, e3⟩ : ∃ n, (p1.name toks).1 = n := ⟨_, rfl⟩
  rw [e3] at okn
  obtain ⟨p2, e4⟩ : ∃ n, (p1.name toks).2 = n := ⟨_, rfl⟩
  rw [e1, e2, e3, e4]
  rw [e1] at ok1
  obtain ⟨fa, fc, hD, hO⟩ := h.fld
  have hne : ∀ b, B ≤ b → some b ≠ some bp := fun b k e => by injection e with e; omega
  have HN : Hid (∀ W, But bp w W → PAt S bp a cap toks p W → Calls Tryz.prog 227 #[.pointer (some ⟨bp, 0, none⟩)] W fun e W' => e = .returned (.int .i64 n) ∧ But bp w W' ∧ PAt S bp a cap toks p1 W' ∧
      W'.cell? ⟨pb, 0, none⟩ = some (.pointer (some ⟨bp, 0, none⟩)) ∧ W'.cell? ⟨dd, 2, none⟩ = some (.slice fa fl.length fc)) := fun W g q =>
    (number2_calls q).mono (by rintro e W' ⟨rfl, q', g'⟩; exact ⟨by rw [← e1], g.trans g', by rw [← e2]; exact q', (by have := (h.pbk.grown (g.trans g') lpb).cell 0; simpa using this), (by have := (hD.grown (g.trans g') (hne _ ldd)).cell 2; simpa using this)⟩)
  have HM : Hid (∀ W, But bp w W → PAt S bp a cap toks p1 W → Calls Tryz.prog 228 #[.pointer (some ⟨bp, 0, none⟩)] W fun e W' => e = .returned (.string nm) ∧ But bp w W' ∧ PAt S bp a cap toks p2 W' ∧
      W'.cell? ⟨pb, 0, none⟩ = some (.pointer (some ⟨bp, 0, none⟩)) ∧ W'.cell? ⟨dd, 2, none⟩ = some (.slice fa fl.length fc)) := fun W g q =>
    (name_calls q).mono (by rintro e W' ⟨rfl, q', g'⟩; exact ⟨by rw [← e3], g.trans g', by rw [← e4]; exact q', (by have := (h.pbk.grown (g.trans g') lpb).cell 0; simpa using this), (by have := (hD.grown (g.trans g') (hne _ ldd)).cell 2; simpa using this)⟩)
  have hd2 := hD.cell 2
  simp at hd2
  have I0 : PAt S bp a cap toks p w := h.pat
  have hlS := h.lS
  have hpd := h.ne
  have hPB := h.pbk
  have ldl := hD.lt
  have HO := Lib.hid hO
  obtain ⟨i0, hi, hz0, hz1, hz2⟩ := info_parts info_fld
  clear h e1 e2 e3 e4 hO
  go_enter Tryz.func232, Tryz.ntmps232
  go_wp2_with fail
  refine wp_region_X (fun W => W.cell? ⟨pb, 0, none⟩ = some (.pointer (some ⟨bp, 0, none⟩)) ∧ W.cell? ⟨dd, 2, none⟩ = some (.slice fa fl.length fc)) 10 (by kernel_rfl) ⟨by go_keep, by go_keep⟩ (fun hS0 => ?_)
  refine wpAnyX_take (v := ?_) 0 rfl (by kernel_rfl) (by kernel_rfl) (by kernel_rfl) (by kernel_rfl) (fun _ _ _ h => h) (Or.inl ⟨by rfl, ?_⟩) (by assumption) ?_
  rotate_left 1
  · intro w hSw
    try dsimp only at hSw
    go_simp
    try with_reducible rfl
  simp only [List.getElem_toArray, List.getElem_cons_zero, Act.put, List.setIfInBounds_toArray, List.set_cons_zero, List.set_cons_succ]
  refine wpAnyX_take (v := ?_) 1 rfl (by kernel_rfl) (by kernel_rfl) (by kernel_rfl) (by kernel_rfl) (fun _ _ _ h => h) (Or.inl ⟨by rfl, ?_⟩) (by assumption) ?_
  rotate_left 1
  · intro w hSw
    try dsimp only at hSw
    go_simp
    try with_reducible rfl
  simp only [List.getElem_toArray, List.getElem_cons_succ, List.getElem_cons_zero, Act.put, List.setIfInBounds_toArray, List.set_cons_zero, List.set_cons_succ]
  refine wpAnyX_take (v := ?_) 2 rfl (by kernel_rfl) (by kernel_rfl) (by kernel_rfl) (by kernel_rfl) (fun _ _ _ h => h) (Or.inl ⟨by rfl, ?_⟩) (by assumption) ?_
  rotate_left 1
  · intro w hSw
    try dsimp only at hSw
    go_simp
    try with_reducible rfl
  simp only [List.getElem_toArray, List.getElem_cons_succ, List.getElem_cons_zero, Act.put, List.setIfInBounds_toArray, List.set_cons_zero, List.set_cons_succ]
  refine wpAnyX_take (v := ?_) 4 rfl (by kernel_rfl) (by kernel_rfl) (by kernel_rfl) (by kernel_rfl) (fun _ _ _ h => h) (Or.inl ⟨by rfl, ?_⟩) (by assumption) ?_
  rotate_left 1
  · intro w hSw
    try dsimp only at hSw
    go_simp
    try with_reducible rfl
  simp only [List.getElem_toArray, List.getElem_cons_succ, List.getElem_cons_zero, Act.put, List.setIfInBounds_toArray, List.set_cons_zero, List.set_cons_succ]
  refine wpAnyX_one 3 (by kernel_rfl) rfl (fun K hK => ?_)
  go_simp
  go_at_call 227
  refine (HN.out _ (by exact (But.refl _ _).drew) (by exact I0.below (Below.refl _ _).drew)).mono ?_
  rintro e w2 ⟨rfl, g2, q2, b2, d2⟩
  refine hK.out _ _ (fun _ => ⟨b2, d2⟩) (fun hS1 => ?_)
  replace hS1 := hS1 (by decide)
  clear hK K hS0
  have lp2 : pb < w2.heap.size := Nat.lt_of_lt_of_le lp g2.size
  refine wpAnyX_one 5 (by kernel_rfl) rfl (fun K hK => ?_)
  go_simp
  go_at_call 228
  refine (HM.out _ (by exact g2) (by exact q2)).mono ?_
  rintro e w3 ⟨rfl, g3, q3, b3, d3⟩
  refine hK.out _ _ (fun _ => ⟨b3, d3⟩) (fun hS0 => ?_)
  replace hS0 := hS0 (by decide)
  clear hK K hS1
  have lp3 : pb < w3.heap.size := Nat.lt_of_lt_of_le lp g3.size
  have ld3 : dd < w3.heap.size := Nat.lt_of_lt_of_le ldl g3.size
  obtain ⟨xs, SS, k1, k2, k3, k4, k5, k6⟩ := OwnL.keep (R := RFld) keepsFld HO.out g3.size (fun b k1 k2 _ => g3.block b k2 (hne b k1))
  refine wpAnyX_take (v := ?_) 6 rfl (by kernel_rfl) (by kernel_rfl) (by kernel_rfl) (by kernel_rfl) (fun _ _ _ h => h) (Or.inl ⟨by rfl, ?_⟩) (by assumption) ?_
  rotate_left 1
  · intro w hSw
    try dsimp only at hSw
    go_simp
    try with_reducible rfl
  simp only [List.getElem_toArray, List.getElem_cons_succ, List.getElem_cons_zero, Act.put, List.setIfInBounds_toArray, List.set_cons_zero, List.set_cons_succ]
  refine wpAnyX_one 7 (by kernel_rfl) rfl (fun K hK => ?_)
  go_simp
  refine hK.out _ _ (fun _ => ⟨by go_keep, by go_keep⟩) (fun hS1 => ?_)
  replace hS1 := hS1 (by decide)
  clear hK K hS0
  refine wpAnyX_one 8 (by kernel_rfl) rfl (fun K hK => ?_)
  refine step_append_lies _ (by rfl) _ _ _ (by rfl) B 208 i0 _ 5 72 Tryz.underlying146 hi hz0 hz1 hz2 rfl (by omega) (.slice fa fl.length fc) fl.length xs (by rfl) (k1.alloc _)
           ⟨w3.heap.size, 0, none⟩ 1 1 [.int .i64 n, .string nm, .int .i64 0, .string ⟨#[]⟩, .slice none 0 0] (by rfl) (by rfl) (news_new w3 [.int .i64 n, .string nm, .int .i64 0, .string ⟨#[]⟩, .slice none 0 0] _) (by simp [Value.oneCell'])
           (by omega) (by unfold maxLen; omega) (by omega) (by have := g3.size; simp; omega) (w3.heap.size + 1) (by simp) ?_
  intro g c' w4 hown hg hat hlt
  have D4 := (hD.grown g3 (hne _ ldd)).keep (w' := w4) (by rw [hg.block dd (by simp; omega) (Ne.symm (k5 dd (.inr rfl))), Below.heap_alloc _ _ _ ld3])
  have P4 := (hPB.grown g3 lpb).keep (w' := w4) (by rw [hg.block pb (by simp; omega) (Ne.symm (k5 pb (.inl rfl))), Below.heap_alloc _ _ _ lp3])
  have d4 := D4.lt
  have z4 := D4.free 2
  have y4 := D4.cell 2
  have y5 := P4.cell 0
  simp at y4 y5
  refine hK.out _ _ (fun _ => ⟨y5, y4⟩) (fun hS0 => ?_)
  replace hS0 := hS0 (by decide)
  clear hK K hS1
  refine wpAnyX_take (v := ?_) 9 rfl (by kernel_rfl) (by kernel_rfl) (by kernel_rfl) (by kernel_rfl) (fun _ _ _ h => h) (Or.inl ⟨by rfl, ?_⟩) (by assumption) ?_
  rotate_left 1
  · intro w hSw
    try dsimp only at hSw
    go_simp
    try with_reducible rfl
  simp only [List.getElem_toArray, List.getElem_cons_succ, List.getElem_cons_zero, Act.put, List.setIfInBounds_toArray, List.set_cons_zero, List.set_cons_succ]
  refine wpAnyX_one 10 (by kernel_rfl) rfl (fun K hK => ?_)
  go_simp
  refine hK.out _ _ (fun h => absurd h (by omega)) (fun hS1 => ?_)
  clear hK K hS0
  refine wpAnyX_done (by kernel_rfl) ?_ _
  go_end0
  refine ⟨rfl, ?_⟩
  refine DAt.snoc (x := (⟨n, nm, noTy⟩ : Fld)) (SS := SS) (S1 := fun _ => False) (w3 := w3) keepsFld RFld.len (fun _ _ => rfl) (Frm.but g3 lB) q3 (hPB.grown g3 lpb) (hD.grown g3 (hne _ ldd)) lpb ldd hpd lbp hlS (Nat.le_trans lB g3.size) k1 k2 k3 k4 k5 k6 ?_ (fun _ h => h.elim) (fun _ h => h.elim) (fun _ h => h.elim) hown hg hat
  exact ⟨none, 0, rfl, ok1, by show nm.size ≤ _; omega, RTy.intro (t := noTy) (by unfold i64ok; decide) (by decide) (.inl ⟨rfl, rfl, rfl⟩)⟩
end Go.Proofs.YtfoihafhpmbaeaaGreatDoor

/- The parser takes a service's method. -/
namespace Go.Proofs.YtfoihafhpmbaeaaGreatDoor
open Go.RowKit

theorem info_mth : (Tryz.prog.info? 76).map (fun i => (i.zero, i.size, i.bytes)) = some (some (.agg #[.int .i64 0, .string ⟨#[]⟩, .string ⟨#[]⟩, .string ⟨#[]⟩, .bool false]), 5, 64) := by kernel_rfl

set_option maxHeartbeats 1000000 in
theorem mthRow_calls {S : Blocks} {bp : Nat} {a : Option Addr} {cap : Nat} {toks : List Tok} {B pb dd : Nat} {p : PS} {kind : Int} {name : ByteArray} {fl : List Mth} {pos : Int} {w : World}
    (h : DAt RMth' 76 (mkM kind name pos) S bp a cap toks B pb dd p fl w) (hn : fl.length ≤ 100) :
    Calls Tryz.prog 233 #[.pointer (some ⟨dd, 0, none⟩), .pointer (some ⟨pb, 0, none⟩)] w (RowPost RMth' 76 (mkM kind name pos) S bp a cap toks B pb dd (p.method toks) fl w) := by
  have b0 := h.pbk.cell 0
  simp at b0
  have lp := h.pbk.lt
  have lB := h.lB
  have lbp := h.lbp
  have ldd := h.ldd
  have lpb := h.lpb
  have hU : Under S w := h.pat.und
  have hlw := h.pat.blk.lt
  have hm := method_calls h.pat
  obtain ⟨m, p1, e0⟩ : ∃ m p1, p.method toks = (m, p1) := ⟨_, _, rfl⟩
  rw [e0] at hm ⊢
  obtain ⟨fa, fc, hD, hO⟩ := h.fld
  have hne : ∀ b, B ≤ b → some b ≠ some bp := fun b k e => by injection e with e; omega
  have HN : Hid (∀ W, W = w.drew → Calls Tryz.prog 234 #[.pointer (some ⟨bp, 0, none⟩)] W fun e W' => e = .returned (.agg #[.int .i64 m.tag, .string m.name, .string m.inn, .string m.out, .bool m.oneWay]) ∧ RMth m [.int .i64 m.tag, .string m.name, .string m.inn, .string m.out, .bool m.oneWay] ∧ But bp w W' ∧ PAt S bp a cap toks p1 W' ∧
      W'.cell? ⟨pb, 0, none⟩ = some (.pointer (some ⟨bp, 0, none⟩)) ∧ W'.cell? ⟨dd, 3, none⟩ = some (.slice fa fl.length fc)) := fun W hW => by
    subst hW
    have g0 : But bp w w.drew := (But.refl _ _).drew
    have hd := method_calls (h.pat.below (Below.refl _ _).drew)
    rw [e0] at hd
    refine hd.mono ?_
    rintro e W' ⟨rfl, r, q', g'⟩
    exact ⟨rfl, r, g0.trans g', q', (by have := (h.pbk.grown (g0.trans g') lpb).cell 0; simpa using this), (by have := (hD.grown (g0.trans g') (hne _ ldd)).cell 3; simpa using this)⟩
  have hd2 := hD.cell 3
  simp at hd2
  have hlS := h.lS
  have hpd := h.ne
  have hPB := h.pbk
  have ldl := hD.lt
  have HO := Lib.hid hO
  obtain ⟨i0, hi, hz0, hz1, hz2⟩ := info_parts info_mth
  clear h e0 hm hO
  go_enter Tryz.func233, Tryz.ntmps233
  go_wp2_with fail
  refine wp_region_X (fun W => W.cell? ⟨pb, 0, none⟩ = some (.pointer (some ⟨bp, 0, none⟩)) ∧ W.cell? ⟨dd, 3, none⟩ = some (.slice fa fl.length fc)) 7 (by kernel_rfl) ⟨by go_keep, by go_keep⟩ (fun hS0 => ?_)
  refine wpAnyX_take (v := ?_) 0 rfl (by kernel_rfl) (by kernel_rfl) (by kernel_rfl) (by kernel_rfl) (fun _ _ _ h => h) (Or.inl ⟨by rfl, ?_⟩) (by assumption) ?_
  rotate_left 1
  · intro w hSw
    try dsimp only at hSw
    go_simp
    try with_reducible rfl
  simp only [List.getElem_toArray, List.getElem_cons_zero, Act.put, List.setIfInBounds_toArray, List.set_cons_zero, List.set_cons_succ]
  refine wpAnyX_take (v := ?_) 1 rfl (by kernel_rfl) (by kernel_rfl) (by kernel_rfl) (by kernel_rfl) (fun _ _ _ h => h) (Or.inl ⟨by rfl, ?_⟩) (by assumption) ?_
  rotate_left 1
  · intro w hSw
    try dsimp only at hSw
    go_simp
    try with_reducible rfl
  simp only [List.getElem_toArray, List.getElem_cons_succ, List.getElem_cons_zero, Act.put, List.setIfInBounds_toArray, List.set_cons_zero, List.set_cons_succ]
  refine wpAnyX_take (v := ?_) 2 rfl (by kernel_rfl) (by kernel_rfl) (by kernel_rfl) (by kernel_rfl) (fun _ _ _ h => h) (Or.inl ⟨by rfl, ?_⟩) (by assumption) ?_
  rotate_left 1
  · intro w hSw
    try dsimp only at hSw
    go_simp
    try with_reducible rfl
  simp only [List.getElem_toArray, List.getElem_cons_succ, List.getElem_cons_zero, Act.put, List.setIfInBounds_toArray, List.set_cons_zero, List.set_cons_succ]
  refine wpAnyX_one 3 (by kernel_rfl) rfl (fun K hK => ?_)
  go_simp
  go_at_call 234
  refine (HN.out _ rfl).mono ?_
  rintro e w3 ⟨rfl, rm, g3, q3, b3, d3⟩
  refine hK.out _ _ (fun _ => ⟨b3, d3⟩) (fun hS1 => ?_)
  replace hS1 := hS1 (by decide)
  clear hK K hS0
  have lp3 : pb < w3.heap.size := Nat.lt_of_lt_of_le lp g3.size
  have ld3 : dd < w3.heap.size := Nat.lt_of_lt_of_le ldl g3.size
  obtain ⟨xs, SS, k1, k2, k3, k4, k5, k6⟩ := OwnL.keep (R := RMth') keepsMth HO.out g3.size (fun b k1 k2 _ => g3.block b k2 (hne b k1))
  refine wpAnyX_one 4 (by kernel_rfl) rfl (fun K hK => ?_)
  go_simp
  refine hK.out _ _ (fun _ => ⟨by go_keep, by go_keep⟩) (fun hS0 => ?_)
  replace hS0 := hS0 (by decide)
  clear hK K hS1
  refine wpAnyX_one 5 (by kernel_rfl) rfl (fun K hK => ?_)
  refine step_append_lies _ (by rfl) _ _ _ (by rfl) B 76 i0 _ 5 64 Tryz.underlying147 hi hz0 hz1 hz2 rfl (by omega) (.slice fa fl.length fc) fl.length xs (by rfl) (k1.alloc _)
           ⟨w3.heap.size, 0, none⟩ 1 1 [.int .i64 m.tag, .string m.name, .string m.inn, .string m.out, .bool m.oneWay] (by rfl) (by rfl) (news_new w3 [.int .i64 m.tag, .string m.name, .string m.inn, .string m.out, .bool m.oneWay] _) (by simp [Value.oneCell'])
           (by omega) (by unfold maxLen; omega) (by omega) (by have := g3.size; simp; omega) (w3.heap.size + 1) (by simp) ?_
  intro g c' w4 hown hg hat hlt
  have D4 := (hD.grown g3 (hne _ ldd)).keep (w' := w4) (by rw [hg.block dd (by simp; omega) (Ne.symm (k5 dd (.inr rfl))), Below.heap_alloc _ _ _ ld3])
  have P4 := (hPB.grown g3 lpb).keep (w' := w4) (by rw [hg.block pb (by simp; omega) (Ne.symm (k5 pb (.inl rfl))), Below.heap_alloc _ _ _ lp3])
  have d4 := D4.lt
  have z4 := D4.free 3
  have y4 := D4.cell 3
  have y5 := P4.cell 0
  simp at y4 y5
  refine hK.out _ _ (fun _ => ⟨y5, y4⟩) (fun hS1 => ?_)
  replace hS1 := hS1 (by decide)
  clear hK K hS0
  refine wpAnyX_take (v := ?_) 6 rfl (by kernel_rfl) (by kernel_rfl) (by kernel_rfl) (by kernel_rfl) (fun _ _ _ h => h) (Or.inl ⟨by rfl, ?_⟩) (by assumption) ?_
  rotate_left 1
  · intro w hSw
    try dsimp only at hSw
    go_simp
    try with_reducible rfl
  simp only [List.getElem_toArray, List.getElem_cons_succ, List.getElem_cons_zero, Act.put, List.setIfInBounds_toArray, List.set_cons_zero, List.set_cons_succ]
  refine wpAnyX_one 7 (by kernel_rfl) rfl (fun K hK => ?_)
  go_simp
  refine hK.out _ _ (fun h => absurd h (by omega)) (fun hS0 => ?_)
  clear hK K hS1
  refine wpAnyX_done (by kernel_rfl) ?_ _
  go_end0
  refine ⟨rfl, ?_⟩
  exact DAt.snoc (x := m) (SS := SS) (S1 := fun _ => False) (w3 := w3) keepsMth (fun h => by rw [h.1]; rfl) (fun _ _ => rfl) (Frm.but g3 lB) q3 (hPB.grown g3 lpb) (hD.grown g3 (hne _ ldd)) lpb ldd hpd lbp hlS (Nat.le_trans lB g3.size) k1 k2 k3 k4 k5 k6 rm (fun _ h => h.elim) (fun _ h => h.elim) (fun _ h => h.elim) hown hg hat
end Go.Proofs.YtfoihafhpmbaeaaGreatDoor

/- The parser takes rows. -/
namespace Go.Proofs.YtfoihafhpmbaeaaGreatDoor
open Go.RowKit

def sClose : ByteArray := ⟨#[125]⟩
def sSemi : ByteArray := ⟨#[59]⟩
def longAt (toks : List Tok) (n : Nat) (p : PS) : Bool := n == 16 && (p.now toks).kind != 4
/-- rows, one behind the other -/
def rowsF {α : Type} (row : PS → α × PS) (toks : List Tok) : Nat → Nat → PS → List α → List α × PS
  | 0, _, p, l => (l, p)
  | f + 1, n, p, l =>
    if p.err = 0 then
      if mayB toks p sClose then (l, p.step)
      else if longAt toks n p then rowsF row toks f (n + 1) (p.fail toks 3) l
      else rowsF row toks f (n + 1) ((row p).2.need toks sSemi) (l ++ [(row p).1])
    else (l, p)

theorem rowsF_bad {α : Type} {row : PS → α × PS} {toks : List Tok} {f n : Nat} {p : PS} {l : List α} (h : p.err ≠ 0) : rowsF row toks f n p l = (l, p) := by
  cases f
  · rfl
  · simp only [rowsF, if_neg h]

theorem tok_field0 (a c d : Int) (b : ByteArray) (W : World) : (Instr.field 320 (.agg #[.int .i64 a, .string b, .int .i64 c, .int .i64 d]) 0).run Tryz.prog W = .ok (.int .i64 a) W := by kernel_rfl
set_option maxHeartbeats 2000000 in
theorem rows_calls {α : Type} {R : Blocks → World → α → List Value → Prop} (hR : Keeps R) {T : TypeId} {mk : Value → List Value} {S : Blocks} {bp : Nat} {a : Option Addr} {cap : Nat} {toks : List Tok} {B pb dd : Nat} {p0 : PS} {w : World}
    (row : PS → α × PS) (kf : Nat) (c0 c1 : Value) (hkf : kf = 226 ∨ kf = 232 ∨ kf = 233)
    (HR : ∀ p l W, DAt R T mk S bp a cap toks B pb dd p l W → l.length ≤ 100 → Calls Tryz.prog kf #[c0, c1] W (RowPost R T mk S bp a cap toks B pb dd (row p) l W))
    (HE : ∀ p, p.at_ < toks.length → p.err = 0 → (p.now toks).kind = 4 → ((row p).2.need toks sSemi).err ≠ 0)
    (h : DAt R T mk S bp a cap toks B pb dd p0 [] w) :
    Calls Tryz.prog 235 #[.pointer (some ⟨bp, 0, none⟩), .func (.func kf) #[] #[c0, c1]] w fun e w' => e = .returned (.tuple #[]) ∧
      DAt R T mk S bp a cap toks B pb dd (rowsF row toks 18 0 (p0.need toks ⟨#[123]⟩) []).2 (rowsF row toks 18 0 (p0.need toks ⟨#[123]⟩) []).1 w' ∧ Frm B bp w w' := by
  have hB0 := h.lB
  have HN := need_calls ⟨#[123]⟩ (by decide +kernel) h.pat
  generalize PS.need toks p0 ⟨#[123]⟩ = p1 at *
  go_enter Tryz.func235, Tryz.ntmps235
  go_wp2_with fail
  refine HN.mono ?_
  rintro e w1 ⟨rfl, h1, g1⟩
  have D1 := DAt.call (R := R) hR h h1 g1
  have G1 : Frm B bp w w1 := Frm.but g1 hB0
  clear HN
  go_wp2_with fail
  go_loopw [4] (fun s wr => ∃ (n : Nat) (p : PS) (l : List α), s = .int .i64 n ∧ n ≤ 17 ∧ l.length ≤ n ∧ (n = 17 → p.err ≠ 0) ∧ Hid (rowsF row toks 18 0 p1 [] = rowsF row toks (18 - n) n p l) ∧ DAt R T mk S bp a cap toks B pb dd p l wr ∧ Frm B bp w wr) (fun s _ => 17 - (intOf s).toNat)
  case atStart => exact ⟨0, p1, [], rfl, by omega, by simp, (fun h => by cases h), rfl, D1, G1⟩
  case round =>
    obtain ⟨n, p, l, rfl, hn, hl, h17, hH, hD, hG⟩ := hrel
    have hw := well_calls hD.pat
    by_cases he : p.err = 0
    · have hn16 : n ≤ 16 := by
        by_cases e : n = 17
        · exact absurd he (h17 e)
        · omega
      rw [he] at hw
      have hm := may_calls sClose (by decide +kernel) hD.pat
      obtain ⟨f, hf⟩ : ∃ f, 18 - n = f + 1 := ⟨17 - n, by omega⟩
      have hf2 : f = 18 - (n + 1) := by omega
      have Hw : Hid (∀ W, PAt S bp a cap toks p W → Calls Tryz.prog 185 #[.pointer (some ⟨bp, 0, none⟩)] W fun e w' => e = .returned (.bool true) ∧ W = w') := fun W hW => by
        have := well_calls hW
        rw [he] at this
        exact this
      clear hw
      have hP := hD.pat
      have HD := Lib.hid hD
      by_cases ht : mayB toks p sClose = true
      · have E2 : p.may toks sClose = p.step := by unfold PS.may; rw [if_pos ht]
        have HG : Hid (rowsF row toks 18 0 p1 [] = (l, p.step)) := by
          show _ = _
          rw [hH.out, hf, rowsF, if_pos he, if_pos ht]
        rw [ht, E2] at hm
        have HM := Lib.hid hm
        clear hm ht E2 hH HR HE h17 he hD
        go_wp2_with (first
          | (go_at_call 185; refine (Hw.out _ hP).mono ?_; rintro e w2 ⟨rfl, rfl⟩)
          | (go_at_call 231; refine HM.out.mono ?_; rintro e w3 ⟨rfl, h3, g3⟩))
        go_end0
        rw [HG.out]
        exact ⟨rfl, DAt.call (R := R) hR HD.out h3 g3, hG.trans (Frm.but g3 HD.out.lB)⟩
      · have hm0 : mayB toks p sClose = false := by simpa using ht
        have E2 : p.may toks sClose = p := by unfold PS.may; rw [if_neg ht]
        rw [hm0, E2] at hm
        have HM := Lib.hid hm
        have hRow : Hid (rowsF row toks 18 0 p1 [] = if longAt toks n p then rowsF row toks f (n + 1) (p.fail toks 3) l else rowsF row toks f (n + 1) ((row p).2.need toks sSemi) (l ++ [(row p).1])) := by
          show _ = _
          rw [hH.out, hf, rowsF, if_pos he, if_neg ht]
        clear hm ht E2 hH hm0 h17 hD
        by_cases h16 : n = 16
        · subst h16
          by_cases hk : (p.now toks).kind = 4
          · have hL : longAt toks 16 p = false := by simp [longAt, hk]
            have HG : Hid (rowsF row toks 18 0 p1 [] = rowsF row toks (18 - (16 + 1)) (16 + 1) ((row p).2.need toks sSemi) (l ++ [(row p).1])) := by
              show _ = _
              rw [hRow.out, hL, hf2]; rfl
            have hbad := HE p hP.inb he hk
            have HR2 := Lib.hid (HR p l)
            have hk1 : ((p.now toks).kind != 4) = false := by simp [hk]
            have hN : Hid (∀ W, PAt S bp a cap toks p W → Calls Tryz.prog 186 #[.pointer (some ⟨bp, 0, none⟩)] W fun e w' => e = .returned (.agg #[.int .i64 (p.now toks).kind, .string (p.now toks).text, .int .i64 (p.now toks).num, .int .i64 (p.now toks).pos]) ∧ Below W.heap.size W w') := fun W hW => now_calls hW
            generalize p.now toks = t at *
            have hk2 : (t.kind == 4) = true := by simp [hk]
            have hfl := fun W => tok_field0 t.kind t.num t.pos t.text W
            clear hRow hL hk HE HR he hf hf2
            go_upto_region 7 with (first
              | (go_at_call 185; first | (refine (Hw.out _ (h3.below g4)).mono ?_; rintro e w2 ⟨rfl, rfl⟩) | (refine (Hw.out _ hP).mono ?_; rintro e w2 ⟨rfl, rfl⟩))
              | (go_at_call 231; refine HM.out.mono ?_; rintro e w3 ⟨rfl, h3, g3⟩)
              | (go_at_call 186; refine (hN.out _ h3).mono ?_; rintro e w4 ⟨rfl, g4⟩))
            rcases hkf with rfl | rfl | rfl
            all_goals
              go_wp2_with fail
              refine (HR2.out _ (DAt.call (R := R) hR HD.out (h3.below g4) (g3.trans (But.below g4))) (by omega)).mono ?_
              rintro e w5 ⟨rfl, D5, G5⟩
              have HN5 := need_calls sSemi (by decide +kernel) D5.pat
              go_wp2_with fail
              refine HN5.mono ?_
              rintro e w6 ⟨rfl, h6, g6⟩
              go_wp2_with fail
              refine ⟨⟨16 + 1, (row p).2.need toks sSemi, l ++ [(row p).1], rfl, by omega, by simp; omega, fun _ => hbad, HG, DAt.call (R := R) hR D5 h6 g6, (hG.trans (Frm.but (g3.trans (But.below g4)) HD.out.lB)).trans (G5.trans (Frm.but g6 D5.lB))⟩, ?_⟩
              simp [intOf]
          · have hL : longAt toks 16 p = true := by simp [longAt, hk]
            have HG : Hid (rowsF row toks 18 0 p1 [] = rowsF row toks (18 - (16 + 1)) (16 + 1) (p.fail toks 3) l) := by
              show _ = _
              rw [hRow.out, hL, hf2]; rfl
            have hbad := fail_err toks p 3 (by decide)
            have HF : Hid (∀ W, PAt S bp a cap toks p W → Calls Tryz.prog 187 #[.pointer (some ⟨bp, 0, none⟩), .int .i64 3] W (PPost S bp a cap toks W (.tuple #[]) (p.fail toks 3))) := fun W hW => fail_calls 3 hW
            have Hw2 : Hid (∀ W, PAt S bp a cap toks (p.fail toks 3) W → Calls Tryz.prog 185 #[.pointer (some ⟨bp, 0, none⟩)] W fun e w' => e = .returned (.bool false) ∧ W = w') := fun W hW => by
              have := well_calls hW
              rw [beq_eq_false_iff_ne.2 hbad] at this
              exact this
            have hN : Hid (∀ W, PAt S bp a cap toks p W → Calls Tryz.prog 186 #[.pointer (some ⟨bp, 0, none⟩)] W fun e w' => e = .returned (.agg #[.int .i64 (p.now toks).kind, .string (p.now toks).text, .int .i64 (p.now toks).num, .int .i64 (p.now toks).pos]) ∧ Below W.heap.size W w') := fun W hW => now_calls hW
            generalize p.now toks = t at *
            have hk1 : (t.kind != 4) = true := by simp [hk]
            have hk2 : (t.kind == 4) = false := by simp [hk]
            have hfl := fun W => tok_field0 t.kind t.num t.pos t.text W
            clear hRow hL hk HE HR he hf hf2
            go_wp2_with (first
              | (go_at_call 185; first | (refine (Hw.out _ hP).mono ?_; rintro e w2 ⟨rfl, rfl⟩) | (refine (Hw2.out _ h5).mono ?_; rintro e w2 ⟨rfl, rfl⟩))
              | (go_at_call 231; refine HM.out.mono ?_; rintro e w3 ⟨rfl, h3, g3⟩)
              | (go_at_call 186; refine (hN.out _ h3).mono ?_; rintro e w4 ⟨rfl, g4⟩)
              | (go_at_call 187; refine (HF.out _ (h3.below g4)).mono ?_; rintro e w5 ⟨rfl, h5, g5⟩))
            refine ⟨⟨16 + 1, p.fail toks 3, l, rfl, by omega, by omega, fun _ => hbad, HG, DAt.call (R := R) hR HD.out h5 ((g3.trans (But.below g4)).trans g5), hG.trans (Frm.but ((g3.trans (But.below g4)).trans g5) HD.out.lB)⟩, ?_⟩
            simp [intOf]
        · have hL : longAt toks n p = false := by simp [longAt, h16]
          have HG : Hid (rowsF row toks 18 0 p1 [] = rowsF row toks (18 - (n + 1)) (n + 1) ((row p).2.need toks sSemi) (l ++ [(row p).1])) := by
            show _ = _
            rw [hRow.out, hL, hf2]; rfl
          have HR2 := Lib.hid (HR p l)
          have hn1 : ((n : Int) == 16) = false := by rw [beq_eq_false_iff_ne]; omega
          clear hRow hL HE HR he hf hf2
          go_upto_region 7 with (first
            | (go_at_call 185; first | (refine (Hw.out _ h3).mono ?_; rintro e w2 ⟨rfl, rfl⟩) | (refine (Hw.out _ hP).mono ?_; rintro e w2 ⟨rfl, rfl⟩))
            | (go_at_call 231; refine HM.out.mono ?_; rintro e w3 ⟨rfl, h3, g3⟩)
            | (go_at_call 186; refine (hN.out _ h3).mono ?_; rintro e w4 ⟨rfl, g4⟩))
          rcases hkf with rfl | rfl | rfl
          all_goals
            go_wp2_with fail
            refine (HR2.out _ (DAt.call (R := R) hR HD.out h3 g3) (by omega)).mono ?_
            rintro e w5 ⟨rfl, D5, G5⟩
            have HN5 := need_calls sSemi (by decide +kernel) D5.pat
            go_wp2_with fail
            refine HN5.mono ?_
            rintro e w6 ⟨rfl, h6, g6⟩
            go_wp2_with fail
            refine ⟨⟨n + 1, (row p).2.need toks sSemi, l ++ [(row p).1], by congr 1, by omega, by simp; omega, (fun h => absurd h (by omega)), HG, DAt.call (R := R) hR D5 h6 g6, (hG.trans (Frm.but g3 HD.out.lB)).trans (G5.trans (Frm.but g6 D5.lB))⟩, ?_⟩
            simp [intOf]
            omega
    · have HG : Hid (rowsF row toks 18 0 p1 [] = (l, p)) := by
        show _ = _
        rw [hH.out, rowsF_bad he]
      rw [beq_eq_false_iff_ne.2 he] at hw
      have HW := Lib.hid hw
      clear hw hH HR HE h17 he
      go_wp2_with (go_at_call 185; refine HW.out.mono ?_; rintro e w2 ⟨rfl, rfl⟩)
      go_end0
      rw [HG.out]
      exact ⟨rfl, hD, hG⟩
end Go.Proofs.YtfoihafhpmbaeaaGreatDoor
