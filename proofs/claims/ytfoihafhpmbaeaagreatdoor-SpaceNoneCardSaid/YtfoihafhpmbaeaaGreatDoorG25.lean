/- A declaration is checked. -/
import Derived.Outline
import Derived.Test.YtfoihafhpmbaeaaGreatDoorG24
namespace Go.Proofs.YtfoihafhpmbaeaaGreatDoor
open Go.RowKit

/-- in a declaration: the box, what stood ahead -/
structure DcIn (w : World) (dc : List Value) (sb mb1 mb2 : Nat) (W : World) : Prop where
  below : Below w.heap.size w W
  box : Blk W w.heap.size dc 149
  seen : SeenAt (w.heap.size + 1) W sb mb1 mb2
theorem DcIn.step {w W W' : World} {dc : List Value} {sb mb1 mb2 : Nat} (h : DcIn w dc sb mb1 mb2 W) (g : Below W.heap.size W W') : DcIn w dc sb mb1 mb2 W' :=
  ⟨h.below.up g h.below.size, h.box.below g h.box.lt, h.seen.below g (Nat.le_refl _)⟩
theorem DcIn.row {w W W' : World} {dc : List Value} {sb mb1 mb2 : Nat} (h : DcIn w dc sb mb1 mb2 W) (s : SeenAt (w.heap.size + 1) W' sb mb1 mb2) (g : Below (w.heap.size + 1) W W') : DcIn w dc sb mb1 mb2 W' :=
  ⟨h.below.trans (g.mono (Nat.le_succ _)), h.box.below g (Nat.lt_succ_self _), s⟩
theorem DcIn.start {w W1 : World} {dc : List Value} (h : Below w.heap.size w W1) (hb : Blk W1 w.heap.size dc 149) :
    DcIn w dc (W1.heap.size + 2) W1.heap.size (W1.heap.size + 1) (((W1.alloc (.map #[] 0)).alloc (.map #[] 0)).alloc (.cells #[.map (some W1.heap.size), .map (some (W1.heap.size + 1))] 402)) := by
  have hl := hb.lt
  have z := h.size
  have e1 : (W1.alloc (.map #[] 0)).heap.size = W1.heap.size + 1 := by simp
  have e2 : ((W1.alloc (.map #[] 0)).alloc (.map #[] 0)).heap.size = W1.heap.size + 2 := by simp
  refine ⟨((h.alloc z _).alloc (by rw [e1]; omega) _).alloc (by rw [e2]; omega) _, ((hb.alloc _).alloc _).alloc _, ⟨by omega, by omega, by omega, by omega, by omega, by omega, ?_, ⟨[], ?_, fun _ h => by simp at h⟩, ⟨[], ?_, fun _ h => by simp at h⟩⟩⟩
  · have := Blk.new ((W1.alloc (.map #[] 0)).alloc (.map #[] 0)) [.map (some W1.heap.size), .map (some (W1.heap.size + 1))] 402
    rw [e2] at this
    exact this
  · exact ((MapIs.made (Value.int .i64) W1).keep (Below.heap_alloc _ _ _ (by rw [e1]; omega))).keep (Below.heap_alloc _ _ _ (by rw [e2]; omega))
  · have := MapIs.made Value.string (W1.alloc (.map #[] 0))
    rw [e1] at this
    exact this.keep (Below.heap_alloc _ _ _ (by rw [e2]; omega))

set_option maxHeartbeats 2000000 in
theorem decl_wk {S0 : Blocks} {l : List Dcl} {cb : Nat} {w : World} (hC : RChk S0 w l cb) (hU0 : Under S0 w) (i : Nat) (hi : i < l.length) :
    Calls Tryz.prog 236 #[.pointer (some ⟨cb, 0, none⟩), .int .i64 i] w (WkI w) := by
  have HChk := Lib.hid hC
  obtain ⟨hcb, la, lc, tb, hCB, hL, hT⟩ := hC
  have c0 := hCB.cell 0
  have c1 := hCB.cell 1
  have hcl := hCB.lt
  simp at c0 c1
  obtain ⟨hlc, hll⟩ := hL.le
  obtain ⟨b, off, cs, rfl, hSb, _, hcs0, hrd0⟩ := RSl.at hL hi
  obtain ⟨efa, efc, ema, emc, rfl, ek, en, ef, em, ep⟩ := id hrd0
  obtain ⟨g0, g1, g2, g3, g4⟩ := cells5 (hcs0.keep ((fun b _ => rfl : Same S0 w w) _ hSb))
  have hrd := hrd0.keep ((fun b _ => rfl : Same S0 w w)) (Sub.refl _)
  obtain ⟨hfc, hfl⟩ := ef.le
  obtain ⟨hmc, hml⟩ := em.le
  have HF : Hid (∀ W nm, Below w.heap.size w W → Calls Tryz.prog 196 #[.pointer (some ⟨tb, 0, none⟩), .string nm] W fun e w' => e = .returned (.tuple #[.int .i64 (findI l nm), .bool (hasD l nm)]) ∧ W = w') := fun W nm g => Find_calls (hT.keep (hU0.same g) (Sub.refl _)) nm
  have HC : Hid (∀ W, Below w.heap.size w W → W.cell? ⟨cb, 1, none⟩ = some (.pointer (some ⟨tb, 0, none⟩))) := fun W g => by
    rw [World.cell?_of_block (g.block cb hcl)]; exact c1
  have HEF := Lib.hid ef
  have HEM := Lib.hid em
  have hil : (i : Int) < l.length := by omega
  have hmm := @run_makeMap Tryz.prog
  clear ef em hrd hrd0 hcs0 hT hL hCB ek en ep
  generalize l[i] = d at *
  generalize hft : (d.fields.length : Nat) = nf at *
  generalize hmt : (d.methods.length : Nat) = nm at *
  generalize d.kind = dk at *
  generalize d.name = dn at *
  generalize d.pos = dp at *
  have HFx := Lib.hid (fun W g => HF.out W dn g)
  generalize findI l dn = fi at *
  generalize hasD l dn = hd at *
  have Hft := Lib.hid hft
  have Hmt := Lib.hid hmt
  clear hft hmt
  by_cases hne : fi = i
  · have n1 : (fi != (i : Int)) = false := by rw [bne_eq_false_iff_eq]; exact hne
    clear hne
    go_enter Tryz.func236, Tryz.ntmps236
    go_upto_region 2 with fail
    refine abs_wp (fun W => Below w.heap.size w W ∧ Blk W w.heap.size [.int .i64 dk, .string dn, .slice efa nf efc, .slice ema nm emc, .int .i64 dp] 149) ?_ ?_
    · exact ⟨(Below.refl _ _).alloc (Nat.le_refl _) _, Blk.new w _ _⟩
    rintro W1 ⟨hB1, hX1⟩
    have x1 := hX1.cell 1
    simp at x1
    have q1 := HC.out _ hB1
    go_quiet ((go_at_call 196; exact Calls.quiet_eq (HFx.out _ (hB1.dN _))))
    go_upto_region 6 with fail
    refine abs_wp (fun W => Below w.heap.size w W ∧ Blk W w.heap.size [.int .i64 dk, .string dn, .slice efa nf efc, .slice ema nm emc, .int .i64 dp] 149) ?_ ?_
    · exact ⟨hB1.dN _, hX1.keep rfl⟩
    clear x1 q1 hB1 hX1 c0 c1 g0 g1 g2 g3 g4
    rintro W1 ⟨hB1, hX1⟩
    have x0 := hX1.cell 0
    have x2 := hX1.cell 2
    have x3 := hX1.cell 3
    have xl := hX1.lt
    simp at x0 x2 x3
    by_cases hk : dk = 1 ∨ dk = 2 ∨ dk = 3 ∨ dk = 4
    · rcases hk with rfl | rfl | rfl | rfl
      · go_upto_region 14 with fail
        refine abs_wp (fun W => ∃ sb mb1 mb2, DcIn w [.int .i64 1, .string dn, .slice efa nf efc, .slice ema nm emc, .int .i64 dp] sb mb1 mb2 W ∧ sb = W1.heap.size + 1 + 1) ?_ ?_
        · exact ⟨_, _, _, DcIn.start hB1 hX1, rfl⟩
        clear x0 x2 x3 xl hX1 hB1
        rintro W2 ⟨sb, mb1, mb2, hD, hsb⟩
        rw [← hsb]
        clear hsb HC HFx HF hmm
        have y2 := hD.box.cell 2
        have yl := hD.box.lt
        simp at y2
        go_wp2_with fail
        clear y2 yl
        go_loopw [54] (fun i wr => ∃ k : Nat, k ≤ nf ∧ i = .int .i64 k ∧ DcIn w [.int .i64 1, .string dn, .slice efa nf efc, .slice ema nm emc, .int .i64 dp] sb mb1 mb2 wr) (fun i _ => nf - (intOf i).toNat)
        case atStart => exact ⟨0, by omega, rfl, hD⟩
        case round =>
          obtain ⟨k, hk, rfl, hDr⟩ := hrel
          clear hD
          by_cases hlt : k < nf
          · have hkf : k < d.fields.length := by have := Hft.out; omega
            obtain ⟨fb, foff, fcs, hfa, hSf, _, fcs0, frd⟩ := RSl.at HEF.out hkf
            subst hfa
            obtain ⟨foa, foc, rfl, fk, fn, fo⟩ := id frd
            obtain ⟨h0, h1, h2, h3, h4⟩ := cells5 (fcs0.keep (hU0.same hDr.below _ hSf))
            have hD1 := hDr.step ((Below.refl _ _).alloc (Nat.le_refl _) (.cells #[.int .i64 d.fields[k].tag, .string d.fields[k].name, .int .i64 d.fields[k].type.kind, .string d.fields[k].type.name, .slice foa d.fields[k].type.of.length foc] 208))
            have FB := Blk.new wr [.int .i64 d.fields[k].tag, .string d.fields[k].name, .int .i64 d.fields[k].type.kind, .string d.fields[k].type.name, .slice foa d.fields[k].type.of.length foc] 208
            have nm1 : wr.heap.size ≠ mb1 := by obtain ⟨_, t, _⟩ := hDr.seen.tags; have := t.lt; omega
            have nm2 : wr.heap.size ≠ mb2 := by obtain ⟨_, t, _⟩ := hDr.seen.names; have := t.lt; omega
            have HFrd := Lib.hid frd
            have zr := hDr.below.size
            clear fcs0 frd fo
            generalize d.fields[k] = f at *
            generalize f.type.of.length = ftl at *
            go_wp2_with fail
            clear h0 h1 h2 h3 h4
            refine (row_wk hD1.seen _ _ _ _).mono ?_
            rintro e w2 ⟨n, rfl, hn0, hn1, hS2, hB2, hX2⟩
            have hD2 := hD1.row hS2 hB2
            have FB2 := FB.keep (hX2 _ (by simp) nm1 nm2)
            clear hX2 hS2 hB2 FB nm1 nm2 hD1
            have u0 := FB2.cell 0
            have u1 := FB2.cell 1
            have u2 := FB2.cell 2
            have u3 := FB2.cell 3
            have u4 := FB2.cell 4
            have v0 := hD2.box.cell 0
            have v1 := hD2.box.cell 1
            have v2 := hD2.box.cell 2
            have v3 := hD2.box.cell 3
            have v4 := hD2.box.cell 4
            simp at u0 u1 u2 u3 u4 v0 v1 v2 v3 v4
            by_cases hn : n = 0
            · subst hn
              clear hn0 hn1
              go_wp2_with fail
              clear u0 u1 u2 u3 u4 v0 v1 v2 v3 v4
              refine (field_wk (HChk.out.keep (hU0.same hD2.below)) (hU0.below hD2.below) f _ (HFrd.out.keep (hU0.same hD2.below) (Sub.refl _)) (hU0.below hD2.below) _ _ _ _ _).mono ?_
              rintro e w3 ⟨n2, rfl, hn0, hn1, hB3⟩
              have hD3 := hD2.step hB3
              by_cases hn : n2 = 0
              · subst hn
                go_wp2_with fail
                go_roundw
                case rel => exact ⟨k + 1, by omega, by go_num, hD3⟩
                case measure => simp [intOf]; omega
              · have hn2 : (n2 != 0) = true := by rw [bne_iff_ne]; exact hn
                clear hn
                go_wp2_with fail
                go_ret
                exact WkI.mk n2 rfl hn0 hn1 hD3.below
            · have hn2 : (n != 0) = true := by rw [bne_iff_ne]; exact hn
              clear hn
              go_wp2_with fail
              go_ret
              exact WkI.mk n rfl hn0 hn1 hD2.below
          · have y3 := hDr.box.cell 3
            have yl := hDr.box.lt
            simp at y3
            go_wp2_with fail
            clear y3 yl hlt
            go_loopw [80] (fun i wr => ∃ k : Nat, k ≤ nm ∧ i = .int .i64 k ∧ DcIn w [.int .i64 1, .string dn, .slice efa nf efc, .slice ema nm emc, .int .i64 dp] sb mb1 mb2 wr) (fun i _ => nm - (intOf i).toNat)
            case atStart => exact ⟨0, by omega, rfl, hDr⟩
            case round =>
              obtain ⟨k, hk, rfl, hDr⟩ := hrel
              by_cases hlt : k < nm
              · have hkf : k < d.methods.length := by have := Hmt.out; omega
                obtain ⟨fb, foff, fcs, hfa, hSf, _, fcs0, frd⟩ := RSl.at HEM.out hkf
                subst hfa
                obtain ⟨rfl, ek, en, ein, eout⟩ := id frd
                obtain ⟨h0, h1, h2, h3, h4⟩ := cells5 (fcs0.keep (hU0.same hDr.below _ hSf))
                have hD1 := hDr.step ((Below.refl _ _).alloc (Nat.le_refl _) (.cells #[.int .i64 d.methods[k].tag, .string d.methods[k].name, .string d.methods[k].inn, .string d.methods[k].out, .bool d.methods[k].oneWay] 76))
                have FB := Blk.new wr [.int .i64 d.methods[k].tag, .string d.methods[k].name, .string d.methods[k].inn, .string d.methods[k].out, .bool d.methods[k].oneWay] 76
                have nm1 : wr.heap.size ≠ mb1 := by obtain ⟨_, t, _⟩ := hDr.seen.tags; have := t.lt; omega
                have nm2 : wr.heap.size ≠ mb2 := by obtain ⟨_, t, _⟩ := hDr.seen.names; have := t.lt; omega
                have zr := hDr.below.size
                clear fcs0 frd ek en ein eout
                generalize d.methods[k] = f at *
                go_wp2_with fail
                clear h0 h1 h2 h3 h4
                refine (row_wk hD1.seen _ _ _ _).mono ?_
                rintro e w2 ⟨n, rfl, hn0, hn1, hS2, hB2, hX2⟩
                have hD2 := hD1.row hS2 hB2
                have FB2 := FB.keep (hX2 _ (by simp) nm1 nm2)
                clear hX2 hS2 hB2 FB nm1 nm2 hD1
                have u0 := FB2.cell 0
                have u1 := FB2.cell 1
                have u2 := FB2.cell 2
                have u3 := FB2.cell 3
                have u4 := FB2.cell 4
                simp at u0 u1 u2 u3 u4
                by_cases hn : n = 0
                · subst hn
                  clear hn0 hn1
                  go_wp2_with fail
                  clear u0 u1 u2 u3 u4
                  refine (method_wk (HChk.out.keep (hU0.same hD2.below)) (hU0.below hD2.below) _ _ _ _ _).mono ?_
                  rintro e w3 ⟨n2, rfl, hn0, hn1, hB3⟩
                  have hD3 := hD2.step hB3
                  by_cases hn : n2 = 0
                  · subst hn
                    go_wp2_with fail
                    go_roundw
                    case rel => exact ⟨k + 1, by omega, by go_num, hD3⟩
                    case measure => simp [intOf]; omega
                  · have hn2 : (n2 != 0) = true := by rw [bne_iff_ne]; exact hn
                    clear hn
                    go_wp2_with fail
                    go_ret
                    exact WkI.mk n2 rfl hn0 hn1 hD3.below
                · have hn2 : (n != 0) = true := by rw [bne_iff_ne]; exact hn
                  clear hn
                  go_wp2_with fail
                  go_ret
                  exact WkI.mk n rfl hn0 hn1 hD2.below
              · have y0 := hDr.box.cell 0
                have y2 := hDr.box.cell 2
                have yl := hDr.box.lt
                simp at y0 y2
                by_cases hf0 : nf = 0
                · subst hf0
                  go_wp2_with fail
                  go_ret
                  first
                    | exact WkI.mk 12 rfl (by decide) (by decide) hDr.below
                    | exact WkI.mk 0 rfl (by decide) (by decide) hDr.below
                · have f0 : ((nf : Int) == 0) = false := by rw [beq_eq_false_iff_ne]; omega
                  go_wp2_with fail
                  go_ret
                  exact WkI.mk 0 rfl (by decide) (by decide) hDr.below
      · go_upto_region 14 with fail
        refine abs_wp (fun W => ∃ sb mb1 mb2, DcIn w [.int .i64 2, .string dn, .slice efa nf efc, .slice ema nm emc, .int .i64 dp] sb mb1 mb2 W ∧ sb = W1.heap.size + 1 + 1) ?_ ?_
        · exact ⟨_, _, _, DcIn.start hB1 hX1, rfl⟩
        clear x0 x2 x3 xl hX1 hB1
        rintro W2 ⟨sb, mb1, mb2, hD, hsb⟩
        rw [← hsb]
        clear hsb HC HFx HF hmm
        have y2 := hD.box.cell 2
        have yl := hD.box.lt
        simp at y2
        go_wp2_with fail
        clear y2 yl
        go_loopw [54] (fun i wr => ∃ k : Nat, k ≤ nf ∧ i = .int .i64 k ∧ DcIn w [.int .i64 2, .string dn, .slice efa nf efc, .slice ema nm emc, .int .i64 dp] sb mb1 mb2 wr) (fun i _ => nf - (intOf i).toNat)
        case atStart => exact ⟨0, by omega, rfl, hD⟩
        case round =>
          obtain ⟨k, hk, rfl, hDr⟩ := hrel
          clear hD
          by_cases hlt : k < nf
          · have hkf : k < d.fields.length := by have := Hft.out; omega
            obtain ⟨fb, foff, fcs, hfa, hSf, _, fcs0, frd⟩ := RSl.at HEF.out hkf
            subst hfa
            obtain ⟨foa, foc, rfl, fk, fn, fo⟩ := id frd
            obtain ⟨h0, h1, h2, h3, h4⟩ := cells5 (fcs0.keep (hU0.same hDr.below _ hSf))
            have hD1 := hDr.step ((Below.refl _ _).alloc (Nat.le_refl _) (.cells #[.int .i64 d.fields[k].tag, .string d.fields[k].name, .int .i64 d.fields[k].type.kind, .string d.fields[k].type.name, .slice foa d.fields[k].type.of.length foc] 208))
            have FB := Blk.new wr [.int .i64 d.fields[k].tag, .string d.fields[k].name, .int .i64 d.fields[k].type.kind, .string d.fields[k].type.name, .slice foa d.fields[k].type.of.length foc] 208
            have nm1 : wr.heap.size ≠ mb1 := by obtain ⟨_, t, _⟩ := hDr.seen.tags; have := t.lt; omega
            have nm2 : wr.heap.size ≠ mb2 := by obtain ⟨_, t, _⟩ := hDr.seen.names; have := t.lt; omega
            have HFrd := Lib.hid frd
            have zr := hDr.below.size
            clear fcs0 frd fo
            generalize d.fields[k] = f at *
            generalize f.type.of.length = ftl at *
            go_wp2_with fail
            clear h0 h1 h2 h3 h4
            refine (row_wk hD1.seen _ _ _ _).mono ?_
            rintro e w2 ⟨n, rfl, hn0, hn1, hS2, hB2, hX2⟩
            have hD2 := hD1.row hS2 hB2
            have FB2 := FB.keep (hX2 _ (by simp) nm1 nm2)
            clear hX2 hS2 hB2 FB nm1 nm2 hD1
            have u0 := FB2.cell 0
            have u1 := FB2.cell 1
            have u2 := FB2.cell 2
            have u3 := FB2.cell 3
            have u4 := FB2.cell 4
            have v0 := hD2.box.cell 0
            have v1 := hD2.box.cell 1
            have v2 := hD2.box.cell 2
            have v3 := hD2.box.cell 3
            have v4 := hD2.box.cell 4
            simp at u0 u1 u2 u3 u4 v0 v1 v2 v3 v4
            by_cases hn : n = 0
            · subst hn
              clear hn0 hn1
              go_wp2_with fail
              clear u0 u1 u2 u3 u4 v0 v1 v2 v3 v4
              refine (field_wk (HChk.out.keep (hU0.same hD2.below)) (hU0.below hD2.below) f _ (HFrd.out.keep (hU0.same hD2.below) (Sub.refl _)) (hU0.below hD2.below) _ _ _ _ _).mono ?_
              rintro e w3 ⟨n2, rfl, hn0, hn1, hB3⟩
              have hD3 := hD2.step hB3
              by_cases hn : n2 = 0
              · subst hn
                go_wp2_with fail
                go_roundw
                case rel => exact ⟨k + 1, by omega, by go_num, hD3⟩
                case measure => simp [intOf]; omega
              · have hn2 : (n2 != 0) = true := by rw [bne_iff_ne]; exact hn
                clear hn
                go_wp2_with fail
                go_ret
                exact WkI.mk n2 rfl hn0 hn1 hD3.below
            · have hn2 : (n != 0) = true := by rw [bne_iff_ne]; exact hn
              clear hn
              go_wp2_with fail
              go_ret
              exact WkI.mk n rfl hn0 hn1 hD2.below
          · have y3 := hDr.box.cell 3
            have yl := hDr.box.lt
            simp at y3
            go_wp2_with fail
            clear y3 yl hlt
            go_loopw [80] (fun i wr => ∃ k : Nat, k ≤ nm ∧ i = .int .i64 k ∧ DcIn w [.int .i64 2, .string dn, .slice efa nf efc, .slice ema nm emc, .int .i64 dp] sb mb1 mb2 wr) (fun i _ => nm - (intOf i).toNat)
            case atStart => exact ⟨0, by omega, rfl, hDr⟩
            case round =>
              obtain ⟨k, hk, rfl, hDr⟩ := hrel
              by_cases hlt : k < nm
              · have hkf : k < d.methods.length := by have := Hmt.out; omega
                obtain ⟨fb, foff, fcs, hfa, hSf, _, fcs0, frd⟩ := RSl.at HEM.out hkf
                subst hfa
                obtain ⟨rfl, ek, en, ein, eout⟩ := id frd
                obtain ⟨h0, h1, h2, h3, h4⟩ := cells5 (fcs0.keep (hU0.same hDr.below _ hSf))
                have hD1 := hDr.step ((Below.refl _ _).alloc (Nat.le_refl _) (.cells #[.int .i64 d.methods[k].tag, .string d.methods[k].name, .string d.methods[k].inn, .string d.methods[k].out, .bool d.methods[k].oneWay] 76))
                have FB := Blk.new wr [.int .i64 d.methods[k].tag, .string d.methods[k].name, .string d.methods[k].inn, .string d.methods[k].out, .bool d.methods[k].oneWay] 76
                have nm1 : wr.heap.size ≠ mb1 := by obtain ⟨_, t, _⟩ := hDr.seen.tags; have := t.lt; omega
                have nm2 : wr.heap.size ≠ mb2 := by obtain ⟨_, t, _⟩ := hDr.seen.names; have := t.lt; omega
                have zr := hDr.below.size
                clear fcs0 frd ek en ein eout
                generalize d.methods[k] = f at *
                go_wp2_with fail
                clear h0 h1 h2 h3 h4
                refine (row_wk hD1.seen _ _ _ _).mono ?_
                rintro e w2 ⟨n, rfl, hn0, hn1, hS2, hB2, hX2⟩
                have hD2 := hD1.row hS2 hB2
                have FB2 := FB.keep (hX2 _ (by simp) nm1 nm2)
                clear hX2 hS2 hB2 FB nm1 nm2 hD1
                have u0 := FB2.cell 0
                have u1 := FB2.cell 1
                have u2 := FB2.cell 2
                have u3 := FB2.cell 3
                have u4 := FB2.cell 4
                simp at u0 u1 u2 u3 u4
                by_cases hn : n = 0
                · subst hn
                  clear hn0 hn1
                  go_wp2_with fail
                  clear u0 u1 u2 u3 u4
                  refine (method_wk (HChk.out.keep (hU0.same hD2.below)) (hU0.below hD2.below) _ _ _ _ _).mono ?_
                  rintro e w3 ⟨n2, rfl, hn0, hn1, hB3⟩
                  have hD3 := hD2.step hB3
                  by_cases hn : n2 = 0
                  · subst hn
                    go_wp2_with fail
                    go_roundw
                    case rel => exact ⟨k + 1, by omega, by go_num, hD3⟩
                    case measure => simp [intOf]; omega
                  · have hn2 : (n2 != 0) = true := by rw [bne_iff_ne]; exact hn
                    clear hn
                    go_wp2_with fail
                    go_ret
                    exact WkI.mk n2 rfl hn0 hn1 hD3.below
                · have hn2 : (n != 0) = true := by rw [bne_iff_ne]; exact hn
                  clear hn
                  go_wp2_with fail
                  go_ret
                  exact WkI.mk n rfl hn0 hn1 hD2.below
              · have y0 := hDr.box.cell 0
                have y2 := hDr.box.cell 2
                have yl := hDr.box.lt
                simp at y0 y2
                by_cases hf0 : nf = 0
                · subst hf0
                  go_wp2_with fail
                  go_ret
                  first
                    | exact WkI.mk 12 rfl (by decide) (by decide) hDr.below
                    | exact WkI.mk 0 rfl (by decide) (by decide) hDr.below
                · have f0 : ((nf : Int) == 0) = false := by rw [beq_eq_false_iff_ne]; omega
                  go_wp2_with fail
                  go_ret
                  exact WkI.mk 0 rfl (by decide) (by decide) hDr.below
      · go_upto_region 14 with fail
        refine abs_wp (fun W => ∃ sb mb1 mb2, DcIn w [.int .i64 3, .string dn, .slice efa nf efc, .slice ema nm emc, .int .i64 dp] sb mb1 mb2 W ∧ sb = W1.heap.size + 1 + 1) ?_ ?_
        · exact ⟨_, _, _, DcIn.start hB1 hX1, rfl⟩
        clear x0 x2 x3 xl hX1 hB1
        rintro W2 ⟨sb, mb1, mb2, hD, hsb⟩
        rw [← hsb]
        clear hsb HC HFx HF hmm
        have y2 := hD.box.cell 2
        have yl := hD.box.lt
        simp at y2
        go_wp2_with fail
        clear y2 yl
        go_loopw [54] (fun i wr => ∃ k : Nat, k ≤ nf ∧ i = .int .i64 k ∧ DcIn w [.int .i64 3, .string dn, .slice efa nf efc, .slice ema nm emc, .int .i64 dp] sb mb1 mb2 wr) (fun i _ => nf - (intOf i).toNat)
        case atStart => exact ⟨0, by omega, rfl, hD⟩
        case round =>
          obtain ⟨k, hk, rfl, hDr⟩ := hrel
          clear hD
          by_cases hlt : k < nf
          · have hkf : k < d.fields.length := by have := Hft.out; omega
            obtain ⟨fb, foff, fcs, hfa, hSf, _, fcs0, frd⟩ := RSl.at HEF.out hkf
            subst hfa
            obtain ⟨foa, foc, rfl, fk, fn, fo⟩ := id frd
            obtain ⟨h0, h1, h2, h3, h4⟩ := cells5 (fcs0.keep (hU0.same hDr.below _ hSf))
            have hD1 := hDr.step ((Below.refl _ _).alloc (Nat.le_refl _) (.cells #[.int .i64 d.fields[k].tag, .string d.fields[k].name, .int .i64 d.fields[k].type.kind, .string d.fields[k].type.name, .slice foa d.fields[k].type.of.length foc] 208))
            have FB := Blk.new wr [.int .i64 d.fields[k].tag, .string d.fields[k].name, .int .i64 d.fields[k].type.kind, .string d.fields[k].type.name, .slice foa d.fields[k].type.of.length foc] 208
            have nm1 : wr.heap.size ≠ mb1 := by obtain ⟨_, t, _⟩ := hDr.seen.tags; have := t.lt; omega
            have nm2 : wr.heap.size ≠ mb2 := by obtain ⟨_, t, _⟩ := hDr.seen.names; have := t.lt; omega
            have HFrd := Lib.hid frd
            have zr := hDr.below.size
            clear fcs0 frd fo
            generalize d.fields[k] = f at *
            generalize f.type.of.length = ftl at *
            go_wp2_with fail
            clear h0 h1 h2 h3 h4
            refine (row_wk hD1.seen _ _ _ _).mono ?_
            rintro e w2 ⟨n, rfl, hn0, hn1, hS2, hB2, hX2⟩
            have hD2 := hD1.row hS2 hB2
            have FB2 := FB.keep (hX2 _ (by simp) nm1 nm2)
            clear hX2 hS2 hB2 FB nm1 nm2 hD1
            have u0 := FB2.cell 0
            have u1 := FB2.cell 1
            have u2 := FB2.cell 2
            have u3 := FB2.cell 3
            have u4 := FB2.cell 4
            have v0 := hD2.box.cell 0
            have v1 := hD2.box.cell 1
            have v2 := hD2.box.cell 2
            have v3 := hD2.box.cell 3
            have v4 := hD2.box.cell 4
            simp at u0 u1 u2 u3 u4 v0 v1 v2 v3 v4
            by_cases hn : n = 0
            · subst hn
              clear hn0 hn1
              go_wp2_with fail
              clear u0 u1 u2 u3 u4 v0 v1 v2 v3 v4
              refine (field_wk (HChk.out.keep (hU0.same hD2.below)) (hU0.below hD2.below) f _ (HFrd.out.keep (hU0.same hD2.below) (Sub.refl _)) (hU0.below hD2.below) _ _ _ _ _).mono ?_
              rintro e w3 ⟨n2, rfl, hn0, hn1, hB3⟩
              have hD3 := hD2.step hB3
              by_cases hn : n2 = 0
              · subst hn
                go_wp2_with fail
                go_roundw
                case rel => exact ⟨k + 1, by omega, by go_num, hD3⟩
                case measure => simp [intOf]; omega
              · have hn2 : (n2 != 0) = true := by rw [bne_iff_ne]; exact hn
                clear hn
                go_wp2_with fail
                go_ret
                exact WkI.mk n2 rfl hn0 hn1 hD3.below
            · have hn2 : (n != 0) = true := by rw [bne_iff_ne]; exact hn
              clear hn
              go_wp2_with fail
              go_ret
              exact WkI.mk n rfl hn0 hn1 hD2.below
          · have y3 := hDr.box.cell 3
            have yl := hDr.box.lt
            simp at y3
            go_wp2_with fail
            clear y3 yl hlt
            go_loopw [80] (fun i wr => ∃ k : Nat, k ≤ nm ∧ i = .int .i64 k ∧ DcIn w [.int .i64 3, .string dn, .slice efa nf efc, .slice ema nm emc, .int .i64 dp] sb mb1 mb2 wr) (fun i _ => nm - (intOf i).toNat)
            case atStart => exact ⟨0, by omega, rfl, hDr⟩
            case round =>
              obtain ⟨k, hk, rfl, hDr⟩ := hrel
              by_cases hlt : k < nm
              · have hkf : k < d.methods.length := by have := Hmt.out; omega
                obtain ⟨fb, foff, fcs, hfa, hSf, _, fcs0, frd⟩ := RSl.at HEM.out hkf
                subst hfa
                obtain ⟨rfl, ek, en, ein, eout⟩ := id frd
                obtain ⟨h0, h1, h2, h3, h4⟩ := cells5 (fcs0.keep (hU0.same hDr.below _ hSf))
                have hD1 := hDr.step ((Below.refl _ _).alloc (Nat.le_refl _) (.cells #[.int .i64 d.methods[k].tag, .string d.methods[k].name, .string d.methods[k].inn, .string d.methods[k].out, .bool d.methods[k].oneWay] 76))
                have FB := Blk.new wr [.int .i64 d.methods[k].tag, .string d.methods[k].name, .string d.methods[k].inn, .string d.methods[k].out, .bool d.methods[k].oneWay] 76
                have nm1 : wr.heap.size ≠ mb1 := by obtain ⟨_, t, _⟩ := hDr.seen.tags; have := t.lt; omega
                have nm2 : wr.heap.size ≠ mb2 := by obtain ⟨_, t, _⟩ := hDr.seen.names; have := t.lt; omega
                have zr := hDr.below.size
                clear fcs0 frd ek en ein eout
                generalize d.methods[k] = f at *
                go_wp2_with fail
                clear h0 h1 h2 h3 h4
                refine (row_wk hD1.seen _ _ _ _).mono ?_
                rintro e w2 ⟨n, rfl, hn0, hn1, hS2, hB2, hX2⟩
                have hD2 := hD1.row hS2 hB2
                have FB2 := FB.keep (hX2 _ (by simp) nm1 nm2)
                clear hX2 hS2 hB2 FB nm1 nm2 hD1
                have u0 := FB2.cell 0
                have u1 := FB2.cell 1
                have u2 := FB2.cell 2
                have u3 := FB2.cell 3
                have u4 := FB2.cell 4
                simp at u0 u1 u2 u3 u4
                by_cases hn : n = 0
                · subst hn
                  clear hn0 hn1
                  go_wp2_with fail
                  clear u0 u1 u2 u3 u4
                  refine (method_wk (HChk.out.keep (hU0.same hD2.below)) (hU0.below hD2.below) _ _ _ _ _).mono ?_
                  rintro e w3 ⟨n2, rfl, hn0, hn1, hB3⟩
                  have hD3 := hD2.step hB3
                  by_cases hn : n2 = 0
                  · subst hn
                    go_wp2_with fail
                    go_roundw
                    case rel => exact ⟨k + 1, by omega, by go_num, hD3⟩
                    case measure => simp [intOf]; omega
                  · have hn2 : (n2 != 0) = true := by rw [bne_iff_ne]; exact hn
                    clear hn
                    go_wp2_with fail
                    go_ret
                    exact WkI.mk n2 rfl hn0 hn1 hD3.below
                · have hn2 : (n != 0) = true := by rw [bne_iff_ne]; exact hn
                  clear hn
                  go_wp2_with fail
                  go_ret
                  exact WkI.mk n rfl hn0 hn1 hD2.below
              · have y0 := hDr.box.cell 0
                have y2 := hDr.box.cell 2
                have yl := hDr.box.lt
                simp at y0 y2
                by_cases hf0 : nf = 0
                · subst hf0
                  go_wp2_with fail
                  go_ret
                  first
                    | exact WkI.mk 12 rfl (by decide) (by decide) hDr.below
                    | exact WkI.mk 0 rfl (by decide) (by decide) hDr.below
                · have f0 : ((nf : Int) == 0) = false := by rw [beq_eq_false_iff_ne]; omega
                  go_wp2_with fail
                  go_ret
                  exact WkI.mk 0 rfl (by decide) (by decide) hDr.below
      · go_upto_region 14 with fail
        refine abs_wp (fun W => ∃ sb mb1 mb2, DcIn w [.int .i64 4, .string dn, .slice efa nf efc, .slice ema nm emc, .int .i64 dp] sb mb1 mb2 W ∧ sb = W1.heap.size + 1 + 1) ?_ ?_
        · exact ⟨_, _, _, DcIn.start hB1 hX1, rfl⟩
        clear x0 x2 x3 xl hX1 hB1
        rintro W2 ⟨sb, mb1, mb2, hD, hsb⟩
        rw [← hsb]
        clear hsb HC HFx HF hmm
        have y2 := hD.box.cell 2
        have yl := hD.box.lt
        simp at y2
        go_wp2_with fail
        clear y2 yl
        go_loopw [54] (fun i wr => ∃ k : Nat, k ≤ nf ∧ i = .int .i64 k ∧ DcIn w [.int .i64 4, .string dn, .slice efa nf efc, .slice ema nm emc, .int .i64 dp] sb mb1 mb2 wr) (fun i _ => nf - (intOf i).toNat)
        case atStart => exact ⟨0, by omega, rfl, hD⟩
        case round =>
          obtain ⟨k, hk, rfl, hDr⟩ := hrel
          clear hD
          by_cases hlt : k < nf
          · have hkf : k < d.fields.length := by have := Hft.out; omega
            obtain ⟨fb, foff, fcs, hfa, hSf, _, fcs0, frd⟩ := RSl.at HEF.out hkf
            subst hfa
            obtain ⟨foa, foc, rfl, fk, fn, fo⟩ := id frd
            obtain ⟨h0, h1, h2, h3, h4⟩ := cells5 (fcs0.keep (hU0.same hDr.below _ hSf))
            have hD1 := hDr.step ((Below.refl _ _).alloc (Nat.le_refl _) (.cells #[.int .i64 d.fields[k].tag, .string d.fields[k].name, .int .i64 d.fields[k].type.kind, .string d.fields[k].type.name, .slice foa d.fields[k].type.of.length foc] 208))
            have FB := Blk.new wr [.int .i64 d.fields[k].tag, .string d.fields[k].name, .int .i64 d.fields[k].type.kind, .string d.fields[k].type.name, .slice foa d.fields[k].type.of.length foc] 208
            have nm1 : wr.heap.size ≠ mb1 := by obtain ⟨_, t, _⟩ := hDr.seen.tags; have := t.lt; omega
            have nm2 : wr.heap.size ≠ mb2 := by obtain ⟨_, t, _⟩ := hDr.seen.names; have := t.lt; omega
            have HFrd := Lib.hid frd
            have zr := hDr.below.size
            clear fcs0 frd fo
            generalize d.fields[k] = f at *
            generalize f.type.of.length = ftl at *
            go_wp2_with fail
            clear h0 h1 h2 h3 h4
            refine (row_wk hD1.seen _ _ _ _).mono ?_
            rintro e w2 ⟨n, rfl, hn0, hn1, hS2, hB2, hX2⟩
            have hD2 := hD1.row hS2 hB2
            have FB2 := FB.keep (hX2 _ (by simp) nm1 nm2)
            clear hX2 hS2 hB2 FB nm1 nm2 hD1
            have u0 := FB2.cell 0
            have u1 := FB2.cell 1
            have u2 := FB2.cell 2
            have u3 := FB2.cell 3
            have u4 := FB2.cell 4
            have v0 := hD2.box.cell 0
            have v1 := hD2.box.cell 1
            have v2 := hD2.box.cell 2
            have v3 := hD2.box.cell 3
            have v4 := hD2.box.cell 4
            simp at u0 u1 u2 u3 u4 v0 v1 v2 v3 v4
            by_cases hn : n = 0
            · subst hn
              clear hn0 hn1
              go_wp2_with fail
              clear u0 u1 u2 u3 u4 v0 v1 v2 v3 v4
              refine (field_wk (HChk.out.keep (hU0.same hD2.below)) (hU0.below hD2.below) f _ (HFrd.out.keep (hU0.same hD2.below) (Sub.refl _)) (hU0.below hD2.below) _ _ _ _ _).mono ?_
              rintro e w3 ⟨n2, rfl, hn0, hn1, hB3⟩
              have hD3 := hD2.step hB3
              by_cases hn : n2 = 0
              · subst hn
                go_wp2_with fail
                go_roundw
                case rel => exact ⟨k + 1, by omega, by go_num, hD3⟩
                case measure => simp [intOf]; omega
              · have hn2 : (n2 != 0) = true := by rw [bne_iff_ne]; exact hn
                clear hn
                go_wp2_with fail
                go_ret
                exact WkI.mk n2 rfl hn0 hn1 hD3.below
            · have hn2 : (n != 0) = true := by rw [bne_iff_ne]; exact hn
              clear hn
              go_wp2_with fail
              go_ret
              exact WkI.mk n rfl hn0 hn1 hD2.below
          · have y3 := hDr.box.cell 3
            have yl := hDr.box.lt
            simp at y3
            go_wp2_with fail
            clear y3 yl hlt
            go_loopw [80] (fun i wr => ∃ k : Nat, k ≤ nm ∧ i = .int .i64 k ∧ DcIn w [.int .i64 4, .string dn, .slice efa nf efc, .slice ema nm emc, .int .i64 dp] sb mb1 mb2 wr) (fun i _ => nm - (intOf i).toNat)
            case atStart => exact ⟨0, by omega, rfl, hDr⟩
            case round =>
              obtain ⟨k, hk, rfl, hDr⟩ := hrel
              by_cases hlt : k < nm
              · have hkf : k < d.methods.length := by have := Hmt.out; omega
                obtain ⟨fb, foff, fcs, hfa, hSf, _, fcs0, frd⟩ := RSl.at HEM.out hkf
                subst hfa
                obtain ⟨rfl, ek, en, ein, eout⟩ := id frd
                obtain ⟨h0, h1, h2, h3, h4⟩ := cells5 (fcs0.keep (hU0.same hDr.below _ hSf))
                have hD1 := hDr.step ((Below.refl _ _).alloc (Nat.le_refl _) (.cells #[.int .i64 d.methods[k].tag, .string d.methods[k].name, .string d.methods[k].inn, .string d.methods[k].out, .bool d.methods[k].oneWay] 76))
                have FB := Blk.new wr [.int .i64 d.methods[k].tag, .string d.methods[k].name, .string d.methods[k].inn, .string d.methods[k].out, .bool d.methods[k].oneWay] 76
                have nm1 : wr.heap.size ≠ mb1 := by obtain ⟨_, t, _⟩ := hDr.seen.tags; have := t.lt; omega
                have nm2 : wr.heap.size ≠ mb2 := by obtain ⟨_, t, _⟩ := hDr.seen.names; have := t.lt; omega
                have zr := hDr.below.size
                clear fcs0 frd ek en ein eout
                generalize d.methods[k] = f at *
                go_wp2_with fail
                clear h0 h1 h2 h3 h4
                refine (row_wk hD1.seen _ _ _ _).mono ?_
                rintro e w2 ⟨n, rfl, hn0, hn1, hS2, hB2, hX2⟩
                have hD2 := hD1.row hS2 hB2
                have FB2 := FB.keep (hX2 _ (by simp) nm1 nm2)
                clear hX2 hS2 hB2 FB nm1 nm2 hD1
                have u0 := FB2.cell 0
                have u1 := FB2.cell 1
                have u2 := FB2.cell 2
                have u3 := FB2.cell 3
                have u4 := FB2.cell 4
                simp at u0 u1 u2 u3 u4
                by_cases hn : n = 0
                · subst hn
                  clear hn0 hn1
                  go_wp2_with fail
                  clear u0 u1 u2 u3 u4
                  refine (method_wk (HChk.out.keep (hU0.same hD2.below)) (hU0.below hD2.below) _ _ _ _ _).mono ?_
                  rintro e w3 ⟨n2, rfl, hn0, hn1, hB3⟩
                  have hD3 := hD2.step hB3
                  by_cases hn : n2 = 0
                  · subst hn
                    go_wp2_with fail
                    go_roundw
                    case rel => exact ⟨k + 1, by omega, by go_num, hD3⟩
                    case measure => simp [intOf]; omega
                  · have hn2 : (n2 != 0) = true := by rw [bne_iff_ne]; exact hn
                    clear hn
                    go_wp2_with fail
                    go_ret
                    exact WkI.mk n2 rfl hn0 hn1 hD3.below
                · have hn2 : (n != 0) = true := by rw [bne_iff_ne]; exact hn
                  clear hn
                  go_wp2_with fail
                  go_ret
                  exact WkI.mk n rfl hn0 hn1 hD2.below
              · have y0 := hDr.box.cell 0
                have y2 := hDr.box.cell 2
                have yl := hDr.box.lt
                simp at y0 y2
                by_cases hf0 : nf = 0
                · subst hf0
                  go_wp2_with fail
                  go_ret
                  first
                    | exact WkI.mk 12 rfl (by decide) (by decide) hDr.below
                    | exact WkI.mk 0 rfl (by decide) (by decide) hDr.below
                · have f0 : ((nf : Int) == 0) = false := by rw [beq_eq_false_iff_ne]; omega
                  go_wp2_with fail
                  go_ret
                  exact WkI.mk 0 rfl (by decide) (by decide) hDr.below
    · have k1 : (dk == 1) = false := by rw [beq_eq_false_iff_ne]; omega
      have k2 : (dk == 2) = false := by rw [beq_eq_false_iff_ne]; omega
      have k3 : (dk == 3) = false := by rw [beq_eq_false_iff_ne]; omega
      have k4 : (dk == 4) = false := by rw [beq_eq_false_iff_ne]; omega
      clear hk
      go_wp2_with fail
      go_ret
      exact WkI.mk 4 rfl (by decide) (by decide) hB1
  · have n1 : (fi != (i : Int)) = true := by rw [bne_iff_ne]; exact hne
    clear hne
    go_enter Tryz.func236, Tryz.ntmps236
    go_upto_region 2 with fail
    refine abs_wp (fun W => Below w.heap.size w W ∧ Blk W w.heap.size [.int .i64 dk, .string dn, .slice efa nf efc, .slice ema nm emc, .int .i64 dp] 149) ?_ ?_
    · exact ⟨(Below.refl _ _).alloc (Nat.le_refl _) _, Blk.new w _ _⟩
    rintro W1 ⟨hB1, hX1⟩
    have x1 := hX1.cell 1
    simp at x1
    have q1 := HC.out _ hB1
    go_quiet ((go_at_call 196; exact Calls.quiet_eq (HFx.out _ (hB1.dN _))))
    go_wp2_with fail
    go_ret
    exact WkI.mk 7 rfl (by decide) (by decide) (hB1.dN _)
end Go.Proofs.YtfoihafhpmbaeaaGreatDoor

/- Whether a declaration is finite. -/
namespace Go.Proofs.YtfoihafhpmbaeaaGreatDoor
open Go.RowKit

/-- some answer -/
def WkB (w : World) (e : Ending) (w' : World) : Prop := ∃ b : Bool, e = .returned (.bool b) ∧ Below w.heap.size w w'

theorem hasD_lt {l : List Dcl} {nm : ByteArray} (h : hasD l nm = true) : ∃ i : Nat, findI l nm = i ∧ i < l.length := by
  unfold hasD at h
  cases hf : findD l nm with
  | none => rw [hf] at h; cases h
  | some i => exact ⟨i, by unfold findI; rw [hf], findD_lt hf⟩

set_option maxHeartbeats 400000 in
theorem fine_wk {S0 : Blocks} {l : List Dcl} {cb : Nat} {w : World} (hC : RChk S0 w l cb) (hU0 : Under S0 w) (t : Ty) (oa : Option Addr) (oc : Nat) (pb qb kb : Nat) (bs : List Bool) (hbs : bs.length = l.length)
    (hp : w.cell? ⟨pb, 0, none⟩ = some (.pointer (some ⟨cb, 0, none⟩))) (hq : w.cell? ⟨qb, 0, none⟩ = some (.slice (some ⟨kb, 0, none⟩) l.length l.length)) (hk : Blk w kb (bs.map Value.bool) 4) :
    Calls Tryz.prog 313 #[.agg #[.int .i64 t.kind, .string t.name, .slice oa t.of.length oc], .pointer (some ⟨pb, 0, none⟩), .pointer (some ⟨qb, 0, none⟩)] w (WkB w) := by
  obtain ⟨hcb, la, lc, tb, hCB, hL, hT⟩ := hC
  obtain ⟨hlc, hll⟩ := hL.le
  have c1 := hCB.cell 1
  have hcl := hCB.lt
  simp at c1
  have HF : Hid (∀ W, Below w.heap.size w W → Calls Tryz.prog 196 #[.pointer (some ⟨tb, 0, none⟩), .string t.name] W fun e w' => e = .returned (.tuple #[.int .i64 (findI l t.name), .bool (hasD l t.name)]) ∧ W = w') := fun W g => Find_calls (hT.keep (hU0.same g) (Sub.refl _)) t.name
  have hpl := World.block_lt_of_cell? w _ hp
  have hql := World.block_lt_of_cell? w _ hq
  have hkl := hk.lt
  have HH := fun h => Lib.hid (hasD_lt (l := l) (nm := t.name) h)
  generalize t.of.length = tl at *
  generalize t.name = tn at *
  generalize t.kind = tk at *
  generalize findI l tn = fi at *
  generalize hasD l tn = hd at *
  clear hL hT hCB
  by_cases h6 : tk = 6
  · have k6 : (tk != 6) = false := by rw [bne_eq_false_iff_eq]; exact h6
    clear h6
    cases hd
    · clear HH
      go_enter Tryz.func313, Tryz.ntmps313
      go_wp2_with fail
      go_quiet ((go_at_call 196; exact Calls.quiet_eq (HF.out _ (((Below.refl _ _).alloc (Nat.le_refl _) _).dN _))))
      go_wp2_with fail
      go_ret
      exact ⟨false, rfl, ((Below.refl _ _).alloc (Nat.le_refl _) _).dN _⟩
    · obtain ⟨i, rfl, hi⟩ := (HH rfl).out
      have hib : i < bs.length := by omega
      have g := hk.cell i
      rw [List.getElem?_map, List.getElem?_eq_getElem hib] at g
      simp only [Option.map_some] at g
      generalize bs[i] = bi at *
      have hi' : (i : Int) < l.length := by omega
      clear HH
      go_enter Tryz.func313, Tryz.ntmps313
      go_wp2_with fail
      go_quiet ((go_at_call 196; exact Calls.quiet_eq (HF.out _ (((Below.refl _ _).alloc (Nat.le_refl _) _).dN _))))
      go_wp2_with fail
      go_ret
      exact ⟨bi, rfl, ((Below.refl _ _).alloc (Nat.le_refl _) _).dN _⟩
  · have k6 : (tk != 6) = true := by rw [bne_iff_ne]; exact h6
    clear h6 HH
    go_enter Tryz.func313, Tryz.ntmps313
    go_wp2_with fail
    go_quiet ((go_at_call 196; exact Calls.quiet_eq (HF.out _ (((Below.refl _ _).alloc (Nat.le_refl _) _).dN _))))
    go_wp2_with fail
    go_ret
    exact ⟨true, rfl, ((Below.refl _ _).alloc (Nat.le_refl _) _).dN _⟩
end Go.Proofs.YtfoihafhpmbaeaaGreatDoor

/- Whether a declaration is finite, as far as is known. -/
namespace Go.Proofs.YtfoihafhpmbaeaaGreatDoor
open Go.RowKit

/-- the boxes of 'finite' -/
structure DnIn (w : World) (cb : Nat) (dc : List Value) (kv : Value) (W : World) : Prop where
  below : Below w.heap.size w W
  b0 : Blk W w.heap.size [.pointer (some ⟨cb, 0, none⟩)] 363
  b1 : Blk W (w.heap.size + 1) dc 149
  b2 : Blk W (w.heap.size + 2) [kv] 367
theorem DnIn.step {w W W' : World} {cb : Nat} {dc : List Value} {kv : Value} (h : DnIn w cb dc kv W) (g : Below W.heap.size W W') : DnIn w cb dc kv W' :=
  ⟨h.below.up g h.below.size, h.b0.below g h.b0.lt, h.b1.below g h.b1.lt, h.b2.below g h.b2.lt⟩
theorem DnIn.start (w : World) (cb : Nat) (dc : List Value) (kv : Value) :
    DnIn w cb dc kv (((w.alloc (.cells #[.pointer (some ⟨cb, 0, none⟩)] 363)).alloc (.cells dc.toArray 149)).alloc (.cells #[kv] 367)) := by
  have e1 : (w.alloc (.cells #[.pointer (some ⟨cb, 0, none⟩)] 363)).heap.size = w.heap.size + 1 := by simp
  have e2 : ((w.alloc (.cells #[.pointer (some ⟨cb, 0, none⟩)] 363)).alloc (.cells dc.toArray 149)).heap.size = w.heap.size + 2 := by simp
  have n0 := Blk.new w [.pointer (some ⟨cb, 0, none⟩)] 363
  have n1 := Blk.new (w.alloc (.cells #[.pointer (some ⟨cb, 0, none⟩)] 363)) dc 149
  have n2 := Blk.new ((w.alloc (.cells #[.pointer (some ⟨cb, 0, none⟩)] 363)).alloc (.cells dc.toArray 149)) [kv] 367
  rw [e1] at n1
  rw [e2] at n2
  exact ⟨(((Below.refl _ _).alloc (Nat.le_refl _) _).alloc (by rw [e1]; omega) _).alloc (by rw [e2]; omega) _, (n0.alloc _).alloc _, n1.alloc _, n2⟩

set_option maxHeartbeats 2000000 in
theorem finite_wk {S0 S : Blocks} {l : List Dcl} {cb : Nat} {w : World} (hC : RChk S0 w l cb) (hU0 : Under S0 w) (d : Dcl) (dcs : List Value) (hd : RDcl S w d dcs) (hU : Under S w) (kb : Nat) (bs : List Bool) (hbs : bs.length = l.length)
    (hkn : Blk w kb (bs.map Value.bool) 4) :
    Calls Tryz.prog 284 #[.pointer (some ⟨cb, 0, none⟩), .agg dcs.toArray, .slice (some ⟨kb, 0, none⟩) l.length l.length] w (WkB w) := by
  have HChk := Lib.hid hC
  obtain ⟨efa, efc, ema, emc, rfl, _, _, ef, _, _⟩ := hd
  obtain ⟨hfc, hfl⟩ := ef.le
  have HEF := Lib.hid ef
  clear hC ef
  generalize hft : (d.fields.length : Nat) = nf at *
  have Hft := Lib.hid hft
  clear hft
  generalize d.kind = dk at *
  generalize d.name = dn at *
  generalize d.pos = dp at *
  generalize Value.slice ema d.methods.length emc = ms at *
  by_cases hk : dk = 1 ∨ dk = 2 ∨ dk = 3 ∨ dk = 4
  · rcases hk with rfl | rfl | rfl | rfl
    · go_enter Tryz.func284, Tryz.ntmps284
      go_upto_region 8 with fail
      refine abs_wp (fun W => DnIn w cb [.int .i64 1, .string dn, .slice efa nf efc, ms, .int .i64 dp] (.slice (some ⟨kb, 0, none⟩) l.length l.length) W) ?_ ?_
      · exact DnIn.start w cb _ _
      rintro W1 hD
      have y2 := hD.b1.cell 2
      have yl := hD.b1.lt
      simp at y2
      go_wp2_with fail
      clear y2 yl
      go_loopw [22] (fun i wr => ∃ k : Nat, k ≤ nf ∧ i = .int .i64 k ∧ DnIn w cb [.int .i64 1, .string dn, .slice efa nf efc, ms, .int .i64 dp] (.slice (some ⟨kb, 0, none⟩) l.length l.length) wr) (fun i _ => nf - (intOf i).toNat)
      case atStart => exact ⟨0, by omega, rfl, hD⟩
      case round =>
        obtain ⟨k, hk2, rfl, hDr⟩ := hrel
        clear hD
        by_cases hlt : k < nf
        · have hkf : k < d.fields.length := by have := Hft.out; omega
          obtain ⟨fb, foff, fcs, hfa, hSf, _, fcs0, frd⟩ := RSl.at HEF.out hkf
          subst hfa
          obtain ⟨foa, foc, rfl, fk, fn, fo⟩ := id frd
          obtain ⟨h0, h1, h2, h3, h4⟩ := cells5 (fcs0.keep (hU.same hDr.below _ hSf))
          have hD1 := hDr.step ((Below.refl _ _).alloc (Nat.le_refl _) (.cells #[.int .i64 d.fields[k].tag, .string d.fields[k].name, .int .i64 d.fields[k].type.kind, .string d.fields[k].type.name, .slice foa d.fields[k].type.of.length foc] 208))
          have FB := Blk.new wr [.int .i64 d.fields[k].tag, .string d.fields[k].name, .int .i64 d.fields[k].type.kind, .string d.fields[k].type.name, .slice foa d.fields[k].type.of.length foc] 208
          have HFin : Hid (∀ W, DnIn w cb [.int .i64 1, .string dn, .slice (some ⟨fb, foff, none⟩) nf efc, ms, .int .i64 dp] (.slice (some ⟨kb, 0, none⟩) l.length l.length) W → Blk W wr.heap.size [.int .i64 d.fields[k].tag, .string d.fields[k].name, .int .i64 d.fields[k].type.kind, .string d.fields[k].type.name, .slice foa d.fields[k].type.of.length foc] 208 →
              Calls Tryz.prog 313 #[.agg #[.int .i64 d.fields[k].type.kind, .string d.fields[k].type.name, .slice foa d.fields[k].type.of.length foc], .pointer (some ⟨w.heap.size, 0, none⟩), .pointer (some ⟨w.heap.size + 2, 0, none⟩)] W
              fun e w' => (∃ b : Bool, e = .returned (.bool b)) ∧ DnIn w cb [.int .i64 1, .string dn, .slice (some ⟨fb, foff, none⟩) nf efc, ms, .int .i64 dp] (.slice (some ⟨kb, 0, none⟩) l.length l.length) w' ∧
                w'.cell? ⟨wr.heap.size, 2, none⟩ = some (.int .i64 d.fields[k].type.kind) ∧ w'.cell? ⟨wr.heap.size, 3, none⟩ = some (.string d.fields[k].type.name) ∧ w'.cell? ⟨wr.heap.size, 4, none⟩ = some (.slice foa d.fields[k].type.of.length foc) ∧ w'.cell? ⟨w.heap.size + 1, 0, none⟩ = some (.int .i64 1)) := fun W hW hB =>
            (fine_wk (HChk.out.keep (hU0.same hW.below)) (hU0.below hW.below) d.fields[k].type foa foc w.heap.size (w.heap.size + 2) kb bs hbs (hW.b0.cell 0) (hW.b2.cell 0) (hkn.below hW.below hkn.lt)).mono (by
              rintro e w' ⟨b, rfl, g⟩
              have hB' := hB.below g hB.lt
              have hW' := hW.step g
              exact ⟨⟨b, rfl⟩, hW', hB'.cell 2, hB'.cell 3, hB'.cell 4, hW'.b1.cell 0⟩)
          have zr := hDr.below.size
          clear fcs0 frd fo hDr
          generalize d.fields[k] = f at *
          generalize f.type.of.length = ftl at *
          go_wp2_with fail
          clear h0 h1 h2 h3 h4
          have u2 := FB.cell 2
          have u3 := FB.cell 3
          have u4 := FB.cell 4
          have v0 := hD1.b1.cell 0
          simp only [List.getElem?_cons_succ, List.getElem?_cons_zero] at u2 u3 u4 v0
          go_region_held3 (fun W => W.cell? ⟨wr.heap.size, 2, none⟩ = some (.int .i64 f.type.kind) ∧ W.cell? ⟨wr.heap.size, 3, none⟩ = some (.string f.type.name) ∧ W.cell? ⟨wr.heap.size, 4, none⟩ = some (.slice foa ftl foc) ∧ W.cell? ⟨w.heap.size + 1, 0, none⟩ = some (.int .i64 1))
            (first | exact ⟨u2, u3, u4, v0⟩ | exact ⟨p2, p3, p4, p0⟩ | go_keep)
            ((go_at_call 313; refine (HFin.out _ (hD1.step (Below.refl _ _).drew) FB).mono ?_; rintro e w2 ⟨⟨b, rfl⟩, hD2, p2, p3, p4, p0⟩))
          cases b
          all_goals
            go_wp2_with fail
            first
              | (go_roundw
                 case rel => exact ⟨k + 1, by omega, by go_num, hD2⟩
                 case measure => simp [intOf]; omega)
              | (go_ret
                 exact ⟨_, rfl, hD2.below⟩)
        · have y0 := hDr.b1.cell 0
          have yl := hDr.b1.lt
          simp at y0
          go_wp2_with fail
          go_ret
          exact ⟨_, rfl, hDr.below⟩
    · go_enter Tryz.func284, Tryz.ntmps284
      go_upto_region 8 with fail
      refine abs_wp (fun W => DnIn w cb [.int .i64 2, .string dn, .slice efa nf efc, ms, .int .i64 dp] (.slice (some ⟨kb, 0, none⟩) l.length l.length) W) ?_ ?_
      · exact DnIn.start w cb _ _
      rintro W1 hD
      have y2 := hD.b1.cell 2
      have yl := hD.b1.lt
      simp at y2
      go_wp2_with fail
      clear y2 yl
      go_loopw [22] (fun i wr => ∃ k : Nat, k ≤ nf ∧ i = .int .i64 k ∧ DnIn w cb [.int .i64 2, .string dn, .slice efa nf efc, ms, .int .i64 dp] (.slice (some ⟨kb, 0, none⟩) l.length l.length) wr) (fun i _ => nf - (intOf i).toNat)
      case atStart => exact ⟨0, by omega, rfl, hD⟩
      case round =>
        obtain ⟨k, hk2, rfl, hDr⟩ := hrel
        clear hD
        by_cases hlt : k < nf
        · have hkf : k < d.fields.length := by have := Hft.out; omega
          obtain ⟨fb, foff, fcs, hfa, hSf, _, fcs0, frd⟩ := RSl.at HEF.out hkf
          subst hfa
          obtain ⟨foa, foc, rfl, fk, fn, fo⟩ := id frd
          obtain ⟨h0, h1, h2, h3, h4⟩ := cells5 (fcs0.keep (hU.same hDr.below _ hSf))
          have hD1 := hDr.step ((Below.refl _ _).alloc (Nat.le_refl _) (.cells #[.int .i64 d.fields[k].tag, .string d.fields[k].name, .int .i64 d.fields[k].type.kind, .string d.fields[k].type.name, .slice foa d.fields[k].type.of.length foc] 208))
          have FB := Blk.new wr [.int .i64 d.fields[k].tag, .string d.fields[k].name, .int .i64 d.fields[k].type.kind, .string d.fields[k].type.name, .slice foa d.fields[k].type.of.length foc] 208
          have HFin : Hid (∀ W, DnIn w cb [.int .i64 2, .string dn, .slice (some ⟨fb, foff, none⟩) nf efc, ms, .int .i64 dp] (.slice (some ⟨kb, 0, none⟩) l.length l.length) W → Blk W wr.heap.size [.int .i64 d.fields[k].tag, .string d.fields[k].name, .int .i64 d.fields[k].type.kind, .string d.fields[k].type.name, .slice foa d.fields[k].type.of.length foc] 208 →
              Calls Tryz.prog 313 #[.agg #[.int .i64 d.fields[k].type.kind, .string d.fields[k].type.name, .slice foa d.fields[k].type.of.length foc], .pointer (some ⟨w.heap.size, 0, none⟩), .pointer (some ⟨w.heap.size + 2, 0, none⟩)] W
              fun e w' => (∃ b : Bool, e = .returned (.bool b)) ∧ DnIn w cb [.int .i64 2, .string dn, .slice (some ⟨fb, foff, none⟩) nf efc, ms, .int .i64 dp] (.slice (some ⟨kb, 0, none⟩) l.length l.length) w' ∧
                w'.cell? ⟨wr.heap.size, 2, none⟩ = some (.int .i64 d.fields[k].type.kind) ∧ w'.cell? ⟨wr.heap.size, 3, none⟩ = some (.string d.fields[k].type.name) ∧ w'.cell? ⟨wr.heap.size, 4, none⟩ = some (.slice foa d.fields[k].type.of.length foc) ∧ w'.cell? ⟨w.heap.size + 1, 0, none⟩ = some (.int .i64 2)) := fun W hW hB =>
            (fine_wk (HChk.out.keep (hU0.same hW.below)) (hU0.below hW.below) d.fields[k].type foa foc w.heap.size (w.heap.size + 2) kb bs hbs (hW.b0.cell 0) (hW.b2.cell 0) (hkn.below hW.below hkn.lt)).mono (by
              rintro e w' ⟨b, rfl, g⟩
              have hB' := hB.below g hB.lt
              have hW' := hW.step g
              exact ⟨⟨b, rfl⟩, hW', hB'.cell 2, hB'.cell 3, hB'.cell 4, hW'.b1.cell 0⟩)
          have zr := hDr.below.size
          clear fcs0 frd fo hDr
          generalize d.fields[k] = f at *
          generalize f.type.of.length = ftl at *
          go_wp2_with fail
          clear h0 h1 h2 h3 h4
          have u2 := FB.cell 2
          have u3 := FB.cell 3
          have u4 := FB.cell 4
          have v0 := hD1.b1.cell 0
          simp only [List.getElem?_cons_succ, List.getElem?_cons_zero] at u2 u3 u4 v0
          go_region_held3 (fun W => W.cell? ⟨wr.heap.size, 2, none⟩ = some (.int .i64 f.type.kind) ∧ W.cell? ⟨wr.heap.size, 3, none⟩ = some (.string f.type.name) ∧ W.cell? ⟨wr.heap.size, 4, none⟩ = some (.slice foa ftl foc) ∧ W.cell? ⟨w.heap.size + 1, 0, none⟩ = some (.int .i64 2))
            (first | exact ⟨u2, u3, u4, v0⟩ | exact ⟨p2, p3, p4, p0⟩ | go_keep)
            ((go_at_call 313; refine (HFin.out _ (hD1.step (Below.refl _ _).drew) FB).mono ?_; rintro e w2 ⟨⟨b, rfl⟩, hD2, p2, p3, p4, p0⟩))
          cases b
          all_goals
            go_wp2_with fail
            first
              | (go_roundw
                 case rel => exact ⟨k + 1, by omega, by go_num, hD2⟩
                 case measure => simp [intOf]; omega)
              | (go_ret
                 exact ⟨_, rfl, hD2.below⟩)
        · have y0 := hDr.b1.cell 0
          have yl := hDr.b1.lt
          simp at y0
          go_wp2_with fail
          go_ret
          exact ⟨_, rfl, hDr.below⟩
    all_goals
      clear HChk HEF hkn
      go_enter Tryz.func284, Tryz.ntmps284
      go_wp2_with fail
      go_ret
      exact ⟨true, rfl, (((Below.refl _ _).alloc (Nat.le_refl _) _).alloc (by simp) _).alloc (by simp; omega) _⟩
  · have k1 : (dk == 1) = false := by rw [beq_eq_false_iff_ne]; omega
    have k2 : (dk == 2) = false := by rw [beq_eq_false_iff_ne]; omega
    have k3 : (dk == 3) = false := by rw [beq_eq_false_iff_ne]; omega
    have k4 : (dk == 4) = false := by rw [beq_eq_false_iff_ne]; omega
    clear hk HChk HEF hkn
    go_enter Tryz.func284, Tryz.ntmps284
    go_wp2_with fail
    go_ret
    exact ⟨false, rfl, (((Below.refl _ _).alloc (Nat.le_refl _) _).alloc (by simp) _).alloc (by simp; omega) _⟩
end Go.Proofs.YtfoihafhpmbaeaaGreatDoor
