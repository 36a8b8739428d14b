/- A type is checked: it ends, and answers some error. -/
import Derived.Outline
import Derived.Test.YtfoihafhpmbaeaaGreatDoorG23
namespace Go.Proofs.YtfoihafhpmbaeaaGreatDoor
open Go.RowKit

/-- some error, nothing that was there turned -/
def WkI (w : World) (e : Ending) (w' : World) : Prop := ∃ n : Int, e = .returned (.int .i64 n) ∧ 0 ≤ n ∧ n ≤ 20 ∧ Below w.heap.size w w'
theorem WkI.mk {w w' : World} {e : Ending} (n : Int) (he : e = .returned (.int .i64 n)) (h0 : 0 ≤ n) (h1 : n ≤ 20) (h : Below w.heap.size w w') : WkI w e w' := ⟨n, he, h0, h1, h⟩
theorem abs_wp {P : Program} {c : Code} {Q : Exit → Act → World → Prop} {a : Act} {W : World} (I : World → Prop) (hI : I W) (h : ∀ W', I W' → c.wp P Q a W') : c.wp P Q a W := h W hI

set_option maxHeartbeats 1000000 in
theorem typ_wk {S0 : Blocks} {l : List Dcl} {cb : Nat} (t : Ty) : ∀ (inner : Bool) (cs : List Value) (S : Blocks) (w : World), RChk S0 w l cb → Under S0 w → RTy S w t cs → Under S w →
    Calls Tryz.prog 312 #[.pointer (some ⟨cb, 0, none⟩), .agg cs.toArray, .bool inner] w (WkI w) := by
  induction t using Ty.ind with
  | h t ih =>
    intro inner cs S w hC hU0 hv hU
    obtain ⟨a, cap, rfl, hk, ht, hi⟩ := hv.cells
    obtain ⟨hc, hl⟩ := hi.le
    have HA : Hid (∀ W, Calls Tryz.prog 331 #[.int .i64 t.kind] W fun e w' => e = .returned (.int .i64 (arityI t.kind)) ∧ W = w') := fun W => arity_calls t.kind W
    by_cases a1 : (t.of.length : Int) = arityI t.kind
    · have m1 : ((t.of.length : Int) != arityI t.kind) = false := by rw [bne_eq_false_iff_eq]; exact a1
      have m2 : ((t.of.length : Int) == arityI t.kind) = true := by rw [beq_iff_eq]; exact a1
      by_cases b1 : t.kind ≠ 6 ∧ t.name.toList ≠ []
      · have k6 : (t.kind == 6) = false := by rw [beq_eq_false_iff_ne]; exact b1.1
        have ne : t.name.toList.isEmpty = false := by simpa using b1.2
        go_enter Tryz.func312, Tryz.ntmps312
        go_wp2_with fail
        go_quiet ((go_at_call 331; exact Calls.quiet_eq (HA.out _)))
        go_wp2_with fail
        go_ret
        exact WkI.mk 8 rfl (by decide) (by decide) (((Below.refl _ _).alloc (Nat.le_refl _) _).dN _)
      · by_cases h6 : t.kind = 6
        · have k6 : (t.kind == 6) = true := by rw [beq_iff_eq]; exact h6
          have k6' : (t.kind != 6) = false := by rw [bne_eq_false_iff_eq]; exact h6
          obtain ⟨hcb, la, lc, tb, hCB, hL, hT⟩ := hC
          have c1 := hCB.cell 1
          have hlt := hCB.lt
          simp at c1
          have HK : Hid (∀ W, Below w.heap.size w W → Calls Tryz.prog 199 #[.pointer (some ⟨tb, 0, none⟩), .string t.name] W fun e w' => e = .returned (.int .i64 (kindD l t.name)) ∧ W = w') := fun W g => Kind_calls (hT.keep (hU0.same g) (Sub.refl _)) t.name
          have HF : Hid (∀ W, Below w.heap.size w W → Calls Tryz.prog 196 #[.pointer (some ⟨tb, 0, none⟩), .string t.name] W fun e w' => e = .returned (.tuple #[.int .i64 (findI l t.name), .bool (hasD l t.name)]) ∧ W = w') := fun W g => Find_calls (hT.keep (hU0.same g) (Sub.refl _)) t.name
          have HC : Hid (∀ W, Below w.heap.size w W → W.cell? ⟨cb, 1, none⟩ = some (.pointer (some ⟨tb, 0, none⟩))) := fun W g => by
            rw [World.cell?_of_block (g.block cb hlt)]; exact c1
          generalize kindD l t.name = kd at *
          generalize findI l t.name = fi at *
          generalize hasD l t.name = hd at *
          clear ih hT hL hi hv b1 hCB c1 h6 a1
          by_cases d1 : kd = 1 ∨ kd = 2 ∨ kd = 3
          · rcases d1 with rfl | rfl | rfl
            all_goals
              go_enter Tryz.func312, Tryz.ntmps312
              go_upto_region 1 with fail
              refine abs_wp (fun W => Below w.heap.size w W ∧ Blk W w.heap.size [.int .i64 t.kind, .string t.name, .slice a t.of.length cap] 206) ?_ ?_
              · exact ⟨(Below.refl _ _).alloc (Nat.le_refl _) _, Blk.new w _ _⟩
              rintro W1 ⟨hB1, hX1⟩
              have xl := hX1.lt
              have x0 := hX1.cell 0
              have x1' := hX1.cell 1
              have x2' := hX1.cell 2
              simp at x0 x1' x2'
              go_quiet ((go_at_call 331; exact Calls.quiet_eq (HA.out _)))
              go_upto_region 5 with fail
              refine abs_wp (fun W => Below w.heap.size w W ∧ Blk W w.heap.size [.int .i64 t.kind, .string t.name, .slice a t.of.length cap] 206) ?_ ?_
              · exact ⟨hB1.dN _, hX1.keep rfl⟩
              clear xl x0 x1' x2' hB1 hX1
              rintro W1 ⟨hB1, hX1⟩
              have xl := hX1.lt
              have x0 := hX1.cell 0
              have x1' := hX1.cell 1
              have x2' := hX1.cell 2
              simp at x0 x1' x2'
              have q1 := HC.out _ hB1
              go_quiet ((go_at_call 199; exact Calls.quiet_eq (HK.out _ (hB1.dN _))))
              go_wp2_with fail
              go_ret
              exact WkI.mk 0 rfl (by decide) (by decide) (hB1.dN _)
          · have x1 : (kd == 1) = false := by rw [beq_eq_false_iff_ne]; omega
            have x2 : (kd == 2) = false := by rw [beq_eq_false_iff_ne]; omega
            have x3 : (kd == 3) = false := by rw [beq_eq_false_iff_ne]; omega
            cases hd
            all_goals
              go_enter Tryz.func312, Tryz.ntmps312
              go_upto_region 1 with fail
              refine abs_wp (fun W => Below w.heap.size w W ∧ Blk W w.heap.size [.int .i64 t.kind, .string t.name, .slice a t.of.length cap] 206) ?_ ?_
              · exact ⟨(Below.refl _ _).alloc (Nat.le_refl _) _, Blk.new w _ _⟩
              rintro W1 ⟨hB1, hX1⟩
              have xl := hX1.lt
              have x0 := hX1.cell 0
              have x1' := hX1.cell 1
              have x2' := hX1.cell 2
              simp at x0 x1' x2'
              go_quiet ((go_at_call 331; exact Calls.quiet_eq (HA.out _)))
              go_upto_region 5 with fail
              refine abs_wp (fun W => Below w.heap.size w W ∧ Blk W w.heap.size [.int .i64 t.kind, .string t.name, .slice a t.of.length cap] 206) ?_ ?_
              · exact ⟨hB1.dN _, hX1.keep rfl⟩
              clear xl x0 x1' x2' hB1 hX1
              rintro W1 ⟨hB1, hX1⟩
              have xl := hX1.lt
              have x0 := hX1.cell 0
              have x1' := hX1.cell 1
              have x2' := hX1.cell 2
              simp at x0 x1' x2'
              have q1 := HC.out _ hB1
              go_quiet ((go_at_call 199; exact Calls.quiet_eq (HK.out _ (hB1.dN _))))
              go_upto_region 10 with fail
              clear q1
              refine abs_wp (fun W => Below w.heap.size w W ∧ Blk W w.heap.size [.int .i64 t.kind, .string t.name, .slice a t.of.length cap] 206) ?_ ?_
              · exact ⟨hB1.dN _, hX1.keep rfl⟩
              clear xl x0 x1' x2' hB1 hX1
              rintro W1 ⟨hB1, hX1⟩
              have xl := hX1.lt
              have x0 := hX1.cell 0
              have x1' := hX1.cell 1
              have x2' := hX1.cell 2
              simp at x0 x1' x2'
              have q1 := HC.out _ hB1
              go_quiet ((go_at_call 196; exact Calls.quiet_eq (HF.out _ (hB1.dN _))))
              go_wp2_with fail
              go_ret
              first
                | exact WkI.mk 6 rfl (by decide) (by decide) (hB1.dN _)
                | exact WkI.mk 8 rfl (by decide) (by decide) (hB1.dN _)
        · have k6 : (t.kind == 6) = false := by rw [beq_eq_false_iff_ne]; exact h6
          have k6' : (t.kind != 6) = true := by rw [bne_iff_ne]; exact h6
          have ne : t.name.toList.isEmpty = true := by
            have : t.name.toList = [] := Classical.byContradiction fun hh => b1 ⟨h6, hh⟩
            rw [this]; rfl
          have HTY : Hid (∀ x, x ∈ t.of → ∀ (cs : List Value) (W : World), Below w.heap.size w W → RTy S w x cs → Calls Tryz.prog 312 #[.pointer (some ⟨cb, 0, none⟩), .agg cs.toArray, .bool true] W (WkI W)) := fun x hx cs W g hr =>
            ih x hx true cs S W (hC.keep (hU0.same g)) (hU0.below g) (hr.keep (hU.same g) (Sub.refl _)) (hU.below g)
          have HKY : Hid (∀ x, ∀ (oa : Option Addr) (oc : Nat) (W : World), Below w.heap.size w W → Calls Tryz.prog 332 #[.pointer (some ⟨cb, 0, none⟩), .agg #[.int .i64 x.kind, .string x.name, .slice oa x.of.length oc]] W
              fun e w' => e = .returned (.bool (keyedB l x)) ∧ Below W.heap.size W w') := fun x oa oc W g => keyed_calls (hC.keep (hU0.same g)) (hU0.below g) x oa oc
          have a2 := a1
          clear ih hC hv hk ht b1 h6 a1
          by_cases c9 : t.kind = 9
          · have k9 : (t.kind == 9) = true := by rw [beq_iff_eq]; exact c9
            have k8 : (t.kind == 8) = false := by rw [beq_eq_false_iff_ne]; omega
            clear c9 a2
            cases inner
            · go_enter Tryz.func312, Tryz.ntmps312
              go_upto_region 1 with fail
              refine abs_wp (fun W => Below w.heap.size w W ∧ Blk W w.heap.size [.int .i64 t.kind, .string t.name, .slice a t.of.length cap] 206) ?_ ?_
              · exact ⟨(Below.refl _ _).alloc (Nat.le_refl _) _, Blk.new w _ _⟩
              rintro W1 ⟨hB1, hX1⟩
              have xl := hX1.lt
              have x0 := hX1.cell 0
              have x1' := hX1.cell 1
              have x2' := hX1.cell 2
              simp at x0 x1' x2'
              go_quiet ((go_at_call 331; exact Calls.quiet_eq (HA.out _)))
              go_upto_region 20 with fail
              refine abs_wp (fun W => Below w.heap.size w W ∧ Blk W w.heap.size [.int .i64 t.kind, .string t.name, .slice a t.of.length cap] 206) ?_ ?_
              · exact ⟨hB1.dN _, hX1.keep rfl⟩
              clear xl x0 x1' x2' hB1 hX1
              rintro W1 ⟨hB1, hX1⟩
              have xl := hX1.lt
              have x0 := hX1.cell 0
              have x1' := hX1.cell 1
              have x2' := hX1.cell 2
              simp at x0 x1' x2'
              go_wp2_with fail
              clear x0 x1' x2'
              go_loopw [71] (fun i wr => ∃ k : Nat, k ≤ t.of.length ∧ i = .int .i64 k ∧ Below w.heap.size w wr) (fun i _ => t.of.length - (intOf i).toNat)
              case atStart => exact ⟨0, by omega, rfl, hB1⟩
              case round =>
                obtain ⟨k, hkl, rfl, hBr⟩ := hrel
                have hz := hBr.size
                by_cases hlt : k < t.of.length
                · obtain ⟨b, off, cs, hab, hSb, _, hcs0, hrd0⟩ := RSl.at hi hlt
                  first
                    | subst hab
                    | (simp only [Option.some.injEq, Addr.mk.injEq] at hab
                       obtain ⟨rfl, rfl, _⟩ := hab)
                  obtain ⟨eoa, eoc, rfl, ek, en, eo⟩ := hrd0.cells
                  obtain ⟨g0, g1, g2⟩ := cells3 (hcs0.keep (hU.same hBr _ hSb))
                  have hrd := hrd0.keep (hU.same hBr) (Sub.refl _)
                  have HTx := Lib.hid (fun W g => HTY.out t.of[k] (List.getElem_mem hlt) _ W g hrd0)
                  clear hrd hrd0 hcs0 hi HTY
                  go_wp2_with fail
                  refine (HTx.out _ (hBr.alloc hz _)).mono ?_
                  rintro e w2 ⟨n, rfl, hn0, hn1, hB2⟩
                  have hB3 := (hBr.alloc hz _).up hB2 (by simp; omega)
                  clear HTx g0 g1 g2
                  by_cases hn : n = 0
                  · subst hn
                    go_wp2_with fail
                    go_roundw
                    case rel => exact ⟨k + 1, by omega, by go_num, hB3⟩
                    case measure => simp [intOf]; omega
                  · have hn2 : (n != 0) = true := by rw [bne_iff_ne]; exact hn
                    clear hn
                    go_wp2_with fail
                    go_ret
                    exact WkI.mk n rfl hn0 hn1 hB3
                · go_wp2_with fail
                  go_ret
                  exact WkI.mk 0 rfl (by decide) (by decide) hBr
            · go_enter Tryz.func312, Tryz.ntmps312
              go_upto_region 1 with fail
              refine abs_wp (fun W => Below w.heap.size w W ∧ Blk W w.heap.size [.int .i64 t.kind, .string t.name, .slice a t.of.length cap] 206) ?_ ?_
              · exact ⟨(Below.refl _ _).alloc (Nat.le_refl _) _, Blk.new w _ _⟩
              rintro W1 ⟨hB1, hX1⟩
              have xl := hX1.lt
              have x0 := hX1.cell 0
              have x1' := hX1.cell 1
              have x2' := hX1.cell 2
              simp at x0 x1' x2'
              go_quiet ((go_at_call 331; exact Calls.quiet_eq (HA.out _)))
              go_wp2_with fail
              go_ret
              exact WkI.mk 8 rfl (by decide) (by decide) (hB1.dN _)
          · have k9 : (t.kind == 9) = false := by rw [beq_eq_false_iff_ne]; exact c9
            by_cases c8 : t.kind = 8
            · have k8 : (t.kind == 8) = true := by rw [beq_iff_eq]; exact c8
              have h2 : 0 < t.of.length := by
                have : arityI t.kind = 2 := by rw [c8]; rfl
                omega
              clear c9 c8 a2
              go_enter Tryz.func312, Tryz.ntmps312
              go_upto_region 1 with fail
              refine abs_wp (fun W => Below w.heap.size w W ∧ Blk W w.heap.size [.int .i64 t.kind, .string t.name, .slice a t.of.length cap] 206) ?_ ?_
              · exact ⟨(Below.refl _ _).alloc (Nat.le_refl _) _, Blk.new w _ _⟩
              rintro W1 ⟨hB1, hX1⟩
              have xl := hX1.lt
              have x0 := hX1.cell 0
              have x1' := hX1.cell 1
              have x2' := hX1.cell 2
              simp at x0 x1' x2'
              go_quiet ((go_at_call 331; exact Calls.quiet_eq (HA.out _)))
              go_upto_region 18 with fail
              refine abs_wp (fun W => Below w.heap.size w W ∧ Blk W w.heap.size [.int .i64 t.kind, .string t.name, .slice a t.of.length cap] 206) ?_ ?_
              · exact ⟨hB1.dN _, hX1.keep rfl⟩
              clear xl x0 x1' x2' hB1 hX1
              rintro W1 ⟨hB1, hX1⟩
              have xl := hX1.lt
              have x0 := hX1.cell 0
              have x1' := hX1.cell 1
              have x2' := hX1.cell 2
              simp at x0 x1' x2'
              have Hi := Lib.hid hi
              obtain ⟨b, off, cs, rfl, hSb, _, hcs0, hrd0⟩ := RSl.at hi h2
              obtain ⟨eoa, eoc, rfl, ek, en, eo⟩ := hrd0.cells
              obtain ⟨g0, g1, g2⟩ := cells3 (hcs0.keep (hU.same hB1 _ hSb))
              have hrd := hrd0.keep (hU.same hB1) (Sub.refl _)
              simp only [Nat.zero_mul, Nat.add_zero] at g0 g1 g2
              have HKx := Lib.hid (HKY.out t.of[0] eoa eoc)
              have hlen : (0 : Int) < t.of.length := by omega
              clear hi hrd hrd0 hcs0
              go_wp2_with fail
              refine (HKx.out _ hB1).mono ?_
              rintro e w2 ⟨rfl, hB2⟩
              have hB3 := hB1.up hB2 hB1.size
              have X3 := hX1.below hB2 xl
              have hi := Hi.out
              clear Hi g0 g1 g2 HKx
              cases hky : keyedB l t.of[0]
              · clear hky
                go_wp2_with fail
                go_ret
                exact WkI.mk 8 rfl (by decide) (by decide) hB3
              · clear hky
                go_upto_region 20 with fail
                refine abs_wp (fun W => Below w.heap.size w W ∧ Blk W w.heap.size [.int .i64 t.kind, .string t.name, .slice (some ⟨b, off, none⟩) t.of.length cap] 206) ?_ ?_
                · exact ⟨hB3, X3⟩
                clear xl x0 x1' x2' hB1 hX1
                rintro W1 ⟨hB1, hX1⟩
                have xl := hX1.lt
                have x0 := hX1.cell 0
                have x1' := hX1.cell 1
                have x2' := hX1.cell 2
                simp at x0 x1' x2'
                go_wp2_with fail
                clear x0 x1' x2'
                go_loopw [71] (fun i wr => ∃ k : Nat, k ≤ t.of.length ∧ i = .int .i64 k ∧ Below w.heap.size w wr) (fun i _ => t.of.length - (intOf i).toNat)
                case atStart => exact ⟨0, by omega, rfl, hB1⟩
                case round =>
                  obtain ⟨k, hkl, rfl, hBr⟩ := hrel
                  have hz := hBr.size
                  by_cases hlt : k < t.of.length
                  · obtain ⟨b, off, cs, hab, hSb, _, hcs0, hrd0⟩ := RSl.at hi hlt
                    first
                      | subst hab
                      | (simp only [Option.some.injEq, Addr.mk.injEq] at hab
                         obtain ⟨rfl, rfl, _⟩ := hab)
                    obtain ⟨eoa, eoc, rfl, ek, en, eo⟩ := hrd0.cells
                    obtain ⟨g0, g1, g2⟩ := cells3 (hcs0.keep (hU.same hBr _ hSb))
                    have hrd := hrd0.keep (hU.same hBr) (Sub.refl _)
                    have HTx := Lib.hid (fun W g => HTY.out t.of[k] (List.getElem_mem hlt) _ W g hrd0)
                    clear hrd hrd0 hcs0 hi HTY
                    go_wp2_with fail
                    refine (HTx.out _ (hBr.alloc hz _)).mono ?_
                    rintro e w2 ⟨n, rfl, hn0, hn1, hB2⟩
                    have hB3 := (hBr.alloc hz _).up hB2 (by simp; omega)
                    clear HTx g0 g1 g2
                    by_cases hn : n = 0
                    · subst hn
                      go_wp2_with fail
                      go_roundw
                      case rel => exact ⟨k + 1, by omega, by go_num, hB3⟩
                      case measure => simp [intOf]; omega
                    · have hn2 : (n != 0) = true := by rw [bne_iff_ne]; exact hn
                      clear hn
                      go_wp2_with fail
                      go_ret
                      exact WkI.mk n rfl hn0 hn1 hB3
                  · go_wp2_with fail
                    go_ret
                    exact WkI.mk 0 rfl (by decide) (by decide) hBr
            · have k8 : (t.kind == 8) = false := by rw [beq_eq_false_iff_ne]; exact c8
              clear c9 c8 a2
              go_enter Tryz.func312, Tryz.ntmps312
              go_upto_region 1 with fail
              refine abs_wp (fun W => Below w.heap.size w W ∧ Blk W w.heap.size [.int .i64 t.kind, .string t.name, .slice a t.of.length cap] 206) ?_ ?_
              · exact ⟨(Below.refl _ _).alloc (Nat.le_refl _) _, Blk.new w _ _⟩
              rintro W1 ⟨hB1, hX1⟩
              have xl := hX1.lt
              have x0 := hX1.cell 0
              have x1' := hX1.cell 1
              have x2' := hX1.cell 2
              simp at x0 x1' x2'
              go_quiet ((go_at_call 331; exact Calls.quiet_eq (HA.out _)))
              go_upto_region 20 with fail
              refine abs_wp (fun W => Below w.heap.size w W ∧ Blk W w.heap.size [.int .i64 t.kind, .string t.name, .slice a t.of.length cap] 206) ?_ ?_
              · exact ⟨hB1.dN _, hX1.keep rfl⟩
              clear xl x0 x1' x2' hB1 hX1
              rintro W1 ⟨hB1, hX1⟩
              have xl := hX1.lt
              have x0 := hX1.cell 0
              have x1' := hX1.cell 1
              have x2' := hX1.cell 2
              simp at x0 x1' x2'
              go_wp2_with fail
              clear x0 x1' x2'
              go_loopw [71] (fun i wr => ∃ k : Nat, k ≤ t.of.length ∧ i = .int .i64 k ∧ Below w.heap.size w wr) (fun i _ => t.of.length - (intOf i).toNat)
              case atStart => exact ⟨0, by omega, rfl, hB1⟩
              case round =>
                obtain ⟨k, hkl, rfl, hBr⟩ := hrel
                have hz := hBr.size
                by_cases hlt : k < t.of.length
                · obtain ⟨b, off, cs, hab, hSb, _, hcs0, hrd0⟩ := RSl.at hi hlt
                  first
                    | subst hab
                    | (simp only [Option.some.injEq, Addr.mk.injEq] at hab
                       obtain ⟨rfl, rfl, _⟩ := hab)
                  obtain ⟨eoa, eoc, rfl, ek, en, eo⟩ := hrd0.cells
                  obtain ⟨g0, g1, g2⟩ := cells3 (hcs0.keep (hU.same hBr _ hSb))
                  have hrd := hrd0.keep (hU.same hBr) (Sub.refl _)
                  have HTx := Lib.hid (fun W g => HTY.out t.of[k] (List.getElem_mem hlt) _ W g hrd0)
                  clear hrd hrd0 hcs0 hi HTY
                  go_wp2_with fail
                  refine (HTx.out _ (hBr.alloc hz _)).mono ?_
                  rintro e w2 ⟨n, rfl, hn0, hn1, hB2⟩
                  have hB3 := (hBr.alloc hz _).up hB2 (by simp; omega)
                  clear HTx g0 g1 g2
                  by_cases hn : n = 0
                  · subst hn
                    go_wp2_with fail
                    go_roundw
                    case rel => exact ⟨k + 1, by omega, by go_num, hB3⟩
                    case measure => simp [intOf]; omega
                  · have hn2 : (n != 0) = true := by rw [bne_iff_ne]; exact hn
                    clear hn
                    go_wp2_with fail
                    go_ret
                    exact WkI.mk n rfl hn0 hn1 hB3
                · go_wp2_with fail
                  go_ret
                  exact WkI.mk 0 rfl (by decide) (by decide) hBr
    · have n1 : ((t.of.length : Int) != arityI t.kind) = true := by rw [bne_iff_ne]; exact a1
      have n2 : ((t.of.length : Int) == arityI t.kind) = false := by rw [beq_eq_false_iff_ne]; exact a1
      go_enter Tryz.func312, Tryz.ntmps312
      go_wp2_with fail
      go_quiet ((go_at_call 331; exact Calls.quiet_eq (HA.out _)))
      go_wp2_with fail
      go_ret
      exact WkI.mk 8 rfl (by decide) (by decide) (((Below.refl _ _).alloc (Nat.le_refl _) _).dN _)
end Go.Proofs.YtfoihafhpmbaeaaGreatDoor

/- Tags and names that stood ahead. -/
namespace Go.Proofs.YtfoihafhpmbaeaaGreatDoor
open Go.RowKit

def IntVals {α : Type} (m : List (α × Value)) : Prop := ∀ kv ∈ m, ∃ v : Int, kv.2 = .int .i64 v
theorem IntVals.get {α : Type} [DecidableEq α] {m : List (α × Value)} (h : IntVals m) (a : α) : ∃ v : Int, (mget m a).getD (.int .i64 0) = .int .i64 v := by
  unfold mget
  cases hf : m.find? (fun kv => decide (kv.1 = a)) with
  | none => exact ⟨0, rfl⟩
  | some kv =>
    obtain ⟨v, hv⟩ := h kv (List.mem_of_find?_eq_some hf)
    exact ⟨v, by simp [hv]⟩
theorem IntVals.put {α : Type} [DecidableEq α] {m : List (α × Value)} (h : IntVals m) (a : α) (v : Int) : IntVals (mput m a (.int .i64 v)) := by
  unfold mput
  split
  · intro kv hkv
    rw [List.mem_map] at hkv
    obtain ⟨x, hx, rfl⟩ := hkv
    by_cases e : x.1 = a
    · rw [if_pos e]; exact ⟨v, rfl⟩
    · rw [if_neg e]; exact h x hx
  · intro kv hkv
    rw [List.mem_append] at hkv
    rcases hkv with hkv | hkv
    · exact h kv hkv
    · simp at hkv; exact ⟨v, by rw [hkv]⟩

/-- what stood ahead, in memory from B on -/
structure SeenAt (B : Nat) (w : World) (sb mb1 mb2 : Nat) : Prop where
  b0 : B ≤ sb
  b1 : B ≤ mb1
  b2 : B ≤ mb2
  n12 : mb1 ≠ mb2
  n01 : sb ≠ mb1
  n02 : sb ≠ mb2
  blk : Blk w sb [.map (some mb1), .map (some mb2)] 402
  tags : ∃ m, MapIs (Value.int .i64) w mb1 m ∧ IntVals m
  names : ∃ m, MapIs Value.string w mb2 m ∧ IntVals m
theorem SeenAt.keep {B : Nat} {w w' : World} {sb mb1 mb2 : Nat} (h : SeenAt B w sb mb1 mb2) (h0 : w'.heap[sb]? = w.heap[sb]?) (h1 : w'.heap[mb1]? = w.heap[mb1]?) (h2 : w'.heap[mb2]? = w.heap[mb2]?) : SeenAt B w' sb mb1 mb2 := by
  obtain ⟨m1, t1, t2⟩ := h.tags
  obtain ⟨m2, u1, u2⟩ := h.names
  exact ⟨h.b0, h.b1, h.b2, h.n12, h.n01, h.n02, h.blk.keep h0, ⟨m1, t1.keep h1, t2⟩, ⟨m2, u1.keep h2, u2⟩⟩
theorem SeenAt.below {B C : Nat} {w w' : World} {sb mb1 mb2 : Nat} (h : SeenAt B w sb mb1 mb2) (g : Below C w w') (hC : w.heap.size ≤ C) : SeenAt B w' sb mb1 mb2 := by
  obtain ⟨m1, t1, t2⟩ := h.tags
  obtain ⟨m2, u1, u2⟩ := h.names
  exact h.keep (g.block _ (Nat.lt_of_lt_of_le h.blk.lt hC)) (g.block _ (Nat.lt_of_lt_of_le t1.lt hC)) (g.block _ (Nat.lt_of_lt_of_le u1.lt hC))

/-- some error; what stood ahead is told anew -/
def WkS (B : Nat) (sb mb1 mb2 : Nat) (w : World) (e : Ending) (w' : World) : Prop := ∃ n : Int, e = .returned (.int .i64 n) ∧ 0 ≤ n ∧ n ≤ 20 ∧ SeenAt B w' sb mb1 mb2 ∧ Below B w w' ∧ ∀ k, k < w.heap.size → k ≠ mb1 → k ≠ mb2 → w'.heap[k]? = w.heap[k]?

set_option maxHeartbeats 1000000 in
theorem row_wk {B : Nat} {w : World} {sb mb1 mb2 : Nat} (h : SeenAt B w sb mb1 mb2) (tag : Int) (name : ByteArray) (least most : Int) :
    Calls Tryz.prog 281 #[.pointer (some ⟨sb, 0, none⟩), .int .i64 tag, .string name, .int .i64 least, .int .i64 most] w (WkS B sb mb1 mb2 w) := by
  have H := Lib.hid h
  by_cases hin : tag < least ∨ most < tag
  · clear h
    rcases hin with h1 | h1
    · go_enter Tryz.func281, Tryz.ntmps281
      go_wp2_with fail
      go_ret
      exact ⟨9, rfl, by decide, by decide, H.out, Below.refl _ _, fun _ _ _ _ => rfl⟩
    · by_cases h0 : tag < least
      all_goals
        go_enter Tryz.func281, Tryz.ntmps281
        go_wp2_with fail
        go_ret
        exact ⟨9, rfl, by decide, by decide, H.out, Below.refl _ _, fun _ _ _ _ => rfl⟩
  · have h1 : ¬ tag < least := fun e => hin (.inl e)
    have h2 : ¬ most < tag := fun e => hin (.inr e)
    clear hin
    obtain ⟨m1, t1, t2⟩ := h.tags
    obtain ⟨m2, u1, u2⟩ := h.names
    have c0 := h.blk.cell 0
    have c1 := h.blk.cell 1
    simp at c0 c1
    have lb := h.blk.lt
    obtain ⟨v1, hv1⟩ := t2.get tag
    have q1 : (Instr.lookup 400 (.map (some mb1)) (.int .i64 tag) false).run Tryz.prog w = .ok (.int .i64 v1) w := by
      have := t1.look intKey Tryz.underlying400 Tryz.underlying3 (zeroInt w) tag false
      rw [this, ← hv1]; rfl
    have HT1 := Lib.hid t1
    have t2' : IntVals m1 := t2
    have HU1 := Lib.hid u1
    have HU2 := Lib.hid u2
    have HT2 := Lib.hid t2'
    clear t1 t2 t2' u1 u2 h hv1
    go_enter Tryz.func281, Tryz.ntmps281
    go_wp2_with (refine wpList_map_put rfl (.tmp 22) (.tmp 23) (.tmp 25) rfl Tryz.underlying400 Tryz.underlying3 intKey HT1.out tag _ rfl rfl rfl ?_)
    intro w1 M1 G1 z1
    have S1 : SeenAt B w1 sb mb1 mb2 := ⟨H.out.b0, H.out.b1, H.out.b2, H.out.n12, H.out.n01, H.out.n02, H.out.blk.grown G1 (fun e => by injection e with e; exact H.out.n01 e), ⟨_, M1, HT2.out.put tag _⟩,
      ⟨_, HU1.out.keep (G1.block _ HU1.out.lt (fun e => by injection e with e; exact H.out.n12 e.symm)), HU2.out⟩⟩
    have B1 : Below B w w1 := (Below.refl _ _).grown G1 (by have := H.out.b0; omega) (fun k e => by injection e with e; subst e; exact H.out.b1)
    have U1 := HU1.out.keep (w' := w1) (G1.block _ HU1.out.lt (fun e => by injection e with e; exact H.out.n12 e.symm))
    have d0 := S1.blk.cell 0
    have d1 := S1.blk.cell 1
    simp at d0 d1
    have lb1 := S1.blk.lt
    obtain ⟨v2, hv2⟩ := HU2.out.get name
    have q2 : (Instr.lookup 372 (.map (some mb2)) (.string name) false).run Tryz.prog w1 = .ok (.int .i64 v2) w1 := by
      have := U1.look strKey Tryz.underlying372 Tryz.underlying9 (zeroInt w1) name false
      rw [this, ← hv2]; rfl
    have HB1 := Lib.hid B1
    have HX1 : Hid (w1.heap.size = w.heap.size) := z1
    have HX2 : Hid (∀ k, k < w.heap.size → some k ≠ some mb1 → w1.heap[k]? = w.heap[k]?) := fun k hk hn => G1.block k hk hn
    have HS1 := Lib.hid S1
    clear hv2 M1 G1 z1 c0 c1 q1 B1 S1
    go_wp2_with (refine wpList_map_put rfl (.tmp 29) (.tmp 30) (.tmp 32) rfl Tryz.underlying372 Tryz.underlying9 strKey U1 name _ rfl rfl rfl ?_)
    intro w2 M2 G2 z2
    obtain ⟨m1', t1', t2''⟩ := HS1.out.tags
    have S2 : SeenAt B w2 sb mb1 mb2 := ⟨H.out.b0, H.out.b1, H.out.b2, H.out.n12, H.out.n01, H.out.n02, HS1.out.blk.grown G2 (fun e => by injection e with e; exact H.out.n02 e),
      ⟨_, t1'.keep (G2.block _ t1'.lt (fun e => by injection e with e; exact H.out.n12 e)), t2''⟩, ⟨_, M2, HU2.out.put name _⟩⟩
    have B2 : Below B w w2 := HB1.out.grown G2 (by have := H.out.b0; have := HB1.out.size; omega) (fun k e => by injection e with e; subst e; exact H.out.b2)
    have HX : Hid (∀ k, k < w.heap.size → k ≠ mb1 → k ≠ mb2 → w2.heap[k]? = w.heap[k]?) := fun k hk n1 n2 => (G2.block k (by have := HX1.out; omega) (fun e => n2 (by injection e))).trans (HX2.out k hk (fun e => n1 (by injection e)))
    have HS2 := Lib.hid S2
    have HB2 := Lib.hid B2
    have e0 := S2.blk.cell 0
    have e1 := S2.blk.cell 1
    simp at e0 e1
    have lb2 := S2.blk.lt
    obtain ⟨n1, p1, p2⟩ := S2.tags
    obtain ⟨n2, r1, r2⟩ := S2.names
    obtain ⟨v3, hv3⟩ := p2.get tag
    have q3 : (Instr.lookup 400 (.map (some mb1)) (.int .i64 tag) false).run Tryz.prog w2 = .ok (.int .i64 v3) w2 := by
      have := p1.look intKey Tryz.underlying400 Tryz.underlying3 (zeroInt w2) tag false
      rw [this, ← hv3]; rfl
    obtain ⟨v4, hv4⟩ := r2.get name
    have q4 : (Instr.lookup 372 (.map (some mb2)) (.string name) false).run Tryz.prog w2 = .ok (.int .i64 v4) w2 := by
      have := r1.look strKey Tryz.underlying372 Tryz.underlying9 (zeroInt w2) name false
      rw [this, ← hv4]; rfl
    clear hv3 hv4 p1 p2 r1 r2 M2 G2 z2 d0 d1 q2 U1 t1' t2'' S2 B2
    by_cases g3 : 1 < v3
    · go_wp2_with fail
      go_ret
      exact ⟨7, rfl, by decide, by decide, HS2.out, HB2.out, HX.out⟩
    · by_cases g4 : 1 < v4
      · go_wp2_with fail
        go_ret
        exact ⟨7, rfl, by decide, by decide, HS2.out, HB2.out, HX.out⟩
      · go_wp2_with fail
        go_ret
        exact ⟨0, rfl, by decide, by decide, HS2.out, HB2.out, HX.out⟩
end Go.Proofs.YtfoihafhpmbaeaaGreatDoor

/- Fields and methods are checked. -/
namespace Go.Proofs.YtfoihafhpmbaeaaGreatDoor
open Go.RowKit

set_option maxHeartbeats 1000000 in
theorem field_wk {S0 S : Blocks} {l : List Dcl} {cb : Nat} {w : World} (hC : RChk S0 w l cb) (hU0 : Under S0 w) (f : Fld) (fc : List Value) (hf : RFld S w f fc) (hU : Under S w) (kind pos : Int) (name : ByteArray) (fs ms : Value) :
    Calls Tryz.prog 282 #[.pointer (some ⟨cb, 0, none⟩), .agg #[.int .i64 kind, .string name, fs, ms, .int .i64 pos], .agg fc.toArray] w (WkI w) := by
  obtain ⟨oa, oc, rfl, hft, hfn, hrt⟩ := hf
  have HT : Hid (∀ W, Below w.heap.size w W → Calls Tryz.prog 312 #[.pointer (some ⟨cb, 0, none⟩), .agg #[.int .i64 f.type.kind, .string f.type.name, .slice oa f.type.of.length oc], .bool false] W (WkI W)) := fun W g =>
    typ_wk f.type false _ S W (hC.keep (hU0.same g)) (hU0.below g) (hrt.keep (hU.same g) (Sub.refl _)) (hU.below g)
  have hz := hC.2
  generalize f.type.of.length = tl at *
  generalize f.type.kind = tk at *
  generalize f.type.name = tn at *
  generalize f.tag = ft at *
  generalize f.name = fn at *
  clear hrt hC hz
  have B2 : Below w.heap.size w ((w.alloc (.cells #[.int .i64 kind, .string name, fs, ms, .int .i64 pos] 149)).alloc (.cells #[.int .i64 ft, .string fn, .int .i64 tk, .string tn, .slice oa tl oc] 208)) :=
    ((Below.refl _ _).alloc (Nat.le_refl _) _).alloc (by simp) _
  have HB2 := Lib.hid B2
  clear B2
  by_cases h3 : kind = 3
  · have k3 : (kind == 3) = true := by rw [beq_iff_eq]; exact h3
    clear h3
    go_enter Tryz.func282, Tryz.ntmps282
    go_wp2_with fail
    go_ret
    exact WkI.mk 0 rfl (by decide) (by decide) HB2.out
  · have k3 : (kind == 3) = false := by rw [beq_eq_false_iff_ne]; exact h3
    clear h3
    go_enter Tryz.func282, Tryz.ntmps282
    go_wp2_with fail
    refine (HT.out _ HB2.out).mono ?_
    rintro e w2 ⟨n, rfl, hn0, hn1, hB2⟩
    have B3 := HB2.out.up hB2 (by simp; omega)
    have D2 := (Blk.new w [.int .i64 kind, .string name, fs, ms, .int .i64 pos] 149).alloc (.cells #[.int .i64 ft, .string fn, .int .i64 tk, .string tn, .slice oa tl oc] 208)
    have F2 := Blk.new (w.alloc (.cells #[.int .i64 kind, .string name, fs, ms, .int .i64 pos] 149)) [.int .i64 ft, .string fn, .int .i64 tk, .string tn, .slice oa tl oc] 208
    have D3 := D2.below hB2 D2.lt
    have F3 := F2.below hB2 F2.lt
    have d0 := D3.cell 0
    have f2 := F3.cell 2
    have e1 : (w.alloc (.cells #[.int .i64 kind, .string name, fs, ms, .int .i64 pos] 149)).heap.size = w.heap.size + 1 := by simp
    rw [e1] at f2
    simp at d0 f2
    clear D2 F2 D3 F3
    by_cases hn : n = 0
    · subst hn
      by_cases h2 : kind = 2
      · have k2 : (kind == 2) = true := by rw [beq_iff_eq]; exact h2
        clear h2
        by_cases h9 : tk = 9
        · have k9 : (tk == 9) = true := by rw [beq_iff_eq]; exact h9
          clear h9
          go_wp2_with fail
          go_ret
          exact WkI.mk 8 rfl (by decide) (by decide) B3
        · have k9 : (tk == 9) = false := by rw [beq_eq_false_iff_ne]; exact h9
          clear h9
          go_wp2_with fail
          go_ret
          exact WkI.mk 0 rfl (by decide) (by decide) B3
      · have k2 : (kind == 2) = false := by rw [beq_eq_false_iff_ne]; exact h2
        clear h2
        go_wp2_with fail
        go_ret
        exact WkI.mk 0 rfl (by decide) (by decide) B3
    · have hn2 : (n != 0) = true := by rw [bne_iff_ne]; exact hn
      clear hn
      go_wp2_with fail
      go_ret
      exact WkI.mk n rfl hn0 hn1 B3

set_option maxHeartbeats 1000000 in
theorem method_wk {S0 : Blocks} {l : List Dcl} {cb : Nat} {w : World} (hC : RChk S0 w l cb) (hU0 : Under S0 w) (tag : Int) (name inn out : ByteArray) (ow : Bool) :
    Calls Tryz.prog 283 #[.pointer (some ⟨cb, 0, none⟩), .agg #[.int .i64 tag, .string name, .string inn, .string out, .bool ow]] w (WkI w) := by
  obtain ⟨hcb, la, lc, tb, hCB, hL, hT⟩ := hC
  have c1 := hCB.cell 1
  have hlt := hCB.lt
  simp at c1
  have HK : Hid (∀ W nm, Below w.heap.size w W → Calls Tryz.prog 199 #[.pointer (some ⟨tb, 0, none⟩), .string nm] W fun e w' => e = .returned (.int .i64 (kindD l nm)) ∧ W = w') := fun W nm g => Kind_calls (hT.keep (hU0.same g) (Sub.refl _)) nm
  have HF : Hid (∀ W nm, Below w.heap.size w W → Calls Tryz.prog 196 #[.pointer (some ⟨tb, 0, none⟩), .string nm] W fun e w' => e = .returned (.tuple #[.int .i64 (findI l nm), .bool (hasD l nm)]) ∧ W = w') := fun W nm g => Find_calls (hT.keep (hU0.same g) (Sub.refl _)) nm
  have HC : Hid (∀ W, Below w.heap.size w W → W.cell? ⟨cb, 1, none⟩ = some (.pointer (some ⟨tb, 0, none⟩))) := fun W g => by
    rw [World.cell?_of_block (g.block cb hlt)]; exact c1
  have hcl : cb < w.heap.size := hlt
  clear hT hL hCB c1 hlt
  go_enter Tryz.func283, Tryz.ntmps283
  go_wp2_with fail
  have N1 := Blk.new (w.alloc (.cells #[.int .i64 tag, .string name, .string inn, .string out, .bool ow] 76)) [.string inn, .string out] 9
  have e1 : (w.alloc (.cells #[.int .i64 tag, .string name, .string inn, .string out, .bool ow] 76)).heap.size = w.heap.size + 1 := by simp
  rw [e1] at N1
  go_loopw [15] (fun i wr => ∃ k : Nat, k ≤ 2 ∧ i = .int .i64 k ∧ Below w.heap.size w wr ∧ Blk wr (w.heap.size + 1) [.string inn, .string out] 9) (fun i _ => 2 - (intOf i).toNat)
  case atStart => exact ⟨0, by omega, rfl, ((Below.refl _ _).alloc (Nat.le_refl _) _).alloc (by simp) _, N1⟩
  case round =>
    obtain ⟨k, hk, rfl, hBr, hN⟩ := hrel
    have hz := hBr.size
    have q1 := HC.out _ hBr
    have g0 := hN.cell 0
    have g1 := hN.cell 1
    simp at g0 g1
    have HBr := Lib.hid hBr
    have HN := Lib.hid hN
    clear N1 e1 hN
    rcases (show k = 0 ∨ k = 1 ∨ k = 2 by omega) with rfl | rfl | rfl
    · obtain ⟨fi, hfi⟩ : ∃ f, findI l inn = f := ⟨_, rfl⟩
      have HFx := Lib.hid (HF.out wr inn hBr)
      have HKx := Lib.hid (HK.out wr inn hBr)
      generalize findI l inn = fi at *
      generalize kindD l inn = kd at *
      cases hhd : hasD l inn
      all_goals
        rw [hhd] at HFx
        clear hhd hfi hBr
      · go_wp2_with fail
        refine HFx.out.mono ?_
        rintro e w2 ⟨rfl, rfl⟩
        go_wp2_with fail
        go_ret
        exact WkI.mk 6 rfl (by decide) (by decide) HBr.out
      · by_cases h1 : kd = 1
        · have k1 : (kd != 1) = false := by rw [bne_eq_false_iff_eq]; exact h1
          clear h1
          go_wp2_with fail
          refine HFx.out.mono ?_
          rintro e w2 ⟨rfl, rfl⟩
          go_wp2_with fail
          refine HKx.out.mono ?_
          rintro e w2 ⟨rfl, rfl⟩
          go_wp2_with fail
          go_roundw
          case rel => exact ⟨1, by omega, rfl, HBr.out, HN.out⟩
          case measure => simp [intOf]
        · have k1 : (kd != 1) = true := by rw [bne_iff_ne]; exact h1
          clear h1
          go_wp2_with fail
          refine HFx.out.mono ?_
          rintro e w2 ⟨rfl, rfl⟩
          go_wp2_with fail
          refine HKx.out.mono ?_
          rintro e w2 ⟨rfl, rfl⟩
          go_wp2_with fail
          go_ret
          exact WkI.mk 8 rfl (by decide) (by decide) HBr.out
    · obtain ⟨fi, hfi⟩ : ∃ f, findI l out = f := ⟨_, rfl⟩
      have HFx := Lib.hid (HF.out wr out hBr)
      have HKx := Lib.hid (HK.out wr out hBr)
      generalize findI l out = fi at *
      generalize kindD l out = kd at *
      cases hhd : hasD l out
      all_goals
        rw [hhd] at HFx
        clear hhd hfi hBr
      · go_wp2_with fail
        refine HFx.out.mono ?_
        rintro e w2 ⟨rfl, rfl⟩
        go_wp2_with fail
        go_ret
        exact WkI.mk 6 rfl (by decide) (by decide) HBr.out
      · by_cases h1 : kd = 1
        · have k1 : (kd != 1) = false := by rw [bne_eq_false_iff_eq]; exact h1
          clear h1
          go_wp2_with fail
          refine HFx.out.mono ?_
          rintro e w2 ⟨rfl, rfl⟩
          go_wp2_with fail
          refine HKx.out.mono ?_
          rintro e w2 ⟨rfl, rfl⟩
          go_wp2_with fail
          go_roundw
          case rel => exact ⟨2, by omega, rfl, HBr.out, HN.out⟩
          case measure => simp [intOf]
        · have k1 : (kd != 1) = true := by rw [bne_iff_ne]; exact h1
          clear h1
          go_wp2_with fail
          refine HFx.out.mono ?_
          rintro e w2 ⟨rfl, rfl⟩
          go_wp2_with fail
          refine HKx.out.mono ?_
          rintro e w2 ⟨rfl, rfl⟩
          go_wp2_with fail
          go_ret
          exact WkI.mk 8 rfl (by decide) (by decide) HBr.out
    · go_wp2_with fail
      go_ret
      exact WkI.mk 0 rfl (by decide) (by decide) HBr.out
end Go.Proofs.YtfoihafhpmbaeaaGreatDoor
