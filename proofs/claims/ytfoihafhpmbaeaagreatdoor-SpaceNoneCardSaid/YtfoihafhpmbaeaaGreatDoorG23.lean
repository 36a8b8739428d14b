/- The table of names. -/
import Derived.StillTailTactics
import Derived.Test.YtfoihafhpmbaeaaGreatDoorG22
namespace Go.Proofs.YtfoihafhpmbaeaaGreatDoor
open Go.RowKit

abbrev RInt' : Blocks → World → Int → List Value → Prop := fun _ _ n cs => RInt n cs
theorem keepsInt : Keeps RInt' := fun _ _ r => r
theorem info_int : (Tryz.prog.info? 3).map (fun i => (i.zero, i.size, i.bytes)) = some (some (.int .i64 0), 1, 8) := by kernel_rfl
theorem findD_take {l : List Dcl} {k : Nat} (hk : k < l.length) (nm : ByteArray) : findD (l.take (k + 1)) nm = if (findD (l.take k) nm).isSome then findD (l.take k) nm else if l[k].name = nm then some k else none := by
  have e : l.take (k + 1) = l.take k ++ [l[k]] := by rw [List.take_add_one]; simp [hk]
  unfold findD
  rw [e, List.findIdx?_append]
  have hlen : (l.take k).length = k := by simp; omega
  cases hf : List.findIdx? (fun d => decide (d.name = nm)) (l.take k) with
  | some i => simp
  | none =>
    by_cases hn : l[k].name = nm
    · simp [List.findIdx?_cons, hn, hlen]
    · simp [List.findIdx?_cons, hn]

theorem mget_put_same {α : Type} [DecidableEq α] {m : List (α × Value)} {a : α} {v : Value} (h : mget m a = none) : mget (mput m a v) a = some v := by
  unfold mput
  rw [h]
  unfold mget at *
  rw [Option.map_eq_none_iff] at h
  simp [List.find?_append, h]
theorem mget_put_new {α : Type} [DecidableEq α] {m : List (α × Value)} {a b : α} {v : Value} (h : mget m a = none) (hb : b ≠ a) : mget (mput m a v) b = mget m b := by
  unfold mput
  rw [h]
  unfold mget at *
  simp [List.find?_append, Ne.symm hb]

set_option maxHeartbeats 1000000 in
theorem Of_calls {S : Blocks} {l : List Dcl} {la : Option Addr} {lc : Nat} {w : World} (h : RSl 5 (RDcl S w) S w l la lc) (hU : Under S w) (hl : l.length ≤ 1000) :
    Calls Tryz.prog 195 #[.slice la l.length lc] w fun e w' => ∃ tb, e = .returned (.pointer (some ⟨tb, 0, none⟩)) ∧ RTab (New w w') w' l tb ∧ Below w.heap.size w w' := by
  have hmm := @run_makeMap Tryz.prog
  obtain ⟨hc, hl2⟩ := h.le
  go_enter Tryz.func195, Tryz.ntmps195
  go_wp2_with fail
  go_loopw [13] (fun i wr => ∃ (k : Nat) (ka : Option Addr) (kc : Nat) (m : List (ByteArray × Value)), k ≤ l.length ∧ i = .int .i64 k ∧ Below w.heap.size w wr ∧
      Blk wr (w.heap.size + 1) [.map (some w.heap.size), .slice ka ((l.take k).map Dcl.kind).length kc] 374 ∧ MapIs Value.string wr w.heap.size m ∧
      (∀ nm, mget m nm = (findD (l.take k) nm).map (fun i => .int .i64 (i : Int))) ∧ OwnL RInt' (w.heap.size + 2) (fun _ => False) 3 1 wr ((l.take k).map Dcl.kind) ka kc) (fun i _ => l.length - (intOf i).toNat)
  case atStart =>
    refine ⟨0, none, 0, [], by omega, rfl, ((Below.refl _ _).alloc (Nat.le_refl _) _).alloc (by simp) _, ?_, ?_, fun nm => rfl, OwnL.nil _ _ _ _ _ _⟩
    · have := Blk.new (w.alloc (.map #[] 0)) [.map (some w.heap.size), .slice none 0 0] 374
      simpa using this
    · exact (MapIs.made Value.string w).keep (Below.heap_alloc _ _ _ (by simp))
  case round =>
    obtain ⟨k, ka, kc, m, hk, rfl, hB, hT, hM, hm, hO⟩ := hrel
    obtain ⟨wo, rfl⟩ : ∃ wo : World, wo = wr := ⟨_, rfl⟩
    have hsz := hT.lt
    have c0 := hT.cell 0
    have c1 := hT.cell 1
    have f1 := hT.free 1
    simp at c0 c1
    by_cases hlt : k < l.length
    · obtain ⟨b, off, cs, rfl, hSb, _, hcs0, hrd0⟩ := RSl.at h hlt
      obtain ⟨efa, efc, ema, emc, rfl, ek, en, ef, em, ep⟩ := id hrd0
      obtain ⟨g0, g1, g2, g3, g4⟩ := cells5 (hcs0.keep (hU.same hB _ hSb))
      have hrd := hrd0.keep (hU.same hB) (Sub.refl _)
      have lb : b < w.heap.size := hU b hSb
      go_upto_region 5 with fail
      obtain ⟨W1, hW1⟩ : ∃ W, wo.alloc (.cells #[.int .i64 l[k].kind, .string l[k].name, .slice efa l[k].fields.length efc, .slice ema l[k].methods.length emc, .int .i64 l[k].pos] 149) = W := ⟨_, rfl⟩
      have E1 : Blk W1 wo.heap.size [.int .i64 l[k].kind, .string l[k].name, .slice efa l[k].fields.length efc, .slice ema l[k].methods.length emc, .int .i64 l[k].pos] 149 := hW1 ▸ Blk.new wo _ _
      have T1 : Blk W1 (w.heap.size + 1) [.map (some w.heap.size), .slice ka ((l.take k).map Dcl.kind).length kc] 374 := hW1 ▸ hT.alloc _
      have M1 : MapIs Value.string W1 w.heap.size m := hW1 ▸ hM.keep (Below.heap_alloc _ _ _ hM.lt)
      have O1 : OwnL RInt' (w.heap.size + 2) (fun _ => False) 3 1 W1 ((l.take k).map Dcl.kind) ka kc := hW1 ▸ OwnL.keep (R := RInt') keepsInt hO (by simp) (fun b _ hb _ => Below.heap_alloc _ _ _ hb)
      have B1 : Below w.heap.size w W1 := hW1 ▸ hB.alloc hB.size _
      have hz1 : wo.heap.size + 1 ≤ W1.heap.size := by rw [← hW1]; simp
      rw [hW1]
      have hlk : ∀ W : World, W.heap = W1.heap → (Instr.lookup 372 (.map (some w.heap.size)) (.string l[k].name) true).run Tryz.prog W = .ok (.tuple #[.int .i64 (findI (l.take k) l[k].name), .bool (hasD (l.take k) l[k].name)]) W := fun W hW => by
        have h4' : MapIs Value.string W w.heap.size m := M1.keep (by rw [hW])
        have := h4'.look strKey Tryz.underlying372 Tryz.underlying9 (zeroInt W) l[k].name true
        rw [this, hm]
        unfold findI hasD
        cases findD (l.take k) l[k].name <;> rfl
      have q1 := hlk W1 rfl
      have q2 := hlk W1.drew rfl
      have t0 := T1.cell 0
      have t1 := T1.cell 1
      have x0 := E1.cell 0
      have x1 := E1.cell 1
      have y1 := T1.free 1
      have tl := T1.lt
      have xl := E1.lt
      simp at t0 t1 x0 x1
      have hrl : ∀ b, (Value.slice ka k kc).ownBlock = some b → w.heap.size + 2 ≤ b ∧ b < wo.heap.size := fun b e => by
        obtain ⟨xs', SS', j1, _⟩ := hO
        rw [show ((l.take k).map Dcl.kind).length = k by simp; omega] at j1
        exact j1.lt b e
      clear hlk hT hO c0 c1 f1 hmm
      have hft := fun nm => findD_take hlt nm
      cases hq : findD (l.take k) l[k].name with
      | some i =>
        have e2 : hasD (l.take k) l[k].name = true := by unfold hasD; rw [hq]; rfl
        rw [e2] at q1 q2
        go_region
        go_upto_region 8 with fail
        have T2 := T1.keep (w' := W1.drew) rfl
        have E3 := E1.keep (w' := W1.drew) rfl
        have M2 := M1.keep (w' := W1.drew) rfl
        have B3 := B1.drew
        have O2 : OwnL RInt' (w.heap.size + 2) (fun _ => False) 3 1 W1.drew ((l.take k).map Dcl.kind) ka kc := OwnL.keep (R := RInt') keepsInt O1 (Nat.le_refl _) (fun _ _ _ _ => rfl)
        have hm2 : ∀ nm, mget m nm = (findD (l.take (k + 1)) nm).map (fun i => .int .i64 (i : Int)) := fun nm => by
          rw [findD_take hlt nm, hm]
          by_cases e : l[k].name = nm
          · subst e
            rw [hq]
            simp
          · cases findD (l.take k) nm <;> simp [e]
        obtain ⟨W2, hW2⟩ : ∃ W, W1.drew = W := ⟨_, rfl⟩
        rw [hW2] at T2 E3 M2 B3 O2 ⊢
        have z2 : wo.heap.size + 1 ≤ W2.heap.size := by rw [← hW2]; exact hz1
        have lt2 := (T2).lt
        have le2 := (E3).lt
        have y1 := (T2).cell 1
        have y2 := (E3).cell 0
        have y3 := (T2).free 1
        simp only [List.getElem?_cons_succ, List.getElem?_cons_zero] at y1 y2
        obtain ⟨xs, SS, k1, k2, k3, k4, k5, k6⟩ := O2
        obtain ⟨i0, hi, hz0, hz1, hz2⟩ := info_parts info_int
        have hs2 := (B3).size
        have hlk : ((l.take k).map Dcl.kind).length = k := by simp; omega
        rw [hlk] at y1 k1
        refine wp_region_X (fun W => W.cell? ⟨w.heap.size + 1, 1, none⟩ = some (.slice ka k kc) ∧ W.cell? ⟨wo.heap.size, 0, none⟩ = some (.int .i64 l[k].kind)) 11 (by kernel_rfl) ⟨by simpa using y1, by simpa using y2⟩ (fun hS0 => ?_)
        refine wpAnyX_take (v := ?_) 0 rfl (by kernel_rfl) (by kernel_rfl) (by kernel_rfl) (by kernel_rfl) (fun _ _ _ h => h) (Or.inl ⟨by rfl, ?_⟩) (by assumption) ?_
        rotate_left 1
        · intro w hSw
          try dsimp only at hSw
          go_simp
          try with_reducible rfl
        simp only [List.getElem_toArray, List.getElem_cons_zero, Act.put, List.setIfInBounds_toArray, List.set_cons_zero, List.set_cons_succ]
        refine wpAnyX_take (v := ?_) 1 rfl (by kernel_rfl) (by kernel_rfl) (by kernel_rfl) (by kernel_rfl) (fun _ _ _ h => h) (Or.inl ⟨by rfl, ?_⟩) (by assumption) ?_
        rotate_left 1
        · intro w hSw
          try dsimp only at hSw
          go_simp
          try with_reducible rfl
        simp only [List.getElem_toArray, List.getElem_cons_succ, List.getElem_cons_zero, Act.put, List.setIfInBounds_toArray, List.set_cons_zero, List.set_cons_succ]
        refine wpAnyX_take (v := ?_) 2 rfl (by kernel_rfl) (by kernel_rfl) (by kernel_rfl) (by kernel_rfl) (fun _ _ _ h => h) (Or.inl ⟨by rfl, ?_⟩) (by assumption) ?_
        rotate_left 1
        · intro w hSw
          try dsimp only at hSw
          go_simp
          try with_reducible rfl
        simp only [List.getElem_toArray, List.getElem_cons_succ, List.getElem_cons_zero, Act.put, List.setIfInBounds_toArray, List.set_cons_zero, List.set_cons_succ]
        refine wpAnyX_take (v := ?_) 3 rfl (by kernel_rfl) (by kernel_rfl) (by kernel_rfl) (by kernel_rfl) (fun _ _ _ h => h) (Or.inl ⟨by rfl, ?_⟩) (by assumption) ?_
        rotate_left 1
        · intro w hSw
          try dsimp only at hSw
          go_simp
          try with_reducible rfl
        simp only [List.getElem_toArray, List.getElem_cons_succ, List.getElem_cons_zero, Act.put, List.setIfInBounds_toArray, List.set_cons_zero, List.set_cons_succ]
        refine wpAnyX_take (v := ?_) 4 rfl (by kernel_rfl) (by kernel_rfl) (by kernel_rfl) (by kernel_rfl) (fun _ _ _ h => h) (Or.inl ⟨by rfl, ?_⟩) (by assumption) ?_
        rotate_left 1
        · intro w hSw
          try dsimp only at hSw
          go_simp
          try with_reducible rfl
        simp only [List.getElem_toArray, List.getElem_cons_succ, List.getElem_cons_zero, Act.put, List.setIfInBounds_toArray, List.set_cons_zero, List.set_cons_succ]
        refine wpAnyX_take (v := ?_) 5 rfl (by kernel_rfl) (by kernel_rfl) (by kernel_rfl) (by kernel_rfl) (fun _ _ _ h => h) (Or.inl ⟨by rfl, ?_⟩) (by assumption) ?_
        rotate_left 1
        · intro w hSw
          try dsimp only at hSw
          go_simp
          try with_reducible rfl
        simp only [List.getElem_toArray, List.getElem_cons_succ, List.getElem_cons_zero, Act.put, List.setIfInBounds_toArray, List.set_cons_zero, List.set_cons_succ]
        refine wpAnyX_take (v := ?_) 6 rfl (by kernel_rfl) (by kernel_rfl) (by kernel_rfl) (by kernel_rfl) (fun _ _ _ h => h) (Or.inl ⟨by rfl, ?_⟩) (by assumption) ?_
        rotate_left 1
        · intro w hSw
          try dsimp only at hSw
          go_simp
          try with_reducible rfl
        simp only [List.getElem_toArray, List.getElem_cons_succ, List.getElem_cons_zero, Act.put, List.setIfInBounds_toArray, List.set_cons_zero, List.set_cons_succ]
        refine wpAnyX_one 7 (by kernel_rfl) rfl (fun K hK => ?_)
        go_simp
        refine hK.out _ _ (fun _ => ⟨by go_keep, by go_keep⟩) (fun hS1 => ?_)
        replace hS1 := hS1 (by decide)
        clear hK K hS0
        refine wpAnyX_one 8 (by kernel_rfl) rfl (fun K hK => ?_)
        refine step_append_lies _ (by rfl) _ _ _ (by rfl) (w.heap.size + 2) 3 i0 _ 1 8 Tryz.underlying233 hi hz0 hz1 hz2 rfl (by omega) (.slice ka k kc) k xs (by rfl) (k1.alloc _)
          ⟨(W2).heap.size, 0, none⟩ 1 1 [.int .i64 l[k].kind] (by rfl) (by rfl) (news_new (W2) [.int .i64 l[k].kind] _) (by simp [Value.oneCell'])
          (by omega) (by unfold maxLen; omega) (by omega) (by simp; omega) ((W2).heap.size + 1) (by simp) ?_
        intro g c' w4 hown hg hat hlt4
        have T4 := (T2).keep (w' := w4) ((hg.block _ (by simp; omega) (fun e => by have := hrl _ e.symm; omega)).trans (Below.heap_alloc (W2) _ _ lt2))
        have E4 := (E3).keep (w' := w4) ((hg.block _ (by simp; omega) (fun e => by have := hrl _ e.symm; omega)).trans (Below.heap_alloc (W2) _ _ le2))
        have y5 := T4.cell 1
        have y6 := E4.cell 0
        have y7 := T4.free 1
        have l4 := T4.lt
        simp only [List.getElem?_cons_succ, List.getElem?_cons_zero] at y5 y6
        rw [hlk] at y5
        refine hK.out _ _ (fun _ => ⟨y5, y6⟩) (fun hS0 => ?_)
        clear hK K hS1
        refine wpAnyX_one 9 (by kernel_rfl) rfl (fun K hK => ?_)
        go_simp
        refine hK.out _ _ (fun _ => ⟨y5, y6⟩) (fun _ => ?_)
        clear hK K
        refine wpAnyX_one 10 (by kernel_rfl) rfl (fun K hK => ?_)
        go_simp
        refine hK.out _ _ (fun _ => ⟨y5, y6⟩) (fun _ => ?_)
        clear hK K
        refine wpAnyX_one 11 (by kernel_rfl) rfl (fun K hK => ?_)
        go_simp
        refine hK.out _ _ (fun h => absurd h (by omega)) (fun _ => ?_)
        clear hK K hS0
        refine wpAnyX_done (by kernel_rfl) ?_ _
        go_wp2_with fail
        have etk : (l.take (k + 1)).map Dcl.kind = (l.take k).map Dcl.kind ++ [l[k].kind] := by rw [List.take_add_one, List.getElem?_eq_getElem hlt]; simp only [Option.toList, List.map_append, List.map_cons, List.map_nil]
        have B4 := (((B3).alloc hs2 (.cells #[.int .i64 l[k].kind] 3)).drew).grown hg (by simp; omega) (fun j e => by have := hrl j e; omega)
        have B5 := B4.setCell (p := ⟨w.heap.size + 1, 1, none⟩) (by show w.heap.size ≤ w.heap.size + 1; omega) (.slice (some ⟨g, 0, none⟩) (k + 1) c')
        have M4 := (M2).keep (w' := w4) ((hg.block _ (by have := (M2).lt; simp; omega) (fun e => by have := hrl _ e.symm; omega)).trans (Below.heap_alloc (W2) _ _ (M2).lt))
        have M5 := M4.keep (w' := w4.setCell ⟨w.heap.size + 1, 1, none⟩ (.slice (some ⟨g, 0, none⟩) (k + 1) c')) (Below.heap_setCell _ _ _ _ (by show w.heap.size ≠ w.heap.size + 1; omega))
        have T5 := T4.set 1 (.slice (some ⟨g, 0, none⟩) (k + 1) c')
        refine ⟨⟨k + 1, some ⟨g, 0, none⟩, c', m, by omega, rfl, B5, ?_, M5, hm2, ?_⟩, ?_⟩
        · rw [etk, List.length_append, hlk]; exact T5
        · rw [etk]
          have O5 := OwnL.snoc (R := RInt') (sz := 1) (X := fun _ => False) (S1 := fun _ => False) (x := l[k].kind) (W := (W2).drew) keepsInt (fun h => by rw [h.1]; rfl) (by rw [hlk]; exact k1) k2 k3 k4 k5 k6 (⟨rfl, ek⟩ : RInt l[k].kind [.int .i64 l[k].kind]) (fun _ h => h.elim) (fun _ h => h.elim) (fun _ h => h.elim) (fun _ h => h.elim) rfl
            (by rw [hlk]; exact hown) (by rw [hlk]; exact hg) (hat.elim (fun e => .inl (by rw [hlk]; exact e.symm)) (fun e => .inr (by rw [e]; simp [Value.ownBlock])))
          exact OwnL.keep (R := RInt') keepsInt O5 (by simp [World.setCell]) (fun b hb _ _ => Below.heap_setCell _ _ _ _ (by show b ≠ w.heap.size + 1; omega))
        · simp [intOf]; omega
      | none =>
        have e2 : hasD (l.take k) l[k].name = false := by unfold hasD; rw [hq]; rfl
        rw [e2] at q1 q2
        go_region
        go_upto_region 7 with fail
        refine wp_region_X (fun W => W.cell? ⟨w.heap.size + 1, 0, none⟩ = some (.map (some w.heap.size)) ∧ W.cell? ⟨wo.heap.size, 1, none⟩ = some (.string l[k].name)) 7 (by kernel_rfl) ⟨by go_keep, by go_keep⟩ (fun hS0 => ?_)
        refine wpAnyX_take (v := ?_) 0 rfl (by kernel_rfl) (by kernel_rfl) (by kernel_rfl) (by kernel_rfl) (fun _ _ _ h => h) (Or.inl ⟨by rfl, ?_⟩) (by assumption) ?_
        rotate_left 1
        · intro w hSw
          try dsimp only at hSw
          go_simp
          try with_reducible rfl
        simp only [List.getElem_toArray, List.getElem_cons_zero, Act.put, List.setIfInBounds_toArray, List.set_cons_zero, List.set_cons_succ]
        refine wpAnyX_take (v := ?_) 1 rfl (by kernel_rfl) (by kernel_rfl) (by kernel_rfl) (by kernel_rfl) (fun _ _ _ h => h) (Or.inl ⟨by rfl, ?_⟩) (by assumption) ?_
        rotate_left 1
        · intro w hSw
          try dsimp only at hSw
          go_simp
          try with_reducible rfl
        simp only [List.getElem_toArray, List.getElem_cons_succ, List.getElem_cons_zero, Act.put, List.setIfInBounds_toArray, List.set_cons_zero, List.set_cons_succ]
        refine wpAnyX_take (v := ?_) 2 rfl (by kernel_rfl) (by kernel_rfl) (by kernel_rfl) (by kernel_rfl) (fun _ _ _ h => h) (Or.inl ⟨by rfl, ?_⟩) (by assumption) ?_
        rotate_left 1
        · intro w hSw
          try dsimp only at hSw
          go_simp
          try with_reducible rfl
        simp only [List.getElem_toArray, List.getElem_cons_succ, List.getElem_cons_zero, Act.put, List.setIfInBounds_toArray, List.set_cons_zero, List.set_cons_succ]
        refine wpAnyX_take (v := ?_) 3 rfl (by kernel_rfl) (by kernel_rfl) (by kernel_rfl) (by kernel_rfl) (fun _ _ _ h => h) (Or.inl ⟨by rfl, ?_⟩) (by assumption) ?_
        rotate_left 1
        · intro w hSw
          try dsimp only at hSw
          go_simp
          try with_reducible rfl
        simp only [List.getElem_toArray, List.getElem_cons_succ, List.getElem_cons_zero, Act.put, List.setIfInBounds_toArray, List.set_cons_zero, List.set_cons_succ]
        refine wpAnyX_take (v := ?_) 4 rfl (by kernel_rfl) (by kernel_rfl) (by kernel_rfl) (by kernel_rfl) (fun _ _ _ h => h) (Or.inl ⟨by rfl, ?_⟩) (by assumption) ?_
        rotate_left 1
        · intro w hSw
          try dsimp only at hSw
          go_simp
          try with_reducible rfl
        simp only [List.getElem_toArray, List.getElem_cons_succ, List.getElem_cons_zero, Act.put, List.setIfInBounds_toArray, List.set_cons_zero, List.set_cons_succ]
        refine wpAnyX_take (v := ?_) 5 rfl (by kernel_rfl) (by kernel_rfl) (by kernel_rfl) (by kernel_rfl) (fun _ _ _ h => h) (Or.inl ⟨by rfl, ?_⟩) (by assumption) ?_
        rotate_left 1
        · intro w hSw
          try dsimp only at hSw
          go_simp
          try with_reducible rfl
        simp only [List.getElem_toArray, List.getElem_cons_succ, List.getElem_cons_zero, Act.put, List.setIfInBounds_toArray, List.set_cons_zero, List.set_cons_succ]
        refine wpAnyX_take (v := ?_) 6 rfl (by kernel_rfl) (by kernel_rfl) (by kernel_rfl) (by kernel_rfl) (fun _ _ _ h => h) (Or.inl ⟨by rfl, ?_⟩) (by assumption) ?_
        rotate_left 1
        · intro w hSw
          try dsimp only at hSw
          go_simp
          try with_reducible rfl
        simp only [List.getElem_toArray, List.getElem_cons_succ, List.getElem_cons_zero, Act.put, List.setIfInBounds_toArray, List.set_cons_zero, List.set_cons_succ]
        have M1' : MapIs Value.string W1.drew.drew w.heap.size m := M1.keep rfl
        obtain ⟨w2, hrun, M2, G2, z2⟩ := M1'.put strKey Tryz.underlying372 Tryz.underlying9 l[k].name (.int .i64 k)
        refine wpAnyX_one 7 (by kernel_rfl) rfl (fun K hK => ?_)
        go_simp
        refine hK.out _ _ (fun h => absurd h (by omega)) (fun _ => ?_)
        clear hK K hS0
        refine wpAnyX_done (by kernel_rfl) ?_ _
        go_upto_region 8 with fail
        have T2 := T1.keep (w' := w2) (G2.block _ (by simpa using tl) (by intro e; injection e with e; omega))
        have E3 := E1.keep (w' := w2) (G2.block _ (by simpa using xl) (by intro e; injection e with e; omega))
        have B3 : Below w.heap.size w w2 := B1.drew.drew.grown G2 B1.size (fun j e => by injection e with e; omega)
        have O2 : OwnL RInt' (w.heap.size + 2) (fun _ => False) 3 1 w2 ((l.take k).map Dcl.kind) ka kc := OwnL.keep (R := RInt') keepsInt O1 (Nat.le_of_eq z2.symm) (fun b hb1 hb2 _ => G2.block b (by simpa using hb2) (by intro e; injection e with e; omega))
        replace z2 : W1.heap.size ≤ w2.heap.size := Nat.le_of_eq z2.symm
        have hm2 : ∀ nm, mget (mput m l[k].name (.int .i64 (k : Int))) nm = (findD (l.take (k + 1)) nm).map (fun i => .int .i64 (i : Int)) := fun nm => by
          have hn0 : mget m l[k].name = none := by rw [hm, hq]; rfl
          rw [findD_take hlt nm]
          by_cases e : l[k].name = nm
          · subst e
            rw [mget_put_same hn0, hq]
            simp
          · rw [mget_put_new hn0 (fun h => e h.symm), hm]
            cases findD (l.take k) nm <;> simp [e]
        have lt2 := (T2).lt
        have le2 := (E3).lt
        have y1 := (T2).cell 1
        have y2 := (E3).cell 0
        have y3 := (T2).free 1
        simp only [List.getElem?_cons_succ, List.getElem?_cons_zero] at y1 y2
        obtain ⟨xs, SS, k1, k2, k3, k4, k5, k6⟩ := O2
        obtain ⟨i0, hi, hz0, hz1, hz2⟩ := info_parts info_int
        have hs2 := (B3).size
        have hlk : ((l.take k).map Dcl.kind).length = k := by simp; omega
        rw [hlk] at y1 k1
        refine wp_region_X (fun W => W.cell? ⟨w.heap.size + 1, 1, none⟩ = some (.slice ka k kc) ∧ W.cell? ⟨wo.heap.size, 0, none⟩ = some (.int .i64 l[k].kind)) 11 (by kernel_rfl) ⟨by simpa using y1, by simpa using y2⟩ (fun hS0 => ?_)
        refine wpAnyX_take (v := ?_) 0 rfl (by kernel_rfl) (by kernel_rfl) (by kernel_rfl) (by kernel_rfl) (fun _ _ _ h => h) (Or.inl ⟨by rfl, ?_⟩) (by assumption) ?_
        rotate_left 1
        · intro w hSw
          try dsimp only at hSw
          go_simp
          try with_reducible rfl
        simp only [List.getElem_toArray, List.getElem_cons_zero, Act.put, List.setIfInBounds_toArray, List.set_cons_zero, List.set_cons_succ]
        refine wpAnyX_take (v := ?_) 1 rfl (by kernel_rfl) (by kernel_rfl) (by kernel_rfl) (by kernel_rfl) (fun _ _ _ h => h) (Or.inl ⟨by rfl, ?_⟩) (by assumption) ?_
        rotate_left 1
        · intro w hSw
          try dsimp only at hSw
          go_simp
          try with_reducible rfl
        simp only [List.getElem_toArray, List.getElem_cons_succ, List.getElem_cons_zero, Act.put, List.setIfInBounds_toArray, List.set_cons_zero, List.set_cons_succ]
        refine wpAnyX_take (v := ?_) 2 rfl (by kernel_rfl) (by kernel_rfl) (by kernel_rfl) (by kernel_rfl) (fun _ _ _ h => h) (Or.inl ⟨by rfl, ?_⟩) (by assumption) ?_
        rotate_left 1
        · intro w hSw
          try dsimp only at hSw
          go_simp
          try with_reducible rfl
        simp only [List.getElem_toArray, List.getElem_cons_succ, List.getElem_cons_zero, Act.put, List.setIfInBounds_toArray, List.set_cons_zero, List.set_cons_succ]
        refine wpAnyX_take (v := ?_) 3 rfl (by kernel_rfl) (by kernel_rfl) (by kernel_rfl) (by kernel_rfl) (fun _ _ _ h => h) (Or.inl ⟨by rfl, ?_⟩) (by assumption) ?_
        rotate_left 1
        · intro w hSw
          try dsimp only at hSw
          go_simp
          try with_reducible rfl
        simp only [List.getElem_toArray, List.getElem_cons_succ, List.getElem_cons_zero, Act.put, List.setIfInBounds_toArray, List.set_cons_zero, List.set_cons_succ]
        refine wpAnyX_take (v := ?_) 4 rfl (by kernel_rfl) (by kernel_rfl) (by kernel_rfl) (by kernel_rfl) (fun _ _ _ h => h) (Or.inl ⟨by rfl, ?_⟩) (by assumption) ?_
        rotate_left 1
        · intro w hSw
          try dsimp only at hSw
          go_simp
          try with_reducible rfl
        simp only [List.getElem_toArray, List.getElem_cons_succ, List.getElem_cons_zero, Act.put, List.setIfInBounds_toArray, List.set_cons_zero, List.set_cons_succ]
        refine wpAnyX_take (v := ?_) 5 rfl (by kernel_rfl) (by kernel_rfl) (by kernel_rfl) (by kernel_rfl) (fun _ _ _ h => h) (Or.inl ⟨by rfl, ?_⟩) (by assumption) ?_
        rotate_left 1
        · intro w hSw
          try dsimp only at hSw
          go_simp
          try with_reducible rfl
        simp only [List.getElem_toArray, List.getElem_cons_succ, List.getElem_cons_zero, Act.put, List.setIfInBounds_toArray, List.set_cons_zero, List.set_cons_succ]
        refine wpAnyX_take (v := ?_) 6 rfl (by kernel_rfl) (by kernel_rfl) (by kernel_rfl) (by kernel_rfl) (fun _ _ _ h => h) (Or.inl ⟨by rfl, ?_⟩) (by assumption) ?_
        rotate_left 1
        · intro w hSw
          try dsimp only at hSw
          go_simp
          try with_reducible rfl
        simp only [List.getElem_toArray, List.getElem_cons_succ, List.getElem_cons_zero, Act.put, List.setIfInBounds_toArray, List.set_cons_zero, List.set_cons_succ]
        refine wpAnyX_one 7 (by kernel_rfl) rfl (fun K hK => ?_)
        go_simp
        refine hK.out _ _ (fun _ => ⟨by go_keep, by go_keep⟩) (fun hS1 => ?_)
        replace hS1 := hS1 (by decide)
        clear hK K hS0
        refine wpAnyX_one 8 (by kernel_rfl) rfl (fun K hK => ?_)
        refine step_append_lies _ (by rfl) _ _ _ (by rfl) (w.heap.size + 2) 3 i0 _ 1 8 Tryz.underlying233 hi hz0 hz1 hz2 rfl (by omega) (.slice ka k kc) k xs (by rfl) (k1.alloc _)
          ⟨(w2).heap.size, 0, none⟩ 1 1 [.int .i64 l[k].kind] (by rfl) (by rfl) (news_new (w2) [.int .i64 l[k].kind] _) (by simp [Value.oneCell'])
          (by omega) (by unfold maxLen; omega) (by omega) (by simp; omega) ((w2).heap.size + 1) (by simp) ?_
        intro g c' w4 hown hg hat hlt4
        have T4 := (T2).keep (w' := w4) ((hg.block _ (by simp; omega) (fun e => by have := hrl _ e.symm; omega)).trans (Below.heap_alloc (w2) _ _ lt2))
        have E4 := (E3).keep (w' := w4) ((hg.block _ (by simp; omega) (fun e => by have := hrl _ e.symm; omega)).trans (Below.heap_alloc (w2) _ _ le2))
        have y5 := T4.cell 1
        have y6 := E4.cell 0
        have y7 := T4.free 1
        have l4 := T4.lt
        simp only [List.getElem?_cons_succ, List.getElem?_cons_zero] at y5 y6
        rw [hlk] at y5
        refine hK.out _ _ (fun _ => ⟨y5, y6⟩) (fun hS0 => ?_)
        clear hK K hS1
        refine wpAnyX_one 9 (by kernel_rfl) rfl (fun K hK => ?_)
        go_simp
        refine hK.out _ _ (fun _ => ⟨y5, y6⟩) (fun _ => ?_)
        clear hK K
        refine wpAnyX_one 10 (by kernel_rfl) rfl (fun K hK => ?_)
        go_simp
        refine hK.out _ _ (fun _ => ⟨y5, y6⟩) (fun _ => ?_)
        clear hK K
        refine wpAnyX_one 11 (by kernel_rfl) rfl (fun K hK => ?_)
        go_simp
        refine hK.out _ _ (fun h => absurd h (by omega)) (fun _ => ?_)
        clear hK K hS0
        refine wpAnyX_done (by kernel_rfl) ?_ _
        go_wp2_with fail
        have etk : (l.take (k + 1)).map Dcl.kind = (l.take k).map Dcl.kind ++ [l[k].kind] := by rw [List.take_add_one, List.getElem?_eq_getElem hlt]; simp only [Option.toList, List.map_append, List.map_cons, List.map_nil]
        have B4 := (((B3).alloc hs2 (.cells #[.int .i64 l[k].kind] 3)).drew).grown hg (by simp; omega) (fun j e => by have := hrl j e; omega)
        have B5 := B4.setCell (p := ⟨w.heap.size + 1, 1, none⟩) (by show w.heap.size ≤ w.heap.size + 1; omega) (.slice (some ⟨g, 0, none⟩) (k + 1) c')
        have M4 := (M2).keep (w' := w4) ((hg.block _ (by have := (M2).lt; simp; omega) (fun e => by have := hrl _ e.symm; omega)).trans (Below.heap_alloc (w2) _ _ (M2).lt))
        have M5 := M4.keep (w' := w4.setCell ⟨w.heap.size + 1, 1, none⟩ (.slice (some ⟨g, 0, none⟩) (k + 1) c')) (Below.heap_setCell _ _ _ _ (by show w.heap.size ≠ w.heap.size + 1; omega))
        have T5 := T4.set 1 (.slice (some ⟨g, 0, none⟩) (k + 1) c')
        refine ⟨⟨k + 1, some ⟨g, 0, none⟩, c', (mput m l[k].name (.int .i64 (k : Int))), by omega, rfl, B5, ?_, M5, hm2, ?_⟩, ?_⟩
        · rw [etk, List.length_append, hlk]; exact T5
        · rw [etk]
          have O5 := OwnL.snoc (R := RInt') (sz := 1) (X := fun _ => False) (S1 := fun _ => False) (x := l[k].kind) (W := (w2).drew) keepsInt (fun h => by rw [h.1]; rfl) (by rw [hlk]; exact k1) k2 k3 k4 k5 k6 (⟨rfl, ek⟩ : RInt l[k].kind [.int .i64 l[k].kind]) (fun _ h => h.elim) (fun _ h => h.elim) (fun _ h => h.elim) (fun _ h => h.elim) rfl
            (by rw [hlk]; exact hown) (by rw [hlk]; exact hg) (hat.elim (fun e => .inl (by rw [hlk]; exact e.symm)) (fun e => .inr (by rw [e]; simp [Value.ownBlock])))
          exact OwnL.keep (R := RInt') keepsInt O5 (by simp [World.setCell]) (fun b hb _ _ => Below.heap_setCell _ _ _ _ (by show b ≠ w.heap.size + 1; omega))
        · simp [intOf]; omega
    · have hkl : k = l.length := by omega
      subst hkl
      rw [List.take_length] at *
      go_wp2_with fail
      go_ret
      refine ⟨_, rfl, ⟨⟨by omega, by omega⟩, w.heap.size, ka, kc, m, ⟨Nat.le_refl _, by omega⟩, hT, hM, hm, ?_⟩, hB⟩
      exact read_new (w := w) (R := RInt') keepsInt hO (by simpa using hl) (by omega)
end Go.Proofs.YtfoihafhpmbaeaaGreatDoor

/- How many types a type holds. -/
namespace Go.Proofs.YtfoihafhpmbaeaaGreatDoor
open Go.RowKit

def arityI (k : Int) : Int := if 1 ≤ k ∧ k ≤ 6 then 0 else if k = 7 ∨ k = 9 then 1 else if k = 8 then 2 else -1

theorem arity_calls (k : Int) (w : World) : Calls Tryz.prog 331 #[.int .i64 k] w fun e w' => e = .returned (.int .i64 (arityI k)) ∧ w = w' := by
  by_cases h1 : k = 1 ∨ k = 2 ∨ k = 3 ∨ k = 4 ∨ k = 5 ∨ k = 6 ∨ k = 7 ∨ k = 8 ∨ k = 9
  · rcases h1 with rfl | rfl | rfl | rfl | rfl | rfl | rfl | rfl | rfl
    all_goals
      go_enter Tryz.func331, Tryz.ntmps331
      go_wp2_with fail
      go_ret
      exact ⟨rfl, rfl⟩
  · have e : arityI k = -1 := by unfold arityI; rw [if_neg (by omega), if_neg (by omega), if_neg (by omega)]
    rw [e]
    have n1 : (k == 1) = false := by rw [beq_eq_false_iff_ne]; omega
    have n2 : (k == 2) = false := by rw [beq_eq_false_iff_ne]; omega
    have n3 : (k == 3) = false := by rw [beq_eq_false_iff_ne]; omega
    have n4 : (k == 4) = false := by rw [beq_eq_false_iff_ne]; omega
    have n5 : (k == 5) = false := by rw [beq_eq_false_iff_ne]; omega
    have n6 : (k == 6) = false := by rw [beq_eq_false_iff_ne]; omega
    have n7 : (k == 7) = false := by rw [beq_eq_false_iff_ne]; omega
    have n8 : (k == 8) = false := by rw [beq_eq_false_iff_ne]; omega
    have n9 : (k == 9) = false := by rw [beq_eq_false_iff_ne]; omega
    go_enter Tryz.func331, Tryz.ntmps331
    go_wp2_with fail
    go_ret
    exact ⟨rfl, rfl⟩
end Go.Proofs.YtfoihafhpmbaeaaGreatDoor

/- The checker, and whether a type may be a key's. -/
namespace Go.Proofs.YtfoihafhpmbaeaaGreatDoor
open Go.RowKit

/-- the checker: the declarations and their table -/
def RChk (S : Blocks) (w : World) (l : List Dcl) (cb : Nat) : Prop :=
  S cb ∧ ∃ la lc tb, Blk w cb [.slice la l.length lc, .pointer (some ⟨tb, 0, none⟩)] 365 ∧ RSl 5 (RDcl S w) S w l la lc ∧ RTab S w l tb
theorem RChk.keep {S : Blocks} {w w' : World} {l : List Dcl} {cb : Nat} (h : RChk S w l cb) (hs : Same S w w') : RChk S w' l cb := by
  obtain ⟨h1, la, lc, tb, h2, h3, h4⟩ := h
  exact ⟨h1, la, lc, tb, h2.keep (hs _ h1), h3.keep hs (Sub.refl _) (fun _ _ _ hx => hx.keep hs (Sub.refl _)), h4.keep hs (Sub.refl _)⟩

def keyedB (l : List Dcl) (t : Ty) : Bool := (decide (1 ≤ t.kind ∧ t.kind ≤ 4)) || (t.kind == 6 && kindD l t.name == 3)

theorem keyed_calls {S : Blocks} {l : List Dcl} {cb : Nat} {w : World} (h : RChk S w l cb) (hU : Under S w) (t : Ty) (oa : Option Addr) (oc : Nat) :
    Calls Tryz.prog 332 #[.pointer (some ⟨cb, 0, none⟩), .agg #[.int .i64 t.kind, .string t.name, .slice oa t.of.length oc]] w
      fun e w' => e = .returned (.bool (keyedB l t)) ∧ Below w.heap.size w w' := by
  generalize t.of.length = n
  obtain ⟨k, nm⟩ : ∃ k, t.kind = k := ⟨_, rfl⟩
  unfold keyedB
  rw [nm]
  generalize t.name = name
  by_cases h1 : k = 1 ∨ k = 2 ∨ k = 3 ∨ k = 4
  · rcases h1 with rfl | rfl | rfl | rfl
    all_goals
      go_enter Tryz.func332, Tryz.ntmps332
      go_wp2_with fail
      go_ret
      exact ⟨rfl, (Below.refl _ _).alloc (Nat.le_refl _) _⟩
  have n1 : (k == 1) = false := by rw [beq_eq_false_iff_ne]; omega
  have n2 : (k == 2) = false := by rw [beq_eq_false_iff_ne]; omega
  have n3 : (k == 3) = false := by rw [beq_eq_false_iff_ne]; omega
  have n4 : (k == 4) = false := by rw [beq_eq_false_iff_ne]; omega
  have nd : decide (1 ≤ k ∧ k ≤ 4) = false := by rw [decide_eq_false_iff_not]; omega
  rw [nd]
  by_cases h6 : k = 6
  · subst h6
    obtain ⟨hcb, la, lc, tb, hC, hL, hT⟩ := h
    have c1 := hC.cell 1
    have hlt := hC.lt
    simp at c1
    have HK : Hid (∀ W, Below w.heap.size w W → Calls Tryz.prog 199 #[.pointer (some ⟨tb, 0, none⟩), .string name] W fun e w' => e = .returned (.int .i64 (kindD l name)) ∧ W = w') := fun W g => Kind_calls (hT.keep (hU.same g) (Sub.refl _)) name
    generalize kindD l name = kd at *
    clear hT hL
    go_enter Tryz.func332, Tryz.ntmps332
    go_wp2_with fail
    go_quiet ((go_at_call 199; exact Calls.quiet_eq (HK.out _ (((Below.refl _ _).alloc (Nat.le_refl _) _).dN _))))
    go_wp2_with fail
    go_ret
    exact ⟨by simp, ((Below.refl _ _).alloc (Nat.le_refl _) _).dN _⟩
  · have n6 : (k == 6) = false := by rw [beq_eq_false_iff_ne]; exact h6
    rw [n6]
    go_enter Tryz.func332, Tryz.ntmps332
    go_wp2_with fail
    go_ret
    exact ⟨rfl, (Below.refl _ _).alloc (Nat.le_refl _) _⟩
end Go.Proofs.YtfoihafhpmbaeaaGreatDoor

/- What is wrong with a type. -/
namespace Go.Proofs.YtfoihafhpmbaeaaGreatDoor
open Go.RowKit

mutual
def typE (l : List Dcl) : Ty → Bool → Int
  | .mk k nm of, inner =>
    if (of.length : Int) ≠ arityI k ∨ (k ≠ 6 ∧ nm.toList ≠ []) then 8
    else if k = 6 then (if kindD l nm = 1 ∨ kindD l nm = 2 ∨ kindD l nm = 3 then 0 else if hasD l nm then 8 else 6)
    else if k = 9 ∧ inner = true then 8
    else if k = 8 ∧ keyedB l (of.headD (.mk 0 ⟨#[]⟩ [])) = false then 8
    else typsE l of
def typsE (l : List Dcl) : List Ty → Int
  | [] => 0
  | t :: ts => if typE l t true = 0 then typsE l ts else typE l t true
end
theorem typE_eq (l : List Dcl) (t : Ty) (inner : Bool) : typE l t inner =
    if (t.of.length : Int) ≠ arityI t.kind ∨ (t.kind ≠ 6 ∧ t.name.toList ≠ []) then 8
    else if t.kind = 6 then (if kindD l t.name = 1 ∨ kindD l t.name = 2 ∨ kindD l t.name = 3 then 0 else if hasD l t.name then 8 else 6)
    else if t.kind = 9 ∧ inner = true then 8
    else if t.kind = 8 ∧ keyedB l (t.of.headD (.mk 0 ⟨#[]⟩ [])) = false then 8
    else typsE l t.of := by
  cases t
  rw [typE]
  rfl
end Go.Proofs.YtfoihafhpmbaeaaGreatDoor
