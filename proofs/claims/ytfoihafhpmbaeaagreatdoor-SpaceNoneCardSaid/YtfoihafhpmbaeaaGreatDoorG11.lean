/- What was cancelled ahead is taken. -/
import Derived.Lib.SliceRun
import Derived.Outline
import Derived.Test.YtfoihafhpmbaeaaGreatDoorG10
namespace Go.Proofs.YtfoihafhpmbaeaaGreatDoor
open Go.RowKit

theorem TakeDel_calls (v id : Int) (ib : Nat) (w : World) (h : w.cell? ⟨ib, 0, none⟩ = some (.int .u64 id)) :
    Calls Tryz.prog 67 #[.int .u64 v, .pointer (some ⟨ib, 0, none⟩)] w fun e w' => e = .returned (.bool (v == id)) ∧ w = w' := by
  go_enter Tryz.func67, Tryz.ntmps67
  go_wp2_with fail
  go_ret
  exact ⟨rfl, rfl⟩

theorem IndexFunc_calls {S : Blocks} {w : World} {l : List Int} {a : Option Addr} {c : Nat} (h : RSl 1 RU64 S w l a c) (id : Int) (ib : Nat) (hib : w.cell? ⟨ib, 0, none⟩ = some (.int .u64 id)) :
    Calls Tryz.prog 94 #[.slice a l.length c, .func (.func 67) #[] #[.pointer (some ⟨ib, 0, none⟩)]] w fun e w' => e = .returned (.int .i64 (idxI l id 0)) ∧ w = w' := by
  obtain ⟨hc, hl⟩ := h.le
  obtain ⟨R, hR⟩ : ∃ R, idxI l id 0 = R := ⟨_, rfl⟩
  rw [hR]
  have HR := Lib.hid hR
  clear hR
  have HD := Lib.hid (fun v => TakeDel_calls v id ib w hib)
  clear hib
  go_enter Tryz.func94, Tryz.ntmps94
  go_wp2_with fail
  go_loop [5, 8] (fun _ i => ∃ k : Nat, k ≤ l.length ∧ i = .int .i64 k ∧ Hid (R = idxI (l.drop k) id k)) (fun _ i => l.length - (intOf i).toNat)
  case atStart => exact ⟨0, by omega, rfl, HR.out.symm⟩
  case round =>
    obtain ⟨k, hk, rfl, HK⟩ := hrel
    by_cases hlt : k < l.length
    · rw [idxI_drop hlt] at HK
      obtain ⟨b, off, cs, rfl, hSb, _, hcs, hrd0⟩ := RSl.at h hlt
      obtain rfl : cs = _ := hrd0
      have g0 := hcs 0 (by simp)
      simp only [List.getElem_cons_zero, Nat.add_zero, Nat.mul_one] at g0
      clear hcs h HR
      generalize l[k] = kk at *
      have HDk := Lib.hid (HD.out kk)
      clear HD
      by_cases he : id = kk
      · rw [if_pos he] at HK
        have hq : (kk == id) = true := by rw [beq_iff_eq]; exact he.symm
        rw [hq] at HDk
        clear he hq
        go_wp2_with fail
        refine HDk.out.mono ?_
        rintro e w' ⟨rfl, rfl⟩
        go_wp2_with fail
        go_ret
        rw [HK.out]
        exact ⟨rfl, rfl⟩
      · rw [if_neg he] at HK
        have hq : (kk == id) = false := by rw [beq_eq_false_iff_ne]; exact fun e => he e.symm
        rw [hq] at HDk
        clear he hq
        go_wp2_with fail
        refine HDk.out.mono ?_
        rintro e w' ⟨rfl, rfl⟩
        go_wp2_with fail
        go_round
        case rel => exact ⟨k + 1, by omega, by go_num, HK⟩
        case measure => simp [intOf]; omega
    · have hkl : k = l.length := by omega
      have HG : Hid (R = -1) := by
        have := HK.out
        rw [hkl, List.drop_length] at this
        exact this
      clear HK hkl
      go_wp2_with fail
      go_ret
      rw [HG.out]
      exact ⟨rfl, rfl⟩

theorem DeleteFunc_none {S : Blocks} {w : World} {l : List Int} {a : Option Addr} {c : Nat} (h : RSl 1 RU64 S w l a c) (id : Int) (ib : Nat) (hib : w.cell? ⟨ib, 0, none⟩ = some (.int .u64 id)) (hn : id ∉ l) :
    Calls Tryz.prog 66 #[.slice a l.length c, .func (.func 67) #[] #[.pointer (some ⟨ib, 0, none⟩)]] w fun e w' => e = .returned (.slice a l.length c) ∧ w = w' := by
  have hI := IndexFunc_calls h id ib hib
  have : idxI l id 0 = -1 := by
    rcases idxI_ge l id 0 (by omega) with h | h
    · exact h.1
    · exact absurd h.2 hn
  rw [this] at hI
  have HI := Lib.hid hI
  clear hI h hib hn this
  generalize l.length = n at *
  go_enter Tryz.func66, Tryz.ntmps66
  go_wp2_with fail
  refine HI.out.mono ?_
  rintro e w' ⟨rfl, rfl⟩
  go_wp2_with fail
  go_ret
  exact ⟨rfl, rfl⟩
theorem zeroU64 (w : World) : (zeroValue 63).run Tryz.prog w = .ok (.int .u64 0) w := by kernel_rfl
theorem DeleteFunc_one {w : World} (g c : Nat) (id : Int) (ib : Nat) (hg : w.cell? ⟨g, 0, none⟩ = some (.int .u64 id)) (hf : w.frozen? ⟨g, 0, none⟩ = false) (hc : 1 ≤ c) (hc2 : c ≤ maxLen) (hib : w.cell? ⟨ib, 0, none⟩ = some (.int .u64 id)) :
    Calls Tryz.prog 66 #[.slice (some ⟨g, 0, none⟩) 1 c, .func (.func 67) #[] #[.pointer (some ⟨ib, 0, none⟩)]] w fun e w' =>
      e = .returned (.slice (some ⟨g, 0, none⟩) 0 c) ∧ w.setCell ⟨g, 0, none⟩ (.int .u64 0) = w' := by
  have hr : RSl 1 RU64 (fun b => b = g) w [id] (some ⟨g, 0, none⟩) c := .inr ⟨g, 0, rfl, hc, hc2, by simp, rfl, fun i hi => ⟨_, rfl, fun j hj => by
    obtain rfl : i = 0 := by simp at hi; omega
    obtain rfl : j = 0 := by have : j < 1 := hj; omega
    simpa using hg, rfl⟩⟩
  have hI := IndexFunc_calls hr id ib hib
  have : idxI [id] id 0 = 0 := by simp [idxI]
  rw [this] at hI
  have HI : Hid (Calls Tryz.prog 94 #[.slice (some ⟨g, 0, none⟩) 1 c, .func (.func 67) #[] #[.pointer (some ⟨ib, 0, none⟩)]] w fun e w' => e = .returned (.int .i64 0) ∧ w = w') := hI
  clear hI hib hr
  have hcl : ∀ ty, (Builtin.clear_ #[37] ty #[.slice (some ⟨g, 0, none⟩) 1 c]).run Tryz.prog w = .ok (.tuple #[]) (w.setCell ⟨g, 0, none⟩ (.int .u64 0)) := fun ty => by
    have := Lib.run_clear_slice w 37 63 ty (.int .u64 0) Tryz.underlying37 zeroU64 rfl rfl g 0 1 c (by omega) (fun j hj => by
      obtain rfl : j = 0 := by omega
      simp [hg]) (fun j hj => by
      obtain rfl : j = 0 := by omega
      simpa using hf)
    simpa [World.setCells] using this
  have hc' : (1 : Int) ≤ c := by omega
  unfold maxLen at hc2
  go_enter Tryz.func66, Tryz.ntmps66
  go_wp2_with fail
  refine HI.out.mono ?_
  rintro e w' ⟨rfl, rfl⟩
  go_wp2_with fail
  go_loop [5, 6, 7] (fun i j v => i = .int .i64 0 ∧ j = .int .i64 1) (fun _ _ _ => 0)
  case atStart => exact ⟨rfl, rfl⟩
  case round =>
    obtain ⟨rfl, rfl⟩ := hrel
    go_wp2_with (simp only [hcl])
    go_ret
    exact ⟨rfl, rfl⟩
end Go.Proofs.YtfoihafhpmbaeaaGreatDoor

/- What was cancelled ahead is taken: the yard. -/
namespace Go.Proofs.YtfoihafhpmbaeaaGreatDoor
open Go.RowKit

set_option maxRecDepth 10000 in
set_option maxHeartbeats 400000 in
theorem YardTake_no (w : World) (x : Nat) (s : Sp) (l : List Int) (id : Int) (h : YdAt w x s l) (hid : id ∉ l) :
    Calls Tryz.prog 28 #[.pointer (some ⟨x, 28, none⟩), .int .u64 id] w fun e w' => e = .returned (.bool false) ∧ YdAt w' x s l ∧ But x w w' := by
  obtain ⟨a, c, hv, hown⟩ := h.yard
  have hsh := h.short
  have hx := h.blk.lt
  have h2 : YdAt (w.alloc (.cells #[.int .u64 id] 63)) x s l := h.below ((Below.refl _ _).alloc (Nat.le_refl _) _) (Nat.le_refl _)
  obtain ⟨a2, c2, hv2, hown2⟩ := h2.yard
  rw [hv] at hv2
  simp only [Value.slice.injEq] at hv2
  obtain ⟨rfl, _, rfl⟩ := hv2
  have d := h.blk.cell 28
  have f := h.blk.free 28
  rw [Sp.yard_at h.ok, hv] at d
  have hib : (w.alloc (.cells #[.int .u64 id] 63)).cell? ⟨w.heap.size, 0, none⟩ = some (.int .u64 id) := (Blk.new w [.int .u64 id] 63).cell 0
  have HD := Lib.hid (DeleteFunc_none (hown2.read (by omega)) id w.heap.size hib hid)
  have hset : h2.blk = h2.blk := rfl
  have hbs := h2.blk.set 28 (.slice a l.length c)
  rw [Sp.set_yard h.ok, ← hv] at hbs
  have hne : (Value.slice a l.length c).ownBlock ≠ some x := fun e => by have := (hown2.lt x e).1; omega
  have hos := ownsRow_setCell_other (a := ⟨x, 28, none⟩) hown2 hne s.yard
  have hB : But x w ((w.alloc (.cells #[.int .u64 id] 63)).setCell ⟨x, 28, none⟩ (.slice a l.length c)) := ((But.refl x w).alloc _).set 28 _
  rw [hv] at hbs hos
  have es : ({ s with yard := .slice a l.length c } : Sp) = s := by rw [← hv]
  rw [es] at hbs
  have HF : Hid (YdAt ((w.alloc (.cells #[.int .u64 id] 63)).setCell ⟨x, 28, none⟩ (.slice a l.length c)) x s l ∧ But x w ((w.alloc (.cells #[.int .u64 id] 63)).setCell ⟨x, 28, none⟩ (.slice a l.length c))) :=
    ⟨⟨h.ok, hbs, ⟨a, c, hv, hos⟩, hsh⟩, hB⟩
  rw [World.setCell_alloc_past _ _ _ _ hx] at HF
  clear hid hown hown2 h h2 hset hbs hne hos hB hv hib es
  generalize l.length = n at *
  go_enter Tryz.func28, Tryz.ntmps28
  go_wp2_with fail
  refine HD.out.mono ?_
  rintro e w' ⟨rfl, rfl⟩
  go_wp2_with fail
  go_ret
  exact ⟨by simp, HF.out⟩

theorem own_one {w : World} {B : Nat} {id : Int} {a : Option Addr} {c : Nat} (h : OwnU w B [id] a c) : ∃ g, a = some ⟨g, 0, none⟩ ∧ B ≤ g ∧ g < w.heap.size ∧ 1 ≤ c ∧ c ≤ maxLen ∧ w.cell? ⟨g, 0, none⟩ = some (.int .u64 id) ∧ w.frozen? ⟨g, 0, none⟩ = false ∧ ∃ cur, w.heap[g]? = some (.cells cur 63 (0, 0)) ∧ cur.size = c := by
  rcases h.2 with ⟨h1, h2⟩ | ⟨g, cap, cur, h1, hB, hg, hn, hcap, hcs, htk⟩
  · exact absurd h2 (by simp)
  · simp only [Value.slice.injEq] at h1
    obtain ⟨rfl, _, rfl⟩ := h1
    have hlt : g < w.heap.size := (Array.getElem?_eq_some_iff.1 hg).1
    refine ⟨g, rfl, hB, hlt, hn, hcap, ?_, ?_, cur, hg, by simpa using hcs⟩
    · have := World.ownsRow.cells (g := g) h rfl 0 (.int .u64 id) rfl
      simpa [Addr.add] using this
    · unfold World.frozen?
      rw [hg]
      simp

set_option maxRecDepth 10000 in
set_option maxHeartbeats 400000 in
theorem YardTake_one (w : World) (x : Nat) (s : Sp) (id : Int) (h : YdAt w x s [id]) :
    Calls Tryz.prog 28 #[.pointer (some ⟨x, 28, none⟩), .int .u64 id] w fun e w' => e = .returned (.bool true) ∧ (∃ v, YdAt w' x { s with yard := v } []) ∧ Below x w w' ∧ ∀ b, b < w.heap.size → b ≠ x → s.yard.ownBlock ≠ some b → w'.heap[b]? = w.heap[b]? := by
  obtain ⟨a, c, hv, hown⟩ := h.yard
  have hx := h.blk.lt
  have h2 : YdAt (w.alloc (.cells #[.int .u64 id] 63)) x s [id] := h.below ((Below.refl _ _).alloc (Nat.le_refl _) _) (Nat.le_refl _)
  obtain ⟨a2, c2, hv2, hown2⟩ := h2.yard
  rw [hv] at hv2
  simp only [Value.slice.injEq] at hv2
  obtain ⟨rfl, _, rfl⟩ := hv2
  obtain ⟨g, rfl, hBg, _, hc1, hcm, _, _, _⟩ := own_one hown
  obtain ⟨g', hgg, _, hgl, _, _, hgc, hgf, cur, hgh, hcs⟩ := own_one hown2
  simp only [Option.some.injEq, Addr.mk.injEq] at hgg
  obtain ⟨rfl, _⟩ := hgg
  have hgw : g < w.heap.size := (hown.lt g rfl).2
  have d := h.blk.cell 28
  have f := h.blk.free 28
  rw [Sp.yard_at h.ok, hv] at d
  have hib : (w.alloc (.cells #[.int .u64 id] 63)).cell? ⟨w.heap.size, 0, none⟩ = some (.int .u64 id) := (Blk.new w [.int .u64 id] 63).cell 0
  have HD := Lib.hid (DeleteFunc_one g c id w.heap.size hgc hgf hc1 hcm hib)
  obtain ⟨W1, hW1⟩ : ∃ W, (w.alloc (.cells #[.int .u64 id] 63)).setCell ⟨g, 0, none⟩ (.int .u64 0) = W := ⟨_, rfl⟩
  have hb1 : SpAt W1 x s := by rw [← hW1]; exact h2.blk.keep (Below.heap_setCell _ _ _ _ (by show x ≠ g; omega))
  have hB1 : Below x w W1 := by rw [← hW1]; exact ((Below.refl x w).alloc (Nat.le_of_lt hx) _).setCell (p := ⟨g, 0, none⟩) (by show x ≤ g; omega) _
  have ho1 : OwnU W1 (x + 1) [] (some ⟨g, 0, none⟩) c := by
    refine ⟨by simp, .inr ⟨g, c, cur.set! 0 (.int .u64 0), rfl, hBg, ?_, by simp, hcm, by simp [hcs], by simp⟩⟩
    rw [← hW1]
    simp [World.setCell, Array.getElem?_modify, hgh]
  rw [hW1] at HD
  have d1 := hb1.cell 28
  have f1 := hb1.free 28
  rw [Sp.yard_at h.ok, hv] at d1
  have hx1 := hb1.lt
  have hbs := hb1.set 28 (.slice (some ⟨g, 0, none⟩) 0 c)
  rw [Sp.set_yard h.ok] at hbs
  have hos := ownsRow_setCell_other (a := ⟨x, 28, none⟩) ho1 (by simp [Value.ownBlock]; omega) (.slice (some ⟨g, 0, none⟩) 0 c)
  have HF : Hid ((∃ v, YdAt (W1.setCell ⟨x, 28, none⟩ (.slice (some ⟨g, 0, none⟩) 0 c)) x { s with yard := v } []) ∧ Below x w (W1.setCell ⟨x, 28, none⟩ (.slice (some ⟨g, 0, none⟩) 0 c)) ∧ ∀ b, b < w.heap.size → b ≠ x → s.yard.ownBlock ≠ some b → (W1.setCell ⟨x, 28, none⟩ (.slice (some ⟨g, 0, none⟩) 0 c)).heap[b]? = w.heap[b]?) :=
    ⟨⟨.slice (some ⟨g, 0, none⟩) 0 c, ⟨h.ok.plen, h.ok.rlen, h.ok.nle, h.ok.nextle⟩, hbs, ⟨_, c, rfl, hos⟩, by simp⟩, hB1.setCell (p := ⟨x, 28, none⟩) (Nat.le_refl _) _, fun b hb h1 h2 => by
      have hbg : b ≠ g := fun e => h2 (by rw [hv, e]; rfl)
      rw [Below.heap_setCell _ _ _ _ h1, ← hW1, Below.heap_setCell _ _ _ _ hbg, Below.heap_alloc _ _ _ hb]⟩
  clear hgh hgc hgf hib hown hown2 ho1 hos hbs hb1 h2 h hW1 hcs hv
  go_enter Tryz.func28, Tryz.ntmps28
  go_wp2_with fail
  refine HD.out.mono ?_
  rintro e w' ⟨rfl, rfl⟩
  go_wp2_with fail
  go_ret
  exact ⟨rfl, HF.out⟩
end Go.Proofs.YtfoihafhpmbaeaaGreatDoor
