/- Which declarations are finite. -/
import Derived.Deep.LoopGhost
import Derived.Deep.OwnRows
import Derived.Outline
import Derived.Test.YtfoihafhpmbaeaaGreatDoorG25
namespace Go.Proofs.YtfoihafhpmbaeaaGreatDoor
open Go.RowKit

theorem info_bool : (Tryz.prog.info? 4).map (fun i => (i.zero, i.size, i.bytes)) = some (some (.bool false), 1, 1) := by kernel_rfl

/-- which declarations are finite: some answer for each -/
def FinPost (n : Nat) (w : World) (e : Ending) (w' : World) : Prop :=
  ∃ kb, ∃ bs : List Bool, e = .returned (.slice (some ⟨kb, 0, none⟩) n n) ∧ bs.length = n ∧ w.heap.size ≤ kb ∧ Blk w' kb (bs.map Value.bool) 4 ∧ Below w.heap.size w w'

theorem count_set {bs : List Bool} {i : Nat} (hi : i < bs.length) (h : bs[i] = false) : ((bs.set i true).filter (fun b => !b)).length + 1 = (bs.filter (fun b => !b)).length := by
  induction bs generalizing i with
  | nil => simp at hi
  | cons b bs ih =>
    cases i with
    | zero =>
      simp at h
      subst h
      simp
    | succ i =>
      have := ih (i := i) (by simpa using hi) (by simpa using h)
      cases b <;> simp at * <;> omega

theorem madeFalse (n : Nat) : madeCells #[Value.bool false] n = ((List.replicate n false).map Value.bool).toArray := by
  apply Array.ext
  · simp [madeCells]
  · intro i h1 h2
    have : i % 1 = 0 := Nat.mod_one i
    simp [madeCells, this]

/-- in 'Finite': the checker and what is known -/
structure FnIn (w w1 : World) (S : Blocks) (l : List Dcl) (la : Option Addr) (lc : Nat) (tb : Nat) (bs : List Bool) (W : World) : Prop where
  below : Below w1.heap.size w1 W
  chk : RChk (fun b => S b ∨ New w w1 b ∨ b = w1.heap.size) W l w1.heap.size
  und : Under (fun b => S b ∨ New w w1 b ∨ b = w1.heap.size) W
  known : Blk W (w1.heap.size + 1) (bs.map Value.bool) 4
  len : bs.length = l.length
theorem FnIn.step {w w1 W W' : World} {S : Blocks} {l : List Dcl} {la : Option Addr} {lc tb : Nat} {bs : List Bool} (h : FnIn w w1 S l la lc tb bs W) (g : Below W.heap.size W W') : FnIn w w1 S l la lc tb bs W' :=
  ⟨h.below.up g h.below.size, h.chk.keep (h.und.same g), h.und.below g, h.known.below g h.known.lt, h.len⟩
theorem FnIn.set {w w1 W : World} {S : Blocks} {l : List Dcl} {la : Option Addr} {lc tb : Nat} {bs : List Bool} (hU : Under S w) (hz : w.heap.size ≤ w1.heap.size) (h : FnIn w w1 S l la lc tb bs W) (i : Nat) : FnIn w w1 S l la lc tb (bs.set i true) (W.setCell ⟨w1.heap.size + 1, i, none⟩ (.bool true)) := by
  refine ⟨h.below.setCell (p := ⟨w1.heap.size + 1, i, none⟩) (by show w1.heap.size ≤ w1.heap.size + 1; omega) _, h.chk.keep (fun b hb => Below.heap_setCell _ _ _ _ ?_), fun b hb => by simpa [World.setCell] using h.und b hb, ?_, by simpa using h.len⟩
  · show b ≠ w1.heap.size + 1
    rcases hb with hb | hb | hb
    · have := hU b hb; omega
    · have := hb.2; omega
    · omega
  · have := h.known.set i (.bool true)
    rwa [← List.map_set] at this

set_option maxHeartbeats 2000000 in
theorem Finite_wk {S : Blocks} {l : List Dcl} {la : Option Addr} {lc : Nat} {w : World} (h : RSl 5 (RDcl S w) S w l la lc) (hU : Under S w) (hl : l.length ≤ 1000) :
    Calls Tryz.prog 237 #[.slice la l.length lc] w (FinPost l.length w) := by
  have hmk := fun (W : World) => Go.run_make_row' (P := Tryz.prog) 367 4 (.bool false) 1 Tryz.underlying367 info_bool rfl .i64 .i64 l.length (by omega) (by omega) W
  obtain ⟨hlc, hll⟩ := h.le
  go_enter Tryz.func237, Tryz.ntmps237
  go_wp2_with fail
  go_step3
  go_wp2_with fail
  refine (Of_calls h hU hl).mono ?_
  rintro e w1 ⟨tb, rfl, hT, hB⟩
  have hz1 := hB.size
  go_wp2_with fail
  go_step3
  go_wp2_with fail
  refine abs_wp (fun W => FnIn w w1 S l la lc tb (List.replicate l.length false) W) ?_ ?_
  · have e1 : (w1.alloc (.cells #[.slice la l.length lc, .pointer (some ⟨tb, 0, none⟩)] 365)).heap.size = w1.heap.size + 1 := by simp
    have n0 := Blk.new w1 [.slice la l.length lc, .pointer (some ⟨tb, 0, none⟩)] 365
    have n1 := Blk.new (w1.alloc (.cells #[.slice la l.length lc, .pointer (some ⟨tb, 0, none⟩)] 365)) ((List.replicate l.length false).map Value.bool) 4
    rw [e1] at n1
    rw [madeFalse]
    have g2 : Below w1.heap.size w1 ((w1.alloc (.cells #[.slice la l.length lc, .pointer (some ⟨tb, 0, none⟩)] 365)).alloc (.cells ((List.replicate l.length false).map Value.bool).toArray 4)) :=
      ((Below.refl _ _).alloc (Nat.le_refl _) _).alloc (by rw [e1]; omega) _
    have s1 : Same S w ((w1.alloc (.cells #[.slice la l.length lc, .pointer (some ⟨tb, 0, none⟩)] 365)).alloc (.cells ((List.replicate l.length false).map Value.bool).toArray 4)) := fun b hb => (g2.block b (by have := hU b hb; omega)).trans (hB.block b (hU b hb))
    have s2 : Same (New w w1) w1 ((w1.alloc (.cells #[.slice la l.length lc, .pointer (some ⟨tb, 0, none⟩)] 365)).alloc (.cells ((List.replicate l.length false).map Value.bool).toArray 4)) := fun b hb => g2.block b hb.2
    refine ⟨g2, ⟨.inr (.inr rfl), la, lc, tb, n0.alloc _, h.keep s1 (fun b hb => .inl hb) (fun _ _ _ hx => hx.keep s1 (fun b hb => .inl hb)), hT.keep s2 (fun b hb => .inr (.inl hb))⟩, ?_, n1, by simp⟩
    intro b hb
    have := g2.size
    have z2 : w1.heap.size < ((w1.alloc (.cells #[.slice la l.length lc, .pointer (some ⟨tb, 0, none⟩)] 365)).alloc (.cells ((List.replicate l.length false).map Value.bool).toArray 4)).heap.size := by simp; omega
    rcases hb with hb | hb | hb
    · have := hU b hb; omega
    · have := hb.2; omega
    · omega
  intro W0 hF0
  clear hmk hT
  go_loopg [17] l.length (fun g _ wr => ∃ bs : List Bool, Hid ((bs.filter (fun b => !b)).length = g) ∧ FnIn w w1 S l la lc tb bs wr)
  case atStart =>
    refine ⟨List.replicate l.length false, ?_, hF0⟩
    show _ = _
    rw [List.filter_eq_self.2 (by intro a ha; rw [List.eq_of_mem_replicate ha]; rfl)]
    simp
  case round =>
    obtain ⟨bs, hg, hF⟩ := hrel
    obtain ⟨wo, rfl⟩ : ∃ wo : World, wo = wr := ⟨_, rfl⟩
    clear hF0
    go_wp2_with fail
    go_loopw [17] (fun i wr => ∃ k : Nat, k ≤ l.length ∧ i = .int .i64 k ∧ FnIn w w1 S l la lc tb bs wr) (fun i _ => l.length - (intOf i).toNat)
    case atStart => exact ⟨0, by omega, rfl, hF⟩
    case round =>
      obtain ⟨k, hk, rfl, hFr⟩ := hrel
      clear hF
      by_cases hlt : k < l.length
      · have hkb : k < bs.length := by rw [hFr.len]; exact hlt
        have hbl : Below w.heap.size w wr := hB.up hFr.below hz1
        obtain ⟨b, off, cs, rfl, hSb, _, hcs0, hrd0⟩ := RSl.at h hlt
        obtain ⟨efa, efc, ema, emc, rfl, ek, en, ef, em, ep⟩ := id hrd0
        obtain ⟨g0, g1, g2, g3, g4⟩ := cells5 (hcs0.keep (hU.same hbl _ hSb))
        have hFr1 := hFr.step ((Below.refl _ _).alloc (Nat.le_refl _) (.cells #[.int .i64 l[k].kind, .string l[k].name, .slice efa l[k].fields.length efc, .slice ema l[k].methods.length emc, .int .i64 l[k].pos] 149))
        have hbl1 := hbl.alloc hbl.size (.cells #[.int .i64 l[k].kind, .string l[k].name, .slice efa l[k].fields.length efc, .slice ema l[k].methods.length emc, .int .i64 l[k].pos] 149)
        have HFN := Lib.hid (finite_wk hFr1.chk hFr1.und l[k] _ (hrd0.keep (hU.same hbl1) (Sub.refl _)) (hU.below hbl1) (w1.heap.size + 1) bs hFr1.len hFr1.known)
        have q := hFr.known.cell k
        rw [List.getElem?_map, List.getElem?_eq_getElem hkb] at q
        simp only [Option.map_some] at q
        have ql := hFr.known.lt
        have HR1 := Lib.hid hFr1
        have HR0 := Lib.hid hFr
        have HH := Lib.hid h
        have hkl : (k : Int) < l.length := by omega
        obtain ⟨bk, hbk⟩ : ∃ x, bs[k] = x := ⟨_, rfl⟩
        rw [hbk] at q
        have Hbk := Lib.hid hbk
        clear hbk hcs0 hrd0 ef em hFr1 hFr ek en ep hbl1 hbl h 
        generalize l[k] = d at *
        cases bk
        · go_wp2_with fail
          refine HFN.out.mono ?_
          rintro e w2 ⟨r, rfl, hB2⟩
          have hF2 := HR1.out.step hB2
          have q2 := hF2.known.cell k
          rw [List.getElem?_map, List.getElem?_eq_getElem hkb] at q2
          simp only [Option.map_some] at q2
          have f2 := hF2.known.free k
          have ql2 := hF2.known.lt
          have HF2 := Lib.hid hF2
          clear hF2 HFN g0 g1 g2 g3 g4 q
          cases r
          · go_wp2_with fail
            go_roundw
            case rel => exact ⟨k + 1, by omega, by go_num, HF2.out⟩
            case measure => simp [intOf]; omega
          · go_wp2_with fail
            have hc := count_set hkb Hbk.out
            have hg' := hg.out
            go_roundg (gk - 1)
            case measure => omega
            case rel => exact ⟨bs.set k true, (by show _ = _; omega), HF2.out.set hU hz1 k⟩
        · go_wp2_with fail
          go_roundw
          case rel => exact ⟨k + 1, by omega, by go_num, HR1.out⟩
          case measure => simp [intOf]; omega
      · have HFr := Lib.hid hFr
        have hB' := Lib.hid hB
        clear hFr hB
        go_wp2_with fail
        go_ret
        exact ⟨w1.heap.size + 1, bs, rfl, HFr.out.len, by omega, HFr.out.known, hB'.out.up HFr.out.below hz1⟩
end Go.Proofs.YtfoihafhpmbaeaaGreatDoor

/- A schema is checked: it ends, and answers some fault. -/
namespace Go.Proofs.YtfoihafhpmbaeaaGreatDoor
open Go.RowKit

/-- some fault -/
def WkF (w : World) (e : Ending) (w' : World) : Prop := ∃ n p : Int, e = .returned (.agg #[.int .i64 n, .int .i64 p]) ∧ 0 ≤ n ∧ n ≤ 20 ∧ Below w.heap.size w w'

/-- in 'Check': the checker -/
structure CkIn (w w1 : World) (S : Blocks) (l : List Dcl) (W : World) : Prop where
  below : Below w1.heap.size w1 W
  chk : RChk (fun b => S b ∨ New w w1 b ∨ b = w1.heap.size) W l w1.heap.size
  und : Under (fun b => S b ∨ New w w1 b ∨ b = w1.heap.size) W
theorem CkIn.step {w w1 W W' : World} {S : Blocks} {l : List Dcl} (h : CkIn w w1 S l W) (g : Below W.heap.size W W') : CkIn w w1 S l W' :=
  ⟨h.below.up g h.below.size, h.chk.keep (h.und.same g), h.und.below g⟩

set_option maxHeartbeats 2000000 in
theorem Check_wk {S : Blocks} {l : List Dcl} {la : Option Addr} {lc : Nat} {w : World} (h : RSl 5 (RDcl S w) S w l la lc) (hU : Under S w) (hl : l.length ≤ 1000) :
    Calls Tryz.prog 188 #[.slice la l.length lc] w (WkF w) := by
  obtain ⟨hlc, hll⟩ := h.le
  have R0 := Blk.new w [.int .i64 0, .int .i64 0] 221
  have gA : Below w.heap.size w (w.alloc (.cells #[.int .i64 0, .int .i64 0] 221)) := (Below.refl _ _).alloc (Nat.le_refl _) _
  have hU2 := hU.below gA
  have h2 : RSl 5 (RDcl S (w.alloc (.cells #[.int .i64 0, .int .i64 0] 221))) S (w.alloc (.cells #[.int .i64 0, .int .i64 0] 221)) l la lc := h.keep (hU.same gA) (Sub.refl _) (fun _ _ _ hx => hx.keep (hU.same gA) (Sub.refl _))
  obtain ⟨w0, hw0⟩ : ∃ W, w.alloc (.cells #[.int .i64 0, .int .i64 0] 221) = W := ⟨_, rfl⟩
  rw [hw0] at R0 gA hU2 h2
  have hr0 := R0.lt
  have Hw0 := Lib.hid hw0
  clear hw0
  go_enter Tryz.func188, Tryz.ntmps188
  go_wp2_with fail
  rw [Hw0.out]
  refine (Of_calls h2 hU2 hl).mono ?_
  rintro e w1 ⟨tb, rfl, hT, hB⟩
  have hz1 := hB.size
  have R1 := R0.below hB hr0
  go_upto_region 2 with fail
  refine abs_wp (fun W => CkIn w0 w1 S l W) ?_ ?_
  · have n0 := Blk.new w1 [.slice la l.length lc, .pointer (some ⟨tb, 0, none⟩)] 365
    have g2 : Below w1.heap.size w1 (w1.alloc (.cells #[.slice la l.length lc, .pointer (some ⟨tb, 0, none⟩)] 365)) := (Below.refl _ _).alloc (Nat.le_refl _) _
    have s1 : Same S w0 (w1.alloc (.cells #[.slice la l.length lc, .pointer (some ⟨tb, 0, none⟩)] 365)) := fun b hb => (g2.block b (by have := hU2 b hb; omega)).trans (hB.block b (hU2 b hb))
    have s2 : Same (New w0 w1) w1 (w1.alloc (.cells #[.slice la l.length lc, .pointer (some ⟨tb, 0, none⟩)] 365)) := fun b hb => g2.block b hb.2
    refine ⟨g2, ⟨.inr (.inr rfl), la, lc, tb, n0, h2.keep s1 (fun b hb => .inl hb) (fun _ _ _ hx => hx.keep s1 (fun b hb => .inl hb)), hT.keep s2 (fun b hb => .inr (.inl hb))⟩, ?_⟩
    intro b hb
    have z2 : w1.heap.size < (w1.alloc (.cells #[.slice la l.length lc, .pointer (some ⟨tb, 0, none⟩)] 365)).heap.size := by simp
    rcases hb with hb | hb | hb
    · have := hU2 b hb; omega
    · have := hb.2; omega
    · omega
  intro W0 hF0
  have hrw : w.heap.size < w1.heap.size := by omega
  have gAll : Below w.heap.size w w1 := gA.up hB gA.size
  have HR1 := Lib.hid R1
  have Hgl := Lib.hid gAll
  have Hh := Lib.hid h
  clear hT R0 R1 gA hB h2 hU2 h
  go_wp2_with fail
  go_loopw [16] (fun i wr => ∃ k : Nat, k ≤ l.length ∧ i = .int .i64 k ∧ CkIn w0 w1 S l wr) (fun i _ => l.length - (intOf i).toNat)
  case atStart => exact ⟨0, by omega, rfl, hF0⟩
  case round =>
    obtain ⟨k, hk, rfl, hFr⟩ := hrel
    obtain ⟨wo, rfl⟩ : ∃ wo : World, wo = wr := ⟨_, rfl⟩
    clear hF0
    have hbl : Below w.heap.size w wo := Hgl.out.up hFr.below (Nat.le_of_lt hrw)
    have HFr := Lib.hid hFr
    have Hbl := Lib.hid hbl
    by_cases hlt : k < l.length
    · obtain ⟨b, off, cs, rfl, hSb, _, hcs0, hrd0⟩ := RSl.at Hh.out hlt
      obtain ⟨efa, efc, ema, emc, rfl, ek, en, ef, em, ep⟩ := id hrd0
      obtain ⟨g0, g1, g2, g3, g4⟩ := cells5 (hcs0.keep (hU.same hbl _ hSb))
      have hFr1 := hFr.step ((Below.refl _ _).alloc (Nat.le_refl _) (.cells #[.int .i64 l[k].kind, .string l[k].name, .slice efa l[k].fields.length efc, .slice ema l[k].methods.length emc, .int .i64 l[k].pos] 149))
      have DB := Blk.new wo [.int .i64 l[k].kind, .string l[k].name, .slice efa l[k].fields.length efc, .slice ema l[k].methods.length emc, .int .i64 l[k].pos] 149
      have HD := Lib.hid (decl_wk hFr1.chk hFr1.und k hlt)
      have HF1 := Lib.hid hFr1
      clear hFr hFr1 hbl hcs0 hrd0 ek en ef em ep
      generalize l[k] = d at *
      go_wp2_with fail
      refine HD.out.mono ?_
      rintro e w2 ⟨n, rfl, hn0, hn1, hB2⟩
      have hF2 := HF1.out.step hB2
      have DB2 := DB.below hB2 DB.lt
      have u4 := DB2.cell 4
      simp at u4
      have HF2 := Lib.hid hF2
      have rb := HR1.out.below hF2.below hrw
      have r0 := rb.cell 0
      have r1 := rb.cell 1
      have rf0 := rb.free 0
      have rf1 := rb.free 1
      have rl := rb.lt
      simp at r0 r1
      have Hrb := Lib.hid rb
      clear hF2 rb DB DB2 hB2 HD g0 g1 g2 g3 g4
      by_cases hn : n = 0
      · subst hn
        go_wp2_with fail
        go_roundw
        case rel => exact ⟨k + 1, by omega, by go_num, HF2.out⟩
        case measure => simp [intOf]; omega
      · have hn2 : (n != 0) = true := by rw [bne_iff_ne]; exact hn
        clear hn
        go_wp2_with fail
        refine end_world (fun W => Below w.heap.size w W ∧ Blk W w.heap.size [.int .i64 (n), .int .i64 (d.pos)] 221) ?_ ?_
        · exact ⟨(((Hgl.out.up HF2.out.below (Nat.le_of_lt hrw))).setCell (p := ⟨w.heap.size, 0, none⟩) (Nat.le_refl _) _).setCell (p := ⟨w.heap.size, 1, none⟩) (Nat.le_refl _) _, ((Hrb.out).set 0 _).set 1 _⟩
        rintro W ⟨hWB, hWX⟩
        have q0 := hWX.cell 0
        have q1 := hWX.cell 1
        simp at q0 q1
        refine bodyPost_ret (v := .agg #[.int .i64 n, .int .i64 d.pos]) (by simp [results, Tryz.results188, go_sem, q0, q1]) rfl ?_
        exact ⟨n, d.pos, rfl, hn0, hn1, hWB⟩
    · have HFin := Lib.hid (Finite_wk (Hh.out.keep (hU.same hbl) (Sub.refl _) (fun _ _ _ hx => hx.keep (hU.same hbl) (Sub.refl _))) (hU.below hbl) hl)
      clear hFr hbl
      go_wp2_with fail
      refine HFin.out.mono ?_
      rintro e w3 ⟨kb, bs, rfl, hbs, hkb, hK, hB3⟩
      have hbl3 : Below w.heap.size w w3 := Hbl.out.up hB3 Hbl.out.size
      have hF3 := HFr.out.step hB3
      have rb := HR1.out.below hF3.below hrw
      have r0 := rb.cell 0
      have r1 := rb.cell 1
      have rf0 := rb.free 0
      have rf1 := rb.free 1
      have rl := rb.lt
      simp at r0 r1
      have Hrb := Lib.hid rb
      have Hbl3 := Lib.hid hbl3
      clear hF3 rb hB3 HFin hbl3
      go_wp2_with fail
      go_loop [34] (fun i => ∃ k : Nat, k ≤ l.length ∧ i = .int .i64 k) (fun i => l.length - (intOf i).toNat)
      case atStart => exact ⟨0, by omega, rfl⟩
      case round =>
        obtain ⟨j, hj, rfl⟩ := hrel
        by_cases hjl : j < l.length
        · have hjb : j < bs.length := by omega
          have q := hK.cell j
          rw [List.getElem?_map, List.getElem?_eq_getElem hjb] at q
          simp only [Option.map_some] at q
          have hjl' : (j : Int) < l.length := by omega
          cases hbj : bs[j]
          · rw [hbj] at q
            obtain ⟨b, off, cs, rfl, hSb, _, hcs0, hrd0⟩ := RSl.at Hh.out hjl
            obtain ⟨efa, efc, ema, emc, rfl, ek, en, ef, em, ep⟩ := id hrd0
            obtain ⟨g0, g1, g2, g3, g4⟩ := cells5 (hcs0.keep (hU.same Hbl3.out _ hSb))
            clear hbj hcs0 hrd0 ek en ef em ep hK
            generalize l[j] = d at *
            go_wp2_with fail
            refine end_world (fun W => Below w.heap.size w W ∧ Blk W w.heap.size [.int .i64 (10), .int .i64 (d.pos)] 221) ?_ ?_
            · exact ⟨((Hbl3.out).setCell (p := ⟨w.heap.size, 0, none⟩) (Nat.le_refl _) _).setCell (p := ⟨w.heap.size, 1, none⟩) (Nat.le_refl _) _, ((Hrb.out).set 0 _).set 1 _⟩
            rintro W ⟨hWB, hWX⟩
            have q0 := hWX.cell 0
            have q1 := hWX.cell 1
            simp at q0 q1
            refine bodyPost_ret (v := .agg #[.int .i64 10, .int .i64 d.pos]) (by simp [results, Tryz.results188, go_sem, q0, q1]) rfl ?_
            exact ⟨10, d.pos, rfl, by decide, by decide, hWB⟩
          · rw [hbj] at q
            clear hbj hK
            go_wp2_with fail
            go_round
            case rel => exact ⟨j + 1, by omega, by go_num⟩
            case measure => simp [intOf]; omega
        · go_wp2_with fail
          refine end_world (fun W => Below w.heap.size w W ∧ Blk W w.heap.size [.int .i64 (0), .int .i64 (0)] 221) ?_ ?_
          · exact ⟨((Hbl3.out).setCell (p := ⟨w.heap.size, 0, none⟩) (Nat.le_refl _) _).setCell (p := ⟨w.heap.size, 1, none⟩) (Nat.le_refl _) _, ((Hrb.out).set 0 _).set 1 _⟩
          rintro W ⟨hWB, hWX⟩
          have q0 := hWX.cell 0
          have q1 := hWX.cell 1
          simp at q0 q1
          refine bodyPost_ret (v := .agg #[.int .i64 0, .int .i64 0]) (by simp [results, Tryz.results188, go_sem, q0, q1]) rfl ?_
          exact ⟨0, 0, rfl, by decide, by decide, hWB⟩
end Go.Proofs.YtfoihafhpmbaeaaGreatDoor

/- A type in memory of its own. -/
namespace Go.Proofs.YtfoihafhpmbaeaaGreatDoor
open Go.RowKit

theorem info_type : (Tryz.prog.info? 206).map (fun i => (i.zero, i.size, i.bytes)) = some (some (.agg #[.int .i64 0, .string ⟨#[]⟩, .slice none 0 0]), 3, 48) := by kernel_rfl
theorem keepsTy : Keeps RTy := fun hs k r => r.keep hs k
theorem read_own {α : Type} {R : Blocks → World → α → List Value → Prop} (hR : Keeps R) {B : Nat} {X : Blocks} {T : TypeId} {sz : Nat} {w W : World} {l : List α} {a : Option Addr} {c : Nat}
    (h : OwnL R B X T sz W l a c) (hl : l.length ≤ 2147483647) (hB : w.heap.size ≤ B) : RSl sz (R (New w W) W) (New w W) W l a c := by
  obtain ⟨S', u1, u2, r⟩ := OwnL.read (R := R) hR h hl
  exact r.keep (Same.refl _ _) (fun b hb => ⟨Nat.le_trans hB (u2 b hb).1, u1 b hb⟩) (fun x cs _ hx => hR (Same.refl _ _) (fun b hb => ⟨Nat.le_trans hB (u2 b hb).1, u1 b hb⟩) hx)

/-- a type, copied -/
def OwnTy (w : World) (t : Ty) (e : Ending) (w' : World) : Prop :=
  ∃ oa oc, e = .returned (.agg #[.int .i64 t.kind, .string t.name, .slice oa t.of.length oc]) ∧ RTy (New w w') w' t [.int .i64 t.kind, .string t.name, .slice oa t.of.length oc] ∧ Below w.heap.size w w'

/-- while a type is copied -/
structure OwIn (w : World) (t : Ty) (k : Nat) (a : Option Addr) (c : Nat) (W : World) : Prop where
  below : Below w.heap.size w W
  res : Blk W (w.heap.size + 1) [.int .i64 0, .string ⟨#[]⟩, .slice none 0 0] 206
  out : Blk W (w.heap.size + 2) [.int .i64 t.kind, .string t.name, .slice a k c] 206
  own : OwnL RTy (w.heap.size + 3) (fun _ => False) 206 3 W (t.of.take k) a c
theorem OwIn.step {w W W' : World} {t : Ty} {k : Nat} {a : Option Addr} {c : Nat} (h : OwIn w t k a c W) (g : Below W.heap.size W W') : OwIn w t k a c W' :=
  ⟨h.below.up g h.below.size, h.res.below g h.res.lt, h.out.below g h.out.lt, OwnL.keep (R := RTy) keepsTy h.own g.size (fun b _ hb _ => g.block b hb)⟩

set_option maxHeartbeats 2000000 in
theorem own_calls (t : Ty) : ∀ (S : Blocks) (cs : List Value) (w : World), RTy S w t cs → Under S w →
    Calls Tryz.prog 99 #[.agg cs.toArray] w (OwnTy w t) := by
  induction t using Ty.ind with
  | h t ih =>
    intro S cs w hv hU
    obtain ⟨a, cap, rfl, hk, ht, hi⟩ := hv.cells
    obtain ⟨hc, hl⟩ := hi.le
    obtain ⟨i0, hi0, hz0, hz1, hz2⟩ := info_parts info_type
    have HIH : Hid (∀ x, x ∈ t.of → ∀ (cs : List Value) (W : World), Below w.heap.size w W → RTy S w x cs → Calls Tryz.prog 99 #[.agg cs.toArray] W (OwnTy W x)) := fun x hx cs W g hr =>
      ih x hx S cs W (hr.keep (hU.same g) (Sub.refl _)) (hU.below g)
    clear ih hv
    obtain ⟨n, hn⟩ : ∃ n, t.of.length = n := ⟨_, rfl⟩
    rw [hn] at hc hl
    have Hn := Lib.hid hn
    rw [show (Value.slice a t.of.length cap) = Value.slice a n cap by rw [hn]]
    clear hn
    go_enter Tryz.func99, Tryz.ntmps99
    go_upto_region 2 with fail
    refine abs_wp (fun W => OwIn w t 0 none 0 W ∧ Blk W w.heap.size [.int .i64 t.kind, .string t.name, .slice a n cap] 206) ?_ ?_
    · have n0 := Blk.new w [.int .i64 t.kind, .string t.name, .slice a n cap] 206
      have e1 : (w.alloc (.cells #[.int .i64 t.kind, .string t.name, .slice a n cap] 206)).heap.size = w.heap.size + 1 := by simp
      have n1 := Blk.new (w.alloc (.cells #[.int .i64 t.kind, .string t.name, .slice a n cap] 206)) [.int .i64 0, .string ⟨#[]⟩, .slice none 0 0] 206
      have e2 : ((w.alloc (.cells #[.int .i64 t.kind, .string t.name, .slice a n cap] 206)).alloc (.cells #[.int .i64 0, .string ⟨#[]⟩, .slice none 0 0] 206)).heap.size = w.heap.size + 2 := by simp
      have n2 := Blk.new ((w.alloc (.cells #[.int .i64 t.kind, .string t.name, .slice a n cap] 206)).alloc (.cells #[.int .i64 0, .string ⟨#[]⟩, .slice none 0 0] 206)) [.int .i64 t.kind, .string t.name, .slice none 0 0] 206
      rw [e1] at n1
      rw [e2] at n2
      exact ⟨⟨(((Below.refl _ _).alloc (Nat.le_refl _) _).alloc (by rw [e1]; omega) _).alloc (by rw [e2]; omega) _, n1.alloc _, n2, OwnL.nil _ _ _ _ _ _⟩, (n0.alloc _).alloc _⟩
    rintro W0 ⟨hO0, hX0⟩
    have x2 := hX0.cell 2
    have xl := hX0.lt
    simp at x2
    go_wp2_with fail
    clear x2 xl hX0
    go_loopw [14] (fun i wr => ∃ (k : Nat) (oa : Option Addr) (oc : Nat), k ≤ n ∧ i = .int .i64 k ∧ OwIn w t k oa oc wr) (fun i _ => n - (intOf i).toNat)
    case atStart => exact ⟨0, none, 0, by omega, rfl, hO0⟩
    case round =>
      obtain ⟨k, oa, oc, hkn, rfl, hO⟩ := hrel
      obtain ⟨wo, rfl⟩ : ∃ wo : World, wo = wr := ⟨_, rfl⟩
      clear hO0
      by_cases hlt : k < n
      · have hkt : k < t.of.length := by have := Hn.out; omega
        obtain ⟨b, off, cs, rfl, hSb, _, hcs0, hrd0⟩ := RSl.at hi hkt
        obtain ⟨eoa, eoc, rfl, ek, en, eo⟩ := hrd0.cells
        obtain ⟨g0, g1, g2⟩ := cells3 (hcs0.keep (hU.same hO.below _ hSb))
        have HC := Lib.hid (fun W g => HIH.out t.of[k] (List.getElem_mem hkt) _ W g hrd0)
        have hzo := hO.below.size
        have HO := Lib.hid hO
        obtain ⟨x, hx⟩ : ∃ x, t.of[k] = x := ⟨_, rfl⟩
        have Hx : Hid (t.of.take (k + 1) = t.of.take k ++ [x]) := by show _ = _; rw [List.take_add_one, List.getElem?_eq_getElem hkt, hx]; rfl
        rw [hx] at HC g0 g1 g2
        clear hcs0 hrd0 ek en eo hx HIH hi hO
        obtain ⟨xn, hxn⟩ : ∃ n, x.of.length = n := ⟨_, rfl⟩
        rw [hxn] at g2
        rw [show (Value.slice eoa x.of.length eoc) = Value.slice eoa xn eoc by rw [hxn]] at HC
        have Hxn := Lib.hid hxn
        clear hxn
        go_upto_region 5 with fail
        obtain ⟨W1, hW1⟩ : ∃ W, wo.alloc (.cells #[.int .i64 x.kind, .string x.name, .slice eoa xn eoc] 206) = W := ⟨_, rfl⟩
        have O1 := HO.out.step (W' := W1) (hW1 ▸ (Below.refl _ _).alloc (Nat.le_refl _) _)
        have E1 : Blk W1 wo.heap.size [.int .i64 x.kind, .string x.name, .slice eoa xn eoc] 206 := hW1 ▸ Blk.new wo _ _
        rw [hW1]
        have o2 := O1.out.cell 2
        have x0 := E1.cell 0
        have x1 := E1.cell 1
        have x2 := E1.cell 2
        simp only [List.getElem?_cons_succ, List.getElem?_cons_zero] at o2 x0 x1 x2
        clear g0 g1 g2
        refine wp_region_X (fun W => W.cell? ⟨w.heap.size + 2, 2, none⟩ = some (.slice oa k oc) ∧ W.cell? ⟨wo.heap.size, 0, none⟩ = some (.int .i64 x.kind) ∧ W.cell? ⟨wo.heap.size, 1, none⟩ = some (.string x.name) ∧ W.cell? ⟨wo.heap.size, 2, none⟩ = some (.slice eoa xn eoc)) 7 (by kernel_rfl) ⟨by simpa using o2, by simpa using x0, by simpa using x1, by simpa using x2⟩ (fun hS0 => ?_)
        refine wpAnyX_take (v := ?_) 0 rfl (by kernel_rfl) (by kernel_rfl) (by kernel_rfl) (by kernel_rfl) (fun _ _ _ h => h) (Or.inl ⟨by rfl, ?_⟩) (by assumption) ?_
        rotate_left 1
        · intro w hSw
          try dsimp only at hSw
          go_simp
          try with_reducible rfl
        simp only [List.getElem_toArray, List.getElem_cons_zero, Act.put, List.setIfInBounds_toArray, List.set_cons_zero, List.set_cons_succ]
        refine wpAnyX_take (v := ?_) 1 rfl (by kernel_rfl) (by kernel_rfl) (by kernel_rfl) (by kernel_rfl) (fun _ _ _ h => h) (Or.inl ⟨by rfl, ?_⟩) (by assumption) ?_
        rotate_left 1
        · intro w hSw
          try dsimp only at hSw
          go_simp
          try with_reducible rfl
        simp only [List.getElem_toArray, List.getElem_cons_succ, List.getElem_cons_zero, Act.put, List.setIfInBounds_toArray, List.set_cons_zero, List.set_cons_succ]
        refine wpAnyX_take (v := ?_) 2 rfl (by kernel_rfl) (by kernel_rfl) (by kernel_rfl) (by kernel_rfl) (fun _ _ _ h => h) (Or.inl ⟨by rfl, ?_⟩) (by assumption) ?_
        rotate_left 1
        · intro w hSw
          try dsimp only at hSw
          go_simp
          try with_reducible rfl
        simp only [List.getElem_toArray, List.getElem_cons_succ, List.getElem_cons_zero, Act.put, List.setIfInBounds_toArray, List.set_cons_zero, List.set_cons_succ]
        refine wpAnyX_one 3 (by kernel_rfl) rfl (fun K hK => ?_)
        go_simp
        go_at_call 99
        refine (HC.out W1.drew (O1.below.drew)).mono ?_
        rintro e w2 ⟨xa, xc, rfl, hxr, hB2⟩
        have g12 : Below W1.heap.size W1 w2 := (Below.refl _ _).drew.trans hB2
        have O2 := O1.step g12
        have E2 := E1.below g12 E1.lt
        have r2 := O2.out.cell 2
        have y0 := E2.cell 0
        have y1 := E2.cell 1
        have y2 := E2.cell 2
        have s2 := g12.size
        have z1 := E1.lt
        simp only [List.getElem?_cons_succ, List.getElem?_cons_zero] at r2 y0 y1 y2
        refine hK.out _ _ (fun _ => ⟨r2, y0, y1, y2⟩) (fun hS1 => ?_)
        replace hS1 := hS1 (by decide)
        clear hK K hS0 o2 x0 x1 x2
        have lo2 := O2.out.lt
        refine wpAnyX_one 4 (by kernel_rfl) rfl (fun K hK => ?_)
        go_simp
        refine hK.out _ _ (fun _ => ⟨by go_keep, by go_keep, by go_keep, by go_keep⟩) (fun hS0 => ?_)
        replace hS0 := hS0 (by decide)
        clear hK K hS1
        have hkl : (t.of.take k).length = k := by simp; omega
        obtain ⟨xs, SS, k1, k2, k3, k4, k5, k6⟩ := O2.own
        rw [hkl] at k1
        have hrl : ∀ b, (Value.slice oa k oc).ownBlock = some b → w.heap.size + 3 ≤ b ∧ b < wo.heap.size := fun b e => by
          obtain ⟨xs', SS', j1, _⟩ := HO.out.own
          rw [hkl] at j1
          exact j1.lt b e
        have Hkl := Lib.hid hkl
        clear hkl
        refine wpAnyX_one 5 (by kernel_rfl) rfl (fun K hK => ?_)
        refine step_append_lies _ (by rfl) _ _ _ (by rfl) (w.heap.size + 3) 206 i0 _ 3 48 Tryz.underlying204 hi0 hz0 hz1 hz2 rfl (by omega) (.slice oa k oc) k xs (by rfl) (k1.alloc _)
          ⟨w2.heap.size, 0, none⟩ 1 1 [.int .i64 x.kind, .string x.name, .slice xa x.of.length xc] (by rfl) (by rfl) (news_new w2 [.int .i64 x.kind, .string x.name, .slice xa x.of.length xc] _) (by simp [Value.oneCell'])
          (by omega) (by unfold maxLen; omega) (by omega) (by simp; omega) (w2.heap.size + 1) (by simp) ?_
        intro g c' w4 hown hg hat hlt4
        have hne : ∀ b, b < w.heap.size + 3 → some b ≠ (Value.slice oa k oc).ownBlock := fun b hb e => by have := (hrl b e.symm).1; omega
        have hkeep : ∀ b, b < w2.heap.size → some b ≠ (Value.slice oa k oc).ownBlock → w4.heap[b]? = w2.heap[b]? := fun b hb hn => (hg.block b (by simp; omega) hn).trans (Below.heap_alloc w2 _ _ hb)
        have T4 := O2.out.keep (hkeep _ lo2 (hne _ (by omega)))
        have R4 := O2.res.keep (hkeep _ O2.res.lt (hne _ (by omega)))
        have lE2 := E2.lt
        have E4 := E2.keep (hkeep _ lE2 (fun e => by have := (hrl _ e.symm).2; omega))
        have B4 : Below w.heap.size w w4 := (O2.below.alloc O2.below.size _).grown hg (by simp; have := O2.below.size; omega) (fun j e => by have := (hrl j e).1; omega)
        have t4 := T4.cell 2
        have f4 := T4.free 2
        have v0 := E4.cell 0
        have v1 := E4.cell 1
        have v2 := E4.cell 2
        have l4 := T4.lt
        simp only [List.getElem?_cons_succ, List.getElem?_cons_zero] at t4 v0 v1 v2
        refine hK.out _ _ (fun _ => ⟨t4, v0, v1, v2⟩) (fun hS1 => ?_)
        replace hS1 := hS1 (by decide)
        clear hK K hS0
        refine wpAnyX_one 6 (by kernel_rfl) rfl (fun K hK => ?_)
        go_simp
        refine hK.out _ _ (fun _ => ⟨t4, v0, v1, v2⟩) (fun _ => ?_)
        clear hK K
        refine wpAnyX_one 7 (by kernel_rfl) rfl (fun K hK => ?_)
        go_simp
        refine hK.out _ _ (fun h => absurd h (by omega)) (fun _ => ?_)
        clear hK K hS1
        refine wpAnyX_done (by kernel_rfl) ?_ _
        go_wp2_with fail
        have hkl := Hkl.out
        have hW1s : wo.heap.size < W1.heap.size := z1
        have hwo := HO.out.out.lt
        have O5 := OwnL.snoc (R := RTy) (sz := 3) (X := fun _ => False) (S1 := New W1.drew w2) (x := x) (W := w2) keepsTy RTy.len (by rw [hkl]; exact k1) k2 k3 k4 k5 k6 hxr (fun _ hb => hb.2)
          (fun b hb => ⟨by have : W1.heap.size ≤ b := hb.1; omega, fun h => h⟩) (fun b hb e => by rw [hkl] at e; have := (hrl b e).2; have : W1.heap.size ≤ b := hb.1; omega) (fun _ h => h.elim) rfl
          (by rw [hkl]; exact hown) (by rw [hkl]; exact hg) (hat.elim (fun e => .inl (by rw [hkl]; exact e.symm)) (fun e => .inr (by rw [e]; simp [Value.ownBlock])))
        refine ⟨⟨k + 1, some ⟨g, 0, none⟩, c', by omega, rfl, ⟨B4.setCell (p := ⟨w.heap.size + 2, 2, none⟩) (by show w.heap.size ≤ w.heap.size + 2; omega) _, R4.keep (Below.heap_setCell _ _ _ _ (by show w.heap.size + 1 ≠ w.heap.size + 2; omega)), T4.set 2 _, ?_⟩⟩, by simp [intOf]; omega⟩
        rw [Hx.out]
        exact OwnL.keep (R := RTy) keepsTy O5 (by simp [World.setCell]) (fun b hb _ _ => Below.heap_setCell _ _ _ _ (by show b ≠ w.heap.size + 2; omega))
      · have hkn2 : k = n := by omega
        subst hkn2
        have r0 := hO.res.cell 0
        have r1 := hO.res.cell 1
        have r2 := hO.res.cell 2
        have rf0 := hO.res.free 0
        have rf1 := hO.res.free 1
        have rf2 := hO.res.free 2
        have rl := hO.res.lt
        have o0 := hO.out.cell 0
        have o1 := hO.out.cell 1
        have o2 := hO.out.cell 2
        have ol := hO.out.lt
        simp only [List.getElem?_cons_succ, List.getElem?_cons_zero] at r0 r1 r2 o0 o1 o2
        have HO := Lib.hid hO
        clear hO hi HIH
        go_wp2_with fail
        refine end_world (fun W => Below w.heap.size w W ∧ Blk W (w.heap.size + 1) [.int .i64 t.kind, .string t.name, .slice oa k oc] 206 ∧ RSl 3 (RTy (New w W) W) (New w W) W t.of oa oc) ?_ ?_
        · have hO := HO.out
          have own := hO.own
          rw [List.take_of_length_le (by have := Hn.out; omega)] at own
          refine ⟨((hO.below.setCell (p := ⟨w.heap.size + 1, 0, none⟩) (Nat.le_succ _) _).setCell (p := ⟨w.heap.size + 1, 1, none⟩) (Nat.le_succ _) _).setCell (p := ⟨w.heap.size + 1, 2, none⟩) (Nat.le_succ _) _, ((hO.res.set 0 _).set 1 _).set 2 _, ?_⟩
          refine read_own (R := RTy) keepsTy (OwnL.keep (R := RTy) keepsTy own (by simp [World.setCell]) (fun b hb _ _ => ?_)) (by have := Hn.out; omega) (by omega)
          have hbr : b ≠ w.heap.size + 1 := by omega
          rw [Below.heap_setCell _ _ _ _ hbr, Below.heap_setCell _ _ _ _ hbr, Below.heap_setCell _ _ _ _ hbr]
        rintro W ⟨hWB, hWX, hWR⟩
        have q0 := hWX.cell 0
        have q1 := hWX.cell 1
        have q2 := hWX.cell 2
        simp at q0 q1 q2
        refine bodyPost_ret (v := .agg #[.int .i64 t.kind, .string t.name, .slice oa k oc]) (by simp [results, Tryz.results99, go_sem, q0, q1, q2]) rfl ?_
        have hkl := Hn.out
        exact ⟨oa, oc, by rw [hkl], RTy.intro hk ht hWR, hWB⟩
end Go.Proofs.YtfoihafhpmbaeaaGreatDoor

/- Fields in memory of their own. -/
namespace Go.Proofs.YtfoihafhpmbaeaaGreatDoor
open Go.RowKit

/-- fields, copied -/
def FldsPost (w : World) (l : List Fld) (e : Ending) (w' : World) : Prop :=
  ∃ a c, e = .returned (.slice a l.length c) ∧ RSl 5 (RFld (New w w') w') (New w w') w' l a c ∧ Below w.heap.size w w'

set_option maxHeartbeats 2000000 in
theorem fields_calls {S : Blocks} {w : World} {l : List Fld} {a : Option Addr} {cap : Nat} (hi : RSl 5 (RFld S w) S w l a cap) (hU : Under S w) :
    Calls Tryz.prog 71 #[.slice a l.length cap] w (FldsPost w l) := by
  obtain ⟨hc, hl⟩ := hi.le
  obtain ⟨i0, hi0, hz0, hz1, hz2⟩ := info_parts info_fld
  have HOWN : Hid (∀ (x : Ty) (cs : List Value) (W : World), Below w.heap.size w W → RTy S w x cs → Calls Tryz.prog 99 #[.agg cs.toArray] W (OwnTy W x)) := fun x cs W g hr =>
    own_calls x S cs W (hr.keep (hU.same g) (Sub.refl _)) (hU.below g)
  obtain ⟨n, hn⟩ : ∃ n, l.length = n := ⟨_, rfl⟩
  rw [hn] at hc hl ⊢
  have Hn := Lib.hid hn
  clear hn
  go_enter Tryz.func71, Tryz.ntmps71
  go_wp2_with fail
  go_loopw [3, 8] (fun v i wr => ∃ (k : Nat) (oa : Option Addr) (oc : Nat), k ≤ n ∧ i = .int .i64 k ∧ v = .slice oa k oc ∧ Below w.heap.size w wr ∧ OwnL RFld w.heap.size (fun _ => False) 208 5 wr (l.take k) oa oc) (fun _ i _ => n - (intOf i).toNat)
  case atStart => exact ⟨0, none, 0, by omega, rfl, rfl, Below.refl _ _, OwnL.nil _ _ _ _ _ _⟩
  case round =>
    obtain ⟨k, oa, oc, hkn, rfl, rfl, hB, hO⟩ := hrel
    obtain ⟨wo, rfl⟩ : ∃ wo : World, wo = wr := ⟨_, rfl⟩
    by_cases hlt : k < n
    · have hkt : k < l.length := by have := Hn.out; omega
      obtain ⟨b, off, cs, rfl, hSb, _, hcs0, hrd0⟩ := RSl.at hi hkt
      obtain ⟨eoa, eoc, rfl, ek, en, eo⟩ := id hrd0
      obtain ⟨g0, g1, g2, g3, g4⟩ := cells5 (hcs0.keep (hU.same hB _ hSb))
      have hzo := hB.size
      have E0 := Blk.new wo [.int .i64 l[k].tag, .string l[k].name, .int .i64 l[k].type.kind, .string l[k].type.name, .slice eoa l[k].type.of.length eoc] 208
      have B1 := hB.alloc hzo (.cells #[.int .i64 l[k].tag, .string l[k].name, .int .i64 l[k].type.kind, .string l[k].type.name, .slice eoa l[k].type.of.length eoc] 208)
      have HC := Lib.hid (HOWN.out l[k].type _ _ B1 eo)
      have HB := Lib.hid hB
      have HO := Lib.hid hO
      have HX : Hid (l.take (k + 1) = l.take k ++ [l[k]]) := by show _ = _; rw [List.take_add_one, List.getElem?_eq_getElem hkt]; rfl
      have hek := Lib.hid (And.intro ek en)
      generalize l[k] = x at *
      obtain ⟨xn, hxn⟩ : ∃ n, x.type.of.length = n := ⟨_, rfl⟩
      have Hxn := Lib.hid hxn
      have HC2 : Hid (Calls Tryz.prog 99 #[.agg #[.int .i64 x.type.kind, .string x.type.name, .slice eoa xn eoc]] (wo.alloc (.cells #[.int .i64 x.tag, .string x.name, .int .i64 x.type.kind, .string x.type.name, .slice eoa xn eoc] 208)) (OwnTy (wo.alloc (.cells #[.int .i64 x.tag, .string x.name, .int .i64 x.type.kind, .string x.type.name, .slice eoa xn eoc] 208)) x.type)) := by
        rw [← hxn]; exact HC.out
      rw [hxn] at g4 E0 B1
      clear HC hxn hcs0 hrd0 ek en eo hi hO HOWN hB
      go_wp2_with fail
      refine HC2.out.mono ?_
      rintro e w2 ⟨xa, xc, rfl, hxr, hB2⟩
      have E2 := E0.below hB2 E0.lt
      have e2 := E2.cell 2
      have e3 := E2.cell 3
      have e4 := E2.cell 4
      have f2 := E2.free 2
      have f3 := E2.free 3
      have f4 := E2.free 4
      have e0 := E2.cell 0
      have e1 := E2.cell 1
      have le2 := E2.lt
      have hs2 := hB2.size
      simp only [List.getElem?_cons_succ, List.getElem?_cons_zero] at e0 e1 e2 e3 e4
      have E3 : Blk (((w2.setCell ⟨wo.heap.size, 2, none⟩ (.int .i64 x.type.kind)).setCell ⟨wo.heap.size, 3, none⟩ (.string x.type.name)).setCell ⟨wo.heap.size, 4, none⟩ (.slice xa x.type.of.length xc)) wo.heap.size [.int .i64 x.tag, .string x.name, .int .i64 x.type.kind, .string x.type.name, .slice xa x.type.of.length xc] 208 := ((E2.set 2 _).set 3 _).set 4 _
      go_upto_region 6 with fail
      obtain ⟨W3, hW3⟩ : ∃ W, (((w2.setCell ⟨wo.heap.size, 2, none⟩ (.int .i64 x.type.kind)).setCell ⟨wo.heap.size, 3, none⟩ (.string x.type.name)).setCell ⟨wo.heap.size, 4, none⟩ (.slice xa x.type.of.length xc)) = W := ⟨_, rfl⟩
      have hz3 : W3.heap.size = w2.heap.size := by rw [← hW3]; simp [World.setCell]
      have hk3 : ∀ b, b ≠ wo.heap.size → W3.heap[b]? = w2.heap[b]? := fun b hb => by
        rw [← hW3, Below.heap_setCell _ _ _ _ hb, Below.heap_setCell _ _ _ _ hb, Below.heap_setCell _ _ _ _ hb]
      have B3 : Below w.heap.size w W3 := by
        rw [← hW3]
        exact (((B1.up hB2 (by simp; omega)).setCell (p := ⟨wo.heap.size, 2, none⟩) hzo _).setCell (p := ⟨wo.heap.size, 3, none⟩) hzo _).setCell (p := ⟨wo.heap.size, 4, none⟩) hzo _
      rw [hW3] at E3 ⊢
      have u0 := E3.cell 0
      have u1 := E3.cell 1
      have u2 := E3.cell 2
      have u3 := E3.cell 3
      have u4 := E3.cell 4
      have lu := E3.lt
      simp only [List.getElem?_cons_succ, List.getElem?_cons_zero] at u0 u1 u2 u3 u4
      have s12 := hB2.size
      have e12 : (wo.alloc (.cells #[.int .i64 x.tag, .string x.name, .int .i64 x.type.kind, .string x.type.name, .slice eoa xn eoc] 208)).heap.size = wo.heap.size + 1 := by simp
      have O3 : OwnL RFld w.heap.size (fun _ => False) 208 5 W3 (l.take k) oa oc := OwnL.keep (R := RFld) keepsFld HO.out (by omega) (fun b _ hb _ => (hk3 b (by omega)).trans ((hB2.block b (by omega)).trans (Below.heap_alloc _ _ _ hb)))
      have X3 : RFld (New (wo.alloc (.cells #[.int .i64 x.tag, .string x.name, .int .i64 x.type.kind, .string x.type.name, .slice eoa xn eoc] 208)) w2) W3 x [.int .i64 x.tag, .string x.name, .int .i64 x.type.kind, .string x.type.name, .slice xa x.type.of.length xc] :=
        ⟨xa, xc, rfl, hek.out.1, hek.out.2, hxr.keep (fun b hb => hk3 b (by have := hb.1; omega)) (Sub.refl _)⟩
      have hkl : (l.take k).length = k := by have := Hn.out; simp; omega
      obtain ⟨xs, SS, k1, k2, k3, k4, k5, k6⟩ := O3
      rw [hkl] at k1
      have hrl : ∀ b, (Value.slice oa k oc).ownBlock = some b → w.heap.size ≤ b ∧ b < wo.heap.size := fun b e => by
        obtain ⟨xs', SS', j1, _⟩ := HO.out
        rw [hkl] at j1
        exact j1.lt b e
      have Hkl := Lib.hid hkl
      have HX3 := Lib.hid X3
      have HB3 := Lib.hid B3
      clear hkl e0 e1 e2 e3 e4 f2 f3 f4 E0 E2 E3 hW3 hB2 hxr HC2 B1 B3 X3 g0 g1 g2 g3 g4
      go_wp2_with (at_builtin; refine wpList_append_own_at _ rfl _ _ 146 rfl w.heap.size 208 i0 _ 5 72 Tryz.underlying146 hi0 hz0 hz1 hz2 rfl (by decide) _ _ _ rfl (k1.alloc _) ⟨W3.heap.size, 0, none⟩ 1 1 [.int .i64 x.tag, .string x.name, .int .i64 x.type.kind, .string x.type.name, .slice xa x.type.of.length xc] ?c0 rfl ?c1 ?c2 ?c3 ?c4 ?c5 ?_)
      case c2 => simp [Value.oneCell']
      case c3 => unfold maxLen; omega
      case c4 => omega
      case c5 => first | omega | (simp; omega)
      intro v' w5 hown hg _ hloc
      obtain ⟨a', c', rfl⟩ := own_form hown
      have hkl := Hkl.out
      have O5 := OwnL.snoc (R := RFld) (sz := 5) (X := fun _ => False) (S1 := New (wo.alloc (.cells #[.int .i64 x.tag, .string x.name, .int .i64 x.type.kind, .string x.type.name, .slice eoa xn eoc] 208)) w2) (x := x) (W := W3) keepsFld RFld.len (by rw [hkl]; exact k1) k2 k3 k4 k5 k6 HX3.out (fun b hb => by have := hb.2; omega)
        (fun b hb => ⟨by have := hb.1; omega, fun h => h⟩) (fun b hb e => by rw [hkl] at e; have := (hrl b e).2; have := hb.1; omega) (fun _ h => h.elim) rfl
        (by rw [hkl]; exact hown) (by rw [hkl]; exact hg) (by rw [hkl]; rw [show (W3.alloc (.cells ([.int .i64 x.tag, .string x.name, .int .i64 x.type.kind, .string x.type.name, .slice xa x.type.of.length xc] : List Value).toArray 208)).heap.size = w2.heap.size + 1 by simp [hz3]]; exact hloc)
      have B5 : Below w.heap.size w w5 := (HB3.out.alloc HB3.out.size _).grown hg (by simp; omega) (fun j e => (hrl j e).1)
      clear hkl hown hg hloc k1 k6 hrl
      go_wp2_with fail
      go_roundw
      case rel => exact ⟨k + 1, a', c', by omega, by go_num, rfl, B5, by rw [HX.out]; exact O5⟩
      case measure => simp [intOf]; omega
    · have hkn2 : k = n := by omega
      subst hkn2
      have HO := Lib.hid hO
      clear hO hi HOWN
      go_wp2_with fail
      go_ret
      have own := HO.out
      rw [List.take_of_length_le (by have := Hn.out; omega)] at own
      have hkl := Hn.out
      exact ⟨oa, oc, by rw [hkl]; rfl, read_own (R := RFld) keepsFld own (by omega) (Nat.le_refl _), hB⟩
end Go.Proofs.YtfoihafhpmbaeaaGreatDoor

/- Methods in memory of their own. -/
namespace Go.Proofs.YtfoihafhpmbaeaaGreatDoor
open Go.RowKit

def mthCells (l : List Mth) : List Value := l.flatMap fun m => [.int .i64 m.tag, .string m.name, .string m.inn, .string m.out, .bool m.oneWay]
theorem mthCells_len (l : List Mth) : (mthCells l).length = l.length * 5 := by
  unfold mthCells
  induction l with
  | nil => rfl
  | cons k l ih => rw [List.flatMap_cons, List.length_append, ih]; simp; omega
theorem mthCells_at (l : List Mth) : ∀ (i j : Nat) (h : i < l.length), j < 5 → (mthCells l)[i * 5 + j]? = [Value.int .i64 l[i].tag, .string l[i].name, .string l[i].inn, .string l[i].out, .bool l[i].oneWay][j]? := by
  induction l with
  | nil => intro i j h; simp at h
  | cons k l ih =>
    intro i j h hj
    unfold mthCells at ih ⊢
    rw [List.flatMap_cons]
    cases i with
    | zero => rw [List.getElem?_append_left (by simp; omega)]; simp
    | succ i =>
      rw [List.getElem?_append_right (by simp; omega)]
      have := ih i j (by simpa using h) hj
      simp only [List.getElem_cons_succ]
      rw [← this]
      congr 1
      simp
      omega
theorem mthCells_one (l : List Mth) : ∀ u ∈ mthCells l, u.oneCell' = true := by
  intro u hu
  unfold mthCells at hu
  rw [List.mem_flatMap] at hu
  obtain ⟨k, _, hk⟩ := hu
  simp at hk
  rcases hk with rfl | rfl | rfl | rfl | rfl <;> rfl

theorem mth_cells {S : Blocks} {w : World} {l : List Mth} {b off cap : Nat} (hi : RSl 5 RMth S w l (some ⟨b, off, none⟩) cap) : ∀ j u, (mthCells l)[j]? = some u → w.cell? ((⟨b, off, none⟩ : Addr).add j) = some u := by
  intro j u hj
  have hlt := (List.getElem?_eq_some_iff.1 hj).1
  rw [mthCells_len] at hlt
  have hk : j / 5 < l.length := by omega
  obtain ⟨b', off', cs, hab, _, _, hcs, rfl, _⟩ := RSl.at hi hk
  simp only [Option.some.injEq, Addr.mk.injEq] at hab
  obtain ⟨rfl, rfl, _⟩ := hab
  have hm := mthCells_at l (j / 5) (j % 5) hk (by omega)
  rw [show j / 5 * 5 + j % 5 = j by omega, hj] at hm
  have hj5 : j % 5 < 5 := by omega
  have := hcs (j % 5) hj5
  have e : (⟨b, off, none⟩ : Addr).add j = ⟨b, off + j / 5 * 5 + j % 5, none⟩ := by
    have : off + j / 5 * 5 + j % 5 = off + j := by omega
    rw [this]
    unfold Addr.add; split <;> simp_all
  rw [e, this, hm]
  exact (List.getElem?_eq_getElem _).symm

theorem mthCells_drop (l : List Mth) (i : Nat) (h : i < l.length) : ((mthCells l).drop (i * 5)).take 5 = [.int .i64 l[i].tag, .string l[i].name, .string l[i].inn, .string l[i].out, .bool l[i].oneWay] := by
  apply List.ext_getElem?
  intro j
  by_cases hj : j < 5
  · rw [List.getElem?_take, if_pos hj, List.getElem?_drop]
    exact mthCells_at l i j h hj
  · rw [List.getElem?_take, if_neg hj]
    exact (List.getElem?_eq_none (by simp; omega)).symm

/-- methods, copied -/
def MthsPost (w : World) (l : List Mth) (e : Ending) (w' : World) : Prop :=
  ∃ a c, e = .returned (.slice a l.length c) ∧ RSl 5 RMth (New w w') w' l a c ∧ Below w.heap.size w w'

set_option maxHeartbeats 1000000 in
theorem cloneM_some {S : Blocks} {w : World} {l : List Mth} {b off : Nat} {cap : Nat} (hi : RSl 5 RMth S w l (some ⟨b, off, none⟩) cap) (hU : Under S w) :
    Calls Tryz.prog 72 #[.slice (some ⟨b, off, none⟩) l.length cap] w (MthsPost w l) := by
  obtain ⟨hc, hl⟩ := hi.le
  obtain ⟨i0, hi0, hz0, hz1, hz2⟩ := info_parts info_mth
  have heq := fun W => Lib.run_eql_slice_nil (P := Tryz.prog) W 147 76 (some ⟨b, off, none⟩) l.length cap 0 0 Tryz.underlying147
  have hown0 := World.ownsRow_made (base := w.heap.size) (e := 76) (size := 5) w #[] 0 (Nat.le_refl _) (by unfold maxLen; omega) (by simp)
  have hcells := mth_cells hi
  have hrm : ∀ i, (h : i < l.length) → RMth l[i] [.int .i64 l[i].tag, .string l[i].name, .string l[i].inn, .string l[i].out, .bool l[i].oneWay] := fun i h => by
    obtain ⟨_, _, cs, _, _, _, _, hr⟩ := RSl.at hi h
    have e := hr.1
    subst e
    exact hr
  have hsb : b < w.heap.size ∨ l = [] := by
    rcases hi with ⟨h, _⟩ | ⟨b', off', hab, _, _, _, hb, _⟩
    · cases h
    · simp only [Option.some.injEq, Addr.mk.injEq] at hab
      obtain ⟨rfl, _, _⟩ := hab
      exact .inl (hU b hb)
  have HC : Hid (∀ j u, (mthCells l)[j]? = some u → (w.alloc (.cells #[] 76)).cell? ((⟨b, off, none⟩ : Addr).add j) = some u) := fun j u hj => by
    have hc := hcells j u hj
    have hb := World.block_lt_of_cell? w _ hc
    rw [← hc]
    exact World.cell?_of_block (Below.heap_alloc _ _ _ hb)
  have HM := Lib.hid hrm
  clear hcells hrm hi
  go_enter Tryz.func72, Tryz.ntmps72
  go_wp2_with (at_builtin; refine wpList_append_own_at _ rfl _ _ 147 rfl w.heap.size 76 i0 _ 5 64 Tryz.underlying147 hi0 hz0 hz1 hz2 rfl (by decide) _ _ _ rfl hown0 ⟨b, off, none⟩ l.length cap (mthCells l) ?c0 (mthCells_len l) ?c1 ?c2 ?c3 ?c4 ?c5 ?_)
  case c0 => rfl
  case c1 => exact HC.out
  case c2 => exact mthCells_one l
  case c3 => unfold maxLen; omega
  case c4 => omega
  case c5 => simp
  intro v' w1 hown hg _ _
  obtain ⟨a', c', rfl⟩ := own_form hown
  have hB : Below w.heap.size w w1 := ((Below.refl _ _).alloc (Nat.le_refl _) _).grown hg (by simp) (fun k e => Nat.le_of_eq (by simpa [Value.ownBlock] using e))
  have HF := Lib.hid (And.intro hown hB)
  clear hown hg hB hown0 heq
  go_wp2_with fail
  go_ret
  obtain ⟨hown, hB⟩ := HF.out
  refine ⟨a', c', by simp, ?_, hB⟩
  have O : OwnL RMth' w.heap.size (fun _ => False) 76 5 w1 l a' c' := ⟨mthCells l, fun _ => False, hown, fun _ h => h.elim, fun _ h => h.elim, fun _ h => h.elim, fun _ h => h.elim, fun i hi => by
    have := mthCells_drop l i hi
    rw [this]
    exact HM.out i hi⟩
  exact read_own (R := RMth') keepsMth O hl (Nat.le_refl _)

theorem cloneM_calls {S : Blocks} {w : World} {l : List Mth} {a : Option Addr} {cap : Nat} (hi : RSl 5 RMth S w l a cap) (hU : Under S w) :
    Calls Tryz.prog 72 #[.slice a l.length cap] w (MthsPost w l) := by
  rcases id hi with ⟨rfl, rfl, rfl⟩ | ⟨b, off, rfl, _⟩
  · have heq := fun W => Lib.run_eql_slice_nil (P := Tryz.prog) W 147 76 none 0 0 0 0 Tryz.underlying147
    clear hi
    go_enter Tryz.func72, Tryz.ntmps72
    go_wp2_with fail
    go_ret
    exact ⟨none, 0, rfl, .inl ⟨rfl, rfl, rfl⟩, Below.refl _ _⟩
  · exact cloneM_some hi hU
end Go.Proofs.YtfoihafhpmbaeaaGreatDoor

/- Declarations in memory of their own. -/
namespace Go.Proofs.YtfoihafhpmbaeaaGreatDoor
open Go.RowKit

/-- declarations, copied -/
def DclsPost (w : World) (l : List Dcl) (e : Ending) (w' : World) : Prop :=
  ∃ a c, e = .returned (.slice a l.length c) ∧ RSl 5 (RDcl (New w w') w') (New w w') w' l a c ∧ Below w.heap.size w w'

set_option maxHeartbeats 2000000 in
theorem decls_calls {S : Blocks} {w : World} {l : List Dcl} {a : Option Addr} {cap : Nat} (hi : RSl 5 (RDcl S w) S w l a cap) (hU : Under S w) :
    Calls Tryz.prog 31 #[.slice a l.length cap] w (DclsPost w l) := by
  obtain ⟨hc, hl⟩ := hi.le
  obtain ⟨i0, hi0, hz0, hz1, hz2⟩ := info_parts info_dcl
  obtain ⟨n, hn⟩ : ∃ n, l.length = n := ⟨_, rfl⟩
  rw [hn] at hc hl ⊢
  have Hn := Lib.hid hn
  clear hn
  go_enter Tryz.func31, Tryz.ntmps31
  go_wp2_with fail
  go_loopw [3, 8] (fun v i wr => ∃ (k : Nat) (oa : Option Addr) (oc : Nat), k ≤ n ∧ i = .int .i64 k ∧ v = .slice oa k oc ∧ Below w.heap.size w wr ∧ OwnL RDcl w.heap.size (fun _ => False) 149 5 wr (l.take k) oa oc) (fun _ i _ => n - (intOf i).toNat)
  case atStart => exact ⟨0, none, 0, by omega, rfl, rfl, Below.refl _ _, OwnL.nil _ _ _ _ _ _⟩
  case round =>
    obtain ⟨k, oa, oc, hkn, rfl, rfl, hB, hO⟩ := hrel
    obtain ⟨wo, rfl⟩ : ∃ wo : World, wo = wr := ⟨_, rfl⟩
    by_cases hlt : k < n
    · have hkt : k < l.length := by have := Hn.out; omega
      obtain ⟨b, off, cs, rfl, hSb, _, hcs0, hrd0⟩ := RSl.at hi hkt
      obtain ⟨efa, efc, ema, emc, rfl, ek, en, ef, em, ep⟩ := id hrd0
      obtain ⟨g0, g1, g2, g3, g4⟩ := cells5 (hcs0.keep (hU.same hB _ hSb))
      have hzo := hB.size
      have E0 := Blk.new wo [.int .i64 l[k].kind, .string l[k].name, .slice efa l[k].fields.length efc, .slice ema l[k].methods.length emc, .int .i64 l[k].pos] 149
      have B1 := hB.alloc hzo (.cells #[.int .i64 l[k].kind, .string l[k].name, .slice efa l[k].fields.length efc, .slice ema l[k].methods.length emc, .int .i64 l[k].pos] 149)
      have HC := Lib.hid (fields_calls (ef.keep (hU.same B1) (Sub.refl _) (fun _ _ _ hx => hx.keep (hU.same B1) (Sub.refl _))) (hU.below B1))
      have HM : Hid (∀ W, Below w.heap.size w W → Calls Tryz.prog 72 #[.slice ema l[k].methods.length emc] W (MthsPost W l[k].methods)) := fun W g =>
        cloneM_calls (em.keep (hU.same g) (Sub.refl _) (fun _ _ _ hx => hx)) (hU.below g)
      have HB := Lib.hid hB
      have HO := Lib.hid hO
      have HX : Hid (l.take (k + 1) = l.take k ++ [l[k]]) := by show _ = _; rw [List.take_add_one, List.getElem?_eq_getElem hkt]; rfl
      have hek := Lib.hid (And.intro ek (And.intro en ep))
      clear hcs0 hrd0 ek en ep ef em hi hO hB
      generalize l[k] = x at *
      obtain ⟨fn, hfn⟩ : ∃ n, x.fields.length = n := ⟨_, rfl⟩
      obtain ⟨mn, hmn⟩ : ∃ n, x.methods.length = n := ⟨_, rfl⟩
      have Hfn := Lib.hid hfn
      have Hmn := Lib.hid hmn
      rw [hfn, hmn] at HC
      rw [hmn] at HM
      rw [hfn] at g2
      rw [hmn] at g3
      rw [hfn, hmn] at E0 B1
      clear hfn hmn
      go_wp2_with fail
      refine HC.out.mono ?_
      rintro e w2 ⟨fa, fc, rfl, hfr, hB2⟩
      rw [Hfn.out]
      have E2 := E0.below hB2 E0.lt
      have e2 := E2.cell 2
      have f2 := E2.free 2
      have e3 := E2.cell 3
      have le2 := E2.lt
      simp only [List.getElem?_cons_succ, List.getElem?_cons_zero] at e2 e3
      have E3 : Blk (w2.setCell ⟨wo.heap.size, 2, none⟩ (.slice fa fn fc)) wo.heap.size [.int .i64 x.kind, .string x.name, .slice fa fn fc, .slice ema mn emc, .int .i64 x.pos] 149 := E2.set 2 _
      have B2 := B1.up hB2 (by simp; omega)
      go_upto_region 6 with fail
      obtain ⟨W3, hW3⟩ : ∃ W, (w2.setCell ⟨wo.heap.size, 2, none⟩ (.slice fa fn fc)) = W := ⟨_, rfl⟩
      have hz3 : W3.heap.size = w2.heap.size := by rw [← hW3]; simp [World.setCell]
      have hk3 : ∀ b, b ≠ wo.heap.size → W3.heap[b]? = w2.heap[b]? := fun b hb => by rw [← hW3, Below.heap_setCell _ _ _ _ hb]
      have B3 : Below w.heap.size w W3 := by rw [← hW3]; exact B2.setCell (p := ⟨wo.heap.size, 2, none⟩) hzo _
      rw [hW3] at E3 ⊢
      have s12 := hB2.size
      have e12 : (wo.alloc (.cells #[.int .i64 x.kind, .string x.name, .slice efa fn efc, .slice ema mn emc, .int .i64 x.pos] 149)).heap.size = wo.heap.size + 1 := by simp
      have F3 : RSl 5 (RFld (New (wo.alloc (.cells #[.int .i64 x.kind, .string x.name, .slice efa fn efc, .slice ema mn emc, .int .i64 x.pos] 149)) w2) W3) (New (wo.alloc (.cells #[.int .i64 x.kind, .string x.name, .slice efa fn efc, .slice ema mn emc, .int .i64 x.pos] 149)) w2) W3 x.fields fa fc :=
        hfr.keep (fun b hb => hk3 b (by have := hb.1; omega)) (Sub.refl _) (fun _ _ _ hx => hx.keep (fun b hb => hk3 b (by have := hb.1; omega)) (Sub.refl _))
      have HW3 : Hid (∀ b, b < wo.heap.size → W3.heap[b]? = wo.heap[b]?) := fun b hb => (hk3 b (by omega)).trans ((hB2.block b (by omega)).trans (Below.heap_alloc _ _ _ hb))
      have u3 := E3.cell 3
      have lu := E3.lt
      simp only [List.getElem?_cons_succ, List.getElem?_cons_zero] at u3
      have HMc := Lib.hid (HM.out W3 B3)
      have HF3 := Lib.hid F3
      have HE3 := Lib.hid E3
      have HB3 := Lib.hid B3
      clear e2 e3 f2 E0 E2 E3 hW3 hB2 hfr HC B1 B2 F3 B3 HM g0 g1 g2 g3 g4
      go_wp2_with fail
      refine HMc.out.mono ?_
      rintro e w4 ⟨ma, mc, rfl, hmr, hB4⟩
      rw [Hmn.out]
      have E4 := HE3.out.below hB4 HE3.out.lt
      have e3 := E4.cell 3
      have f3 := E4.free 3
      have le4 := E4.lt
      simp only [List.getElem?_cons_succ, List.getElem?_cons_zero] at e3
      have E5 : Blk (w4.setCell ⟨wo.heap.size, 3, none⟩ (.slice ma mn mc)) wo.heap.size [.int .i64 x.kind, .string x.name, .slice fa fn fc, .slice ma mn mc, .int .i64 x.pos] 149 := E4.set 3 _
      have B4 := HB3.out.up hB4 HB3.out.size
      have F4 := HF3.out.keep (S' := New (wo.alloc (.cells #[.int .i64 x.kind, .string x.name, .slice efa fn efc, .slice ema mn emc, .int .i64 x.pos] 149)) w2) (w' := w4) (fun b hb => hB4.block b (by have := hb.2; omega)) (Sub.refl _) (fun _ _ _ hx => hx.keep (S' := New (wo.alloc (.cells #[.int .i64 x.kind, .string x.name, .slice efa fn efc, .slice ema mn emc, .int .i64 x.pos] 149)) w2) (w' := w4) (fun b hb => hB4.block b (by have := hb.2; omega)) (Sub.refl _))
      have s34 := hB4.size
      go_upto_region 7 with fail
      obtain ⟨W5, hW5⟩ : ∃ W, (w4.setCell ⟨wo.heap.size, 3, none⟩ (.slice ma mn mc)) = W := ⟨_, rfl⟩
      have hz5 : W5.heap.size = w4.heap.size := by rw [← hW5]; simp [World.setCell]
      have hk5 : ∀ b, b ≠ wo.heap.size → W5.heap[b]? = w4.heap[b]? := fun b hb => by rw [← hW5, Below.heap_setCell _ _ _ _ hb]
      have B5 : Below w.heap.size w W5 := by rw [← hW5]; exact B4.setCell (p := ⟨wo.heap.size, 3, none⟩) hzo _
      rw [hW5] at E5 ⊢
      have X5 : RDcl (fun b => wo.heap.size < b ∧ b < w4.heap.size) W5 x [.int .i64 x.kind, .string x.name, .slice fa fn fc, .slice ma mn mc, .int .i64 x.pos] := by
        have hfn := Hfn.out
        have hmn := Hmn.out
        refine ⟨fa, fc, ma, mc, by rw [hfn, hmn], hek.out.1, hek.out.2.1, ?_, ?_, hek.out.2.2⟩
        · exact F4.keep (fun b hb => hk5 b (by have := hb.1; omega)) (fun b hb => ⟨by have := hb.1; omega, by have := hb.2; omega⟩) (fun _ _ _ hx => hx.keep (fun b hb => hk5 b (by have := hb.1; omega)) (fun b hb => ⟨by have := hb.1; omega, by have := hb.2; omega⟩))
        · exact hmr.keep (fun b hb => hk5 b (by have := hb.1; omega)) (fun b hb => ⟨by have := hb.1; omega, hb.2⟩) (fun _ _ _ hx => hx)
      have O5 : OwnL RDcl w.heap.size (fun _ => False) 149 5 W5 (l.take k) oa oc := OwnL.keep (R := RDcl) keepsDcl HO.out (by omega) (fun b _ hb _ => (hk5 b (by omega)).trans ((hB4.block b (by omega)).trans (HW3.out b hb)))
      have u0 := E5.cell 0
      have u1 := E5.cell 1
      have u2 := E5.cell 2
      have u3 := E5.cell 3
      have u4 := E5.cell 4
      have lu := E5.lt
      simp only [List.getElem?_cons_succ, List.getElem?_cons_zero] at u0 u1 u2 u3 u4
      have hkl : (l.take k).length = k := by have := Hn.out; simp; omega
      obtain ⟨xs, SS, k1, k2, k3, k4, k5, k6⟩ := O5
      rw [hkl] at k1
      have hrl : ∀ b, (Value.slice oa k oc).ownBlock = some b → w.heap.size ≤ b ∧ b < wo.heap.size := fun b e => by
        obtain ⟨xs', SS', j1, _⟩ := HO.out
        rw [hkl] at j1
        exact j1.lt b e
      have Hkl := Lib.hid hkl
      have HX5 := Lib.hid X5
      have HB5 := Lib.hid B5
      have Hz5 := Lib.hid hz5
      clear hkl e3 f3 E4 E5 hW5 hB4 hmr B4 B5 X5 F4 hz5
      go_wp2_with (at_builtin; refine wpList_append_own_at _ rfl _ _ 31 rfl w.heap.size 149 i0 _ 5 80 Tryz.underlying31 hi0 hz0 hz1 hz2 rfl (by decide) _ _ _ rfl (k1.alloc _) ⟨W5.heap.size, 0, none⟩ 1 1 [.int .i64 x.kind, .string x.name, .slice fa fn fc, .slice ma mn mc, .int .i64 x.pos] ?c0 rfl ?c1 ?c2 ?c3 ?c4 ?c5 ?_)
      case c2 => simp [Value.oneCell']
      case c3 => unfold maxLen; omega
      case c4 => omega
      case c5 => first | omega | (simp; omega)
      intro v' w6 hown hg _ hloc
      obtain ⟨a', c', rfl⟩ := own_form hown
      have hkl := Hkl.out
      have hz5 := Hz5.out
      have O6 := OwnL.snoc (R := RDcl) (sz := 5) (X := fun _ => False) (S1 := fun b => wo.heap.size < b ∧ b < w4.heap.size) (x := x) (W := W5) keepsDcl RDcl.len (by rw [hkl]; exact k1) k2 k3 k4 k5 k6 HX5.out (fun b hb => by have := hb.2; omega)
        (fun b hb => ⟨by have := hb.1; omega, fun h => h⟩) (fun b hb e => by rw [hkl] at e; have := (hrl b e).2; have := hb.1; omega) (fun _ h => h.elim) rfl
        (by rw [hkl]; exact hown) (by rw [hkl]; exact hg) (by rw [hkl]; simpa using hloc)
      have B6 : Below w.heap.size w w6 := (HB5.out.alloc HB5.out.size _).grown hg (by simp; omega) (fun j e => (hrl j e).1)
      clear hkl hown hg hloc k1 k6 hrl hz5
      go_wp2_with fail
      go_roundw
      case rel => exact ⟨k + 1, a', c', by omega, by go_num, rfl, B6, by rw [HX.out]; exact O6⟩
      case measure => simp [intOf]; omega
    · have hkn2 : k = n := by omega
      subst hkn2
      have HO := Lib.hid hO
      clear hO hi
      go_wp2_with fail
      go_ret
      have own := HO.out
      rw [List.take_of_length_le (by have := Hn.out; omega)] at own
      have hkl := Hn.out
      exact ⟨oa, oc, by rw [hkl]; rfl, read_own (R := RDcl) keepsDcl own (by omega) (Nat.le_refl _), hB⟩
end Go.Proofs.YtfoihafhpmbaeaaGreatDoor
