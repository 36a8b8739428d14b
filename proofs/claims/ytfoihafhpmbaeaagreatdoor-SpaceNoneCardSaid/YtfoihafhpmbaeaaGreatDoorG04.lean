/- The scanner puts a token. -/
import Derived.KernelRfl
import Derived.Test.YtfoihafhpmbaeaaGreatDoorG03
namespace Go.Proofs.YtfoihafhpmbaeaaGreatDoor
open Go.RowKit

theorem info_tok : (Tryz.prog.info? 320).map (fun i => (i.zero, i.size, i.bytes)) = some (some (.agg #[.int .i64 0, .string ⟨#[]⟩, .int .i64 0, .int .i64 0]), 4, 40) := by kernel_rfl

theorem own_ne {w : World} {base size n : Nat} {e T : TypeId} {v : Value} {xs cs : List Value} {b : Nat} (h : w.ownsRow base e size v n xs) (hb : Blk w b cs T) (ht : e ≠ T) : v.ownBlock ≠ some b := by
  intro hv
  rcases h.2 with ⟨rfl, _⟩ | ⟨g, cap, cur, rfl, _, hg, _⟩
  · simp [Value.ownBlock] at hv
  · simp [Value.ownBlock] at hv
    subst hv
    unfold Blk at hb
    rw [hb] at hg
    simp at hg
    exact ht hg.2.symm

theorem own_form {w : World} {base size n : Nat} {e : TypeId} {v : Value} {xs : List Value} (h : w.ownsRow base e size v n xs) : ∃ a cap, v = .slice a n cap := by
  rcases h.2 with ⟨rfl, rfl⟩ | ⟨g, cap, cur, rfl, _⟩
  · exact ⟨_, _, rfl⟩
  · exact ⟨_, _, rfl⟩

theorem put_calls (base bl : Nat) (s t : ByteArray) (p kind num at_ : Int) (ov : Value) (n : Nat) (xs : List Value) (w : World)
    (hb : Blk w bl [.string s, .int .i64 p, ov] 358) (hbl : base ≤ bl) (hown : w.ownsRow base 320 4 ov n xs) (hn : n ≤ 100000) (hne : ov.ownBlock ≠ some bl) :
    Calls Tryz.prog 225 #[.pointer (some ⟨bl, 0, none⟩), .int .i64 kind, .string t, .int .i64 num, .int .i64 at_] w fun e w' =>
      ∃ ov', e = .returned (.tuple #[]) ∧ Blk w' bl [.string s, .int .i64 p, ov'] 358 ∧ w'.ownsRow base 320 4 ov' (n + 1) (xs ++ [.int .i64 kind, .string t, .int .i64 num, .int .i64 at_]) ∧ ov'.ownBlock ≠ some bl ∧ Below base w w' := by
  obtain ⟨i0, hi, hz0, hz1, hz2⟩ := info_parts info_tok
  have hlt := hb.lt
  have c2 := hb.cell 2
  have f2 := hb.free 2
  simp at c2
  go_enter Tryz.func225, Tryz.ntmps225
  go_wp2_with (at_builtin; refine wpList_append_own _ rfl _ _ 312 rfl base 320 i0 _ 4 40 Tryz.underlying312 hi hz0 hz1 hz2 rfl (by decide) _ _ _ rfl (hown.alloc _) ⟨w.heap.size, 0, none⟩ 1 1 [.int .i64 kind, .string t, .int .i64 num, .int .i64 at_] rfl rfl ?c1 ?c2 ?c3 ?c4 ?c5 ?_)
  case c1 => exact news_new w [.int .i64 kind, .string t, .int .i64 num, .int .i64 at_] _
  case c2 => simp [Value.oneCell']
  case c3 => unfold maxLen; omega
  case c4 => omega
  case c5 => simp; omega
  intro v' w1 hown' hgrow _
  obtain ⟨a', c', rfl⟩ := own_form hown'
  have hb1 : Blk w1 bl [.string s, .int .i64 p, ov] 358 := (hb.alloc _).grown hgrow (Ne.symm hne)
  have c2' := hb1.cell 2
  have f2' := hb1.free 2
  simp at c2'
  have hne' := Lib.hid (own_ne hown' hb1 (by decide))
  have hg2 : Below base w w1 := ((Below.refl _ _).alloc (by have := hb.lt; omega) _).grown hgrow (by have := hb.lt; simp; omega) (fun k hk => (hown.lt k hk).1)
  clear hgrow c2 f2
  go_wp2_with fail
  go_end0
  exact ⟨_, rfl, hb1.set 2 _, ownsRow_setCell_other hown' hne'.out _, hne'.out, hg2.setCell hbl _⟩
end Go.Proofs.YtfoihafhpmbaeaaGreatDoor

/- The scanner takes a word. -/
namespace Go.Proofs.YtfoihafhpmbaeaaGreatDoor
open Go.RowKit

/-- a token -/
structure Tok where
  kind : Int
  text : ByteArray
  num : Int
  pos : Int
def Tok.cells (t : Tok) : List Value := [.int .i64 t.kind, .string t.text, .int .i64 t.num, .int .i64 t.pos]
def tokCells (l : List Tok) : List Value := l.flatMap Tok.cells
theorem tokCells_snoc (l : List Tok) (t : Tok) : tokCells (l ++ [t]) = tokCells l ++ t.cells := by simp [tokCells]

/-- the scanner at a place, with what it has put so far -/
structure Lexer (base bl : Nat) (s : ByteArray) (k : Nat) (l : List Tok) (w : World) : Prop where
  blk : ∃ ov, Blk w bl [.string s, .int .i64 k, ov] 358 ∧ w.ownsRow base 320 4 ov l.length (tokCells l) ∧ ov.ownBlock ≠ some bl
  base_le : base ≤ bl

/-- what a step of the scanner comes to -/
def LexPost (base bl : Nat) (s : ByteArray) (w : World) (err : Int) (k : Nat) (l : List Tok) (e : Ending) (w' : World) : Prop :=
  e = .returned (.int .i64 err) ∧ Below base w w' ∧ ∃ k', (err = 0 → k' = k) ∧ k' ≤ s.size ∧ Lexer base bl s k' l w'

def wordLen (s : ByteArray) (k : Nat) : Nat := runLen innerB (s.data.toList.drop k)

theorem word_calls (base bl : Nat) (s : ByteArray) (k : Nat) (l : List Tok) (w : World) (h : Lexer base bl s k l w) (hs : s.size ≤ 1048576) (hk : k ≤ s.size) (hl : l.length ≤ 99999) :
    Calls Tryz.prog 274 #[.pointer (some ⟨bl, 0, none⟩)] w
      (if 16 < wordLen s k then LexPost base bl s w 6 0 l else LexPost base bl s w 0 (k + wordLen s k) (l ++ [⟨1, s.extract k (k + wordLen s k), 0, k⟩])) := by
  obtain ⟨⟨ov, hb, hown, hne⟩, hbl⟩ := h
  have c1 := hb.cell 1
  simp at c1
  have hn : k + wordLen s k ≤ s.size := by have := runLen_le innerB (s.data.toList.drop k); simp at this; unfold wordLen; omega
  have hsz : (s.extract k (k + wordLen s k)).size = wordLen s k := by simp; omega
  have hw := while_inner s k bl ov w hs hk hb
  change Calls Tryz.prog _ _ w fun e w' => e = .returned (.string (s.extract k (k + wordLen s k))) ∧ Blk w' bl [.string s, .int .i64 ((k + wordLen s k : Nat) : Int), ov] 358 ∧ But bl w w' at hw
  generalize wordLen s k = n at *
  generalize s.extract k (k + n) = t at *
  have Hsz := Lib.hid hsz
  have Hw := Lib.hid hw
  clear hw
  have hts : t.size ≤ 1048576 := by omega
  by_cases h16 : 16 < n
  · have h16' : 16 < t.size := by omega
    clear hsz
    rw [if_pos h16]
    go_enter Tryz.func274, Tryz.ntmps274
    go_wp2_with (go_at_call 306; refine Hw.out.mono ?_; rintro e w1 ⟨rfl, hb1, hg1⟩)
    go_ret
    exact ⟨rfl, hg1.toBelow hbl (by have := hb.lt; omega), k + n, (fun e => by cases e), hn, ⟨ov, hb1, hown.kept hg1 (.inr hne), hne⟩, hbl⟩
  · have h16' : ¬ 16 < t.size := by omega
    clear hsz
    rw [if_neg h16]
    go_enter Tryz.func274, Tryz.ntmps274
    go_wp2_with (go_at_call 306; refine Hw.out.mono ?_; rintro e w1 ⟨rfl, hb1, hg1⟩)
    have hown1 := hown.kept hg1 (.inr hne)
    refine (put_calls base bl s t _ 1 0 k ov _ _ _ hb1 hbl hown1 (by omega) hne).mono ?_
    rintro e w2 ⟨ov', rfl, hb2, hown2, hne2, hbel⟩
    go_wp2_with fail
    go_ret
    refine ⟨rfl, (hg1.toBelow hbl (by have := hb.lt; omega)).trans hbel, k + n, fun _ => rfl, hn, ⟨ov', hb2, ?_, hne2⟩, hbl⟩
    rw [tokCells_snoc, List.length_append]
    exact hown2
end Go.Proofs.YtfoihafhpmbaeaaGreatDoor

/- The scanner takes a number. -/
namespace Go.Proofs.YtfoihafhpmbaeaaGreatDoor
open Go.RowKit

def digLen (s : ByteArray) (k : Nat) : Nat := runLen digitB (s.data.toList.drop k)
def numVal (l : List UInt8) : Int := l.foldl (fun n c => 10 * n + ((c.toNat : Int) - 48) % 256) 0
theorem numVal_bd (l : List UInt8) (h : l.length ≤ 4) : 0 ≤ numVal l ∧ numVal l ≤ 300000 := by
  unfold numVal
  match l, h with
  | [], _ => simp
  | [a], _ => simp only [List.foldl]; omega
  | [a, b], _ => simp only [List.foldl]; omega
  | [a, b, c], _ => simp only [List.foldl]; omega
  | [a, b, c, d], _ => simp only [List.foldl]; omega
theorem numVal_step (t : ByteArray) (i : Nat) (h : i < t.size) : numVal (t.data.toList.take (i + 1)) = 10 * numVal (t.data.toList.take i) + ((t[i].toNat : Int) - 48) % 256 := by
  unfold numVal
  rw [List.take_succ_eq_append_getElem (by simpa using h), List.foldl_append]
  rfl

/-- what a number's text is: 0 fine, 1 a 0 ahead, 3 too long -/
def numErr (t : ByteArray) : Int := if 1 < t.size ∧ t.data.toList.head? = some 48 then 1 else if 4 < t.size then 3 else 0

theorem number_calls (base bl : Nat) (s : ByteArray) (k : Nat) (l : List Tok) (w : World) (h : Lexer base bl s k l w) (hs : s.size ≤ 1048576) (hk : k ≤ s.size) (hl : l.length ≤ 99999) :
    Calls Tryz.prog 276 #[.pointer (some ⟨bl, 0, none⟩)] w
      (if numErr (s.extract k (k + digLen s k)) = 0 then LexPost base bl s w 0 (k + digLen s k) (l ++ [⟨2, s.extract k (k + digLen s k), numVal (s.extract k (k + digLen s k)).data.toList, k⟩])
       else LexPost base bl s w (numErr (s.extract k (k + digLen s k))) 0 l) := by
  obtain ⟨⟨ov, hb, hown, hne⟩, hbl⟩ := h
  have c1 := hb.cell 1
  simp at c1
  have hn : k + digLen s k ≤ s.size := by have := runLen_le digitB (s.data.toList.drop k); simp at this; unfold digLen; omega
  have hsz : (s.extract k (k + digLen s k)).size = digLen s k := by simp; omega
  have hw := while_digit s k bl ov w hs hk hb
  change Calls Tryz.prog _ _ w fun e w' => e = .returned (.string (s.extract k (k + digLen s k))) ∧ Blk w' bl [.string s, .int .i64 ((k + digLen s k : Nat) : Int), ov] 358 ∧ But bl w w' at hw
  generalize digLen s k = n at *
  generalize s.extract k (k + n) = t at *
  have Hw := Lib.hid hw
  clear hw
  have hts : t.size ≤ 1048576 := by omega
  clear hsz
  by_cases h1 : 1 < t.size
  · have h0 : 0 < t.size := by omega
    by_cases hz : t[0] = 48
    · have e1 : numErr t = 1 := by
        unfold numErr
        rw [if_pos ⟨h1, by rw [List.head?_eq_getElem?, List.getElem?_eq_getElem (by simpa using h0)]; exact congrArg some hz⟩]
      rw [e1, if_neg (by decide)]
      have hz' : ((t[0].toNat : Int) == 48) = true := by rw [hz]; rfl
      clear hz e1
      go_enter Tryz.func276, Tryz.ntmps276
      go_wp2_with (go_at_call 306; refine Hw.out.mono ?_; rintro e w1 ⟨rfl, hb1, hg1⟩)
      go_ret
      exact ⟨rfl, hg1.toBelow hbl (by have := hb.lt; omega), k + n, (fun e => by cases e), hn, ⟨ov, hb1, hown.kept hg1 (.inr hne), hne⟩, hbl⟩
    · have hz' : ((t[0].toNat : Int) == 48) = false := by
        rw [beq_eq_false_iff_ne]
        intro e
        exact hz (UInt8.toNat_inj.1 (by have : (48 : UInt8).toNat = 48 := rfl; omega))
      have hne48 : ¬ (t.data.toList.head? = some 48) := by
        rw [List.head?_eq_getElem?, List.getElem?_eq_getElem (by simpa using h0)]
        intro e
        injection e with e
        exact hz e
      clear hz
      by_cases h4 : 4 < t.size
      · have e1 : numErr t = 3 := by
          unfold numErr
          rw [if_neg (fun e => hne48 e.2), if_pos h4]
        rw [e1, if_neg (by decide)]
        clear e1 hne48
        go_enter Tryz.func276, Tryz.ntmps276
        go_wp2_with (go_at_call 306; refine Hw.out.mono ?_; rintro e w1 ⟨rfl, hb1, hg1⟩)
        go_ret
        exact ⟨rfl, hg1.toBelow hbl (by have := hb.lt; omega), k + n, (fun e => by cases e), hn, ⟨ov, hb1, hown.kept hg1 (.inr hne), hne⟩, hbl⟩
      · have e1 : numErr t = 0 := by
          unfold numErr
          rw [if_neg (fun e => hne48 e.2), if_neg h4]
        rw [e1, if_pos rfl]
        clear e1 hne48
        go_enter Tryz.func276, Tryz.ntmps276
        go_wp2_with (go_at_call 306; refine Hw.out.mono ?_; rintro e w1 ⟨rfl, hb1, hg1⟩)
        go_loop [5, 28] (fun x i => ∃ j : Nat, j ≤ t.size ∧ i = .int .i64 j ∧ x = .int .i64 (numVal (t.data.toList.take j))) (fun _ i => t.size - (intOf i).toNat)
        case atStart => exact ⟨0, by omega, rfl, rfl⟩
        case round =>
          obtain ⟨j, hj, rfl, rfl⟩ := hrel
          have hbd := numVal_bd (t.data.toList.take j) (by simp; omega)
          by_cases hlt : j < t.size
          · have hst := Lib.hid (numVal_step t j hlt)
            go_wp2_with fail
            go_round
            case rel => exact ⟨j + 1, by omega, by go_num, by rw [hst.out]⟩
            case measure => simp [intOf]; omega
          · obtain rfl : j = t.size := by omega
            have hall : Hid (numVal (t.data.toList.take t.size) = numVal t.data.toList) := by rw [List.take_of_length_le (by simp)]; exact rfl
            rw [hall.out] at *
            go_wp2_with fail
            have hown1 := hown.kept hg1 (.inr hne)
            refine (put_calls base bl s t _ 2 _ k ov _ _ _ hb1 hbl hown1 (by omega) hne).mono ?_
            rintro e w2 ⟨ov', rfl, hb2, hown2, hne2, hbel⟩
            go_wp2_with fail
            go_ret
            refine ⟨rfl, (hg1.toBelow hbl (by have := hb.lt; omega)).trans hbel, k + n, fun _ => rfl, hn, ⟨ov', hb2, ?_, hne2⟩, hbl⟩
            rw [tokCells_snoc, List.length_append]
            exact hown2
  · have e1 : numErr t = 0 := by
      unfold numErr
      rw [if_neg (fun e => h1 e.1), if_neg (by omega)]
    have h4 : ¬ 4 < t.size := by omega
    rw [e1, if_pos rfl]
    clear e1
    go_enter Tryz.func276, Tryz.ntmps276
    go_wp2_with (go_at_call 306; refine Hw.out.mono ?_; rintro e w1 ⟨rfl, hb1, hg1⟩)
    go_loop [5, 28] (fun x i => ∃ j : Nat, j ≤ t.size ∧ i = .int .i64 j ∧ x = .int .i64 (numVal (t.data.toList.take j))) (fun _ i => t.size - (intOf i).toNat)
    case atStart => exact ⟨0, by omega, rfl, rfl⟩
    case round =>
      obtain ⟨j, hj, rfl, rfl⟩ := hrel
      have hbd := numVal_bd (t.data.toList.take j) (by simp; omega)
      by_cases hlt : j < t.size
      · have hst := Lib.hid (numVal_step t j hlt)
        go_wp2_with fail
        go_round
        case rel => exact ⟨j + 1, by omega, by go_num, by rw [hst.out]⟩
        case measure => simp [intOf]; omega
      · obtain rfl : j = t.size := by omega
        have hall : Hid (numVal (t.data.toList.take t.size) = numVal t.data.toList) := by rw [List.take_of_length_le (by simp)]; exact rfl
        rw [hall.out] at *
        go_wp2_with fail
        have hown1 := hown.kept hg1 (.inr hne)
        refine (put_calls base bl s t _ 2 _ k ov _ _ _ hb1 hbl hown1 (by omega) hne).mono ?_
        rintro e w2 ⟨ov', rfl, hb2, hown2, hne2, hbel⟩
        go_wp2_with fail
        go_ret
        refine ⟨rfl, (hg1.toBelow hbl (by have := hb.lt; omega)).trans hbel, k + n, fun _ => rfl, hn, ⟨ov', hb2, ?_, hne2⟩, hbl⟩
        rw [tokCells_snoc, List.length_append]
        exact hown2
end Go.Proofs.YtfoihafhpmbaeaaGreatDoor
