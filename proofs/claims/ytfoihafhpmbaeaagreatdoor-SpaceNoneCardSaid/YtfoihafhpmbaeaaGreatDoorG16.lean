/- Lists of the call's own, whose elements lead to memory. -/
import Derived.Maps.AppendAt
import Derived.Test.YtfoihafhpmbaeaaGreatDoorG15
namespace Go.Proofs.YtfoihafhpmbaeaaGreatDoor
open Go.RowKit

/-- blocks below B, but for bp, hold what they held -/
def Frm (B bp : Nat) (w w' : World) : Prop := w'.os = w.os ∧ w'.tape = w.tape ∧ w'.output = w.output ∧ w.heap.size ≤ w'.heap.size ∧ ∀ k, k < B → k ≠ bp → w'.heap[k]? = w.heap[k]?
theorem Frm.refl (B bp : Nat) (w : World) : Frm B bp w w := ⟨rfl, rfl, rfl, Nat.le_refl _, fun _ _ _ => rfl⟩
theorem Frm.trans {B bp : Nat} {w w1 w2 : World} (h : Frm B bp w w1) (k : Frm B bp w1 w2) : Frm B bp w w2 :=
  ⟨k.1.trans h.1, k.2.1.trans h.2.1, k.2.2.1.trans h.2.2.1, Nat.le_trans h.2.2.2.1 k.2.2.2.1, fun i hi hn => (k.2.2.2.2 i hi hn).trans (h.2.2.2.2 i hi hn)⟩
theorem Frm.but {B bp : Nat} {w w1 : World} (h : But bp w w1) (hB : B ≤ w.heap.size) : Frm B bp w w1 := ⟨h.os, h.tape, h.output, h.size, fun k hk hn => h.block k (Nat.lt_of_lt_of_le hk hB) (by intro e; injection e with e; exact hn e)⟩
theorem Frm.below {B bp : Nat} {w w1 : World} (h : Below B w w1) : Frm B bp w w1 := ⟨h.os, h.tape, h.output, h.size, fun k hk _ => h.block k hk⟩
theorem Frm.setCell {B bp : Nat} {w w1 : World} (h : Frm B bp w w1) {r : Nat} (hr : B ≤ r) (i : Nat) (v : Value) : Frm B bp w (w1.setCell ⟨r, i, none⟩ v) :=
  h.trans ⟨rfl, rfl, rfl, by simp [World.setCell], fun k hk _ => Below.heap_setCell _ _ _ _ (by show k ≠ r; omega)⟩
theorem Frm.alloc {B bp : Nat} {w w1 : World} (h : Frm B bp w w1) (hB : B ≤ w1.heap.size) (o : Obj) : Frm B bp w (w1.alloc o) := h.trans (Frm.below ((Below.refl _ _).alloc hB o))
theorem Frm.toBut {bp : Nat} {w w1 : World} (h : Frm w.heap.size bp w w1) : But bp w w1 := ⟨h.1, h.2.1, h.2.2.1, h.2.2.2.1, fun k hk hn => h.2.2.2.2 k hk (fun e => hn (by rw [e]))⟩
theorem Frm.grown {B bp : Nat} {w w1 w2 : World} {row : Option Nat} (h : Frm B bp w w1) (g : w1.grownBy w2 row) (hB : B ≤ w1.heap.size) (hr : ∀ k, row = some k → B ≤ k) : Frm B bp w w2 :=
  h.trans ⟨g.os, g.tape, g.output, g.size, fun k hk _ => g.block k (by omega) (fun e => by have := hr k e.symm; omega)⟩
theorem PAt.frm {S : Blocks} {bp B : Nat} {a : Option Addr} {cap : Nat} {toks : List Tok} {p : PS} {w w' : World} (h : PAt S bp a cap toks p w) (g : Frm B bp w w') (hB : ∀ b, S b → b < B) (hb : w'.heap[bp]? = w.heap[bp]?) : PAt S bp a cap toks p w' := by
  have hh : Same S w w' := fun b hs => g.2.2.2.2 b (hB b hs) (fun e => h.out (e ▸ hs))
  exact ⟨h.blk.keep hb, h.rd.keep hh (Sub.refl _) (fun _ _ _ h => h), fun b hs => Nat.lt_of_lt_of_le (h.und b hs) g.2.2.2.1, h.out, h.inb, h.short, h.ends, h.maxl.keep (hh _ h.low), h.low⟩

/-- a list of the call's own: its row lies from block B on; what its elements lead to lies in blocks of SS, which are from B on, none of X, and not the row itself -/
def OwnL {α : Type} (R : Blocks → World → α → List Value → Prop) (B : Nat) (X : Blocks) (T : TypeId) (sz : Nat) (W : World) (l : List α) (a : Option Addr) (c : Nat) : Prop :=
  ∃ (xs : List Value) (SS : Blocks), W.ownsRow B T sz (.slice a l.length c) l.length xs ∧ Under SS W ∧ (∀ b, SS b → B ≤ b ∧ ¬ X b) ∧ (∀ b, SS b → (Value.slice a l.length c).ownBlock ≠ some b) ∧
    (∀ b, X b → (Value.slice a l.length c).ownBlock ≠ some b) ∧ ∀ i, (h : i < l.length) → R SS W l[i] ((xs.drop (i * sz)).take sz)

theorem OwnL.nil {α : Type} (R : Blocks → World → α → List Value → Prop) (B : Nat) (X : Blocks) (T : TypeId) (sz : Nat) (W : World) : OwnL R B X T sz W [] none 0 :=
  ⟨[], fun _ => False, World.ownsRow_nil _ _ _ _, fun _ h => h.elim, fun _ h => h.elim, fun _ h => h.elim, fun _ _ => by simp [Value.ownBlock], fun i h => by simp at h⟩

/-- kept by whatever leaves the blocks from B on alone, but for those of X and new ones -/
theorem OwnL.keep {α : Type} {R : Blocks → World → α → List Value → Prop} (hR : ∀ {S S' w w' x cs}, Same S w w' → Sub S S' → R S w x cs → R S' w' x cs) {B : Nat} {X : Blocks} {T : TypeId} {sz : Nat} {W W' : World} {l : List α} {a : Option Addr} {c : Nat}
    (h : OwnL R B X T sz W l a c) (hs : W.heap.size ≤ W'.heap.size) (hk : ∀ b, B ≤ b → b < W.heap.size → ¬ X b → W'.heap[b]? = W.heap[b]?) : OwnL R B X T sz W' l a c := by
  obtain ⟨xs, SS, h1, h2, h3, h4, h5, h6⟩ := h
  refine ⟨xs, SS, ?_, fun b hb => Nat.lt_of_lt_of_le (h2 b hb) hs, h3, h4, h5, fun i hi => hR (fun b hb => hk b (h3 b hb).1 (h2 b hb) (h3 b hb).2) (Sub.refl _) (h6 i hi)⟩
  refine ⟨h1.1, ?_⟩
  rcases h1.2 with h | ⟨g, cap, cur, hv, hg, hh, r⟩
  · exact .inl h
  · have hv2 := hv
    injection hv2 with e1 e2 e3
    refine .inr ⟨g, cap, cur, hv, hg, ?_, r⟩
    rw [hk g hg (Array.getElem?_eq_some_iff.1 hh).1 (fun hx => h5 g hx (by rw [e1]; rfl))]
    exact hh

/-- behind an append of one element -/
theorem OwnL.snoc {α : Type} {sz : Nat} {R : Blocks → World → α → List Value → Prop} (hR : ∀ {S S' w w' x cs}, Same S w w' → Sub S S' → R S w x cs → R S' w' x cs) (hlen : ∀ {S w x cs}, R S w x cs → cs.length = sz) {B : Nat} {X : Blocks} {T : TypeId} {W W1 W2 : World} {l : List α} {a a' : Option Addr} {c c' : Nat} {x : α} {cs : List Value} {S1 : Blocks} {xs : List Value} {SS : Blocks}
    (h1 : W.ownsRow B T sz (.slice a l.length c) l.length xs) (h2 : Under SS W) (h3 : ∀ b, SS b → B ≤ b ∧ ¬ X b) (h4 : ∀ b, SS b → (Value.slice a l.length c).ownBlock ≠ some b)
    (h5 : ∀ b, X b → (Value.slice a l.length c).ownBlock ≠ some b) (h6 : ∀ i, (h : i < l.length) → R SS W l[i] ((xs.drop (i * sz)).take sz))
    (hx : R S1 W x cs) (hS1 : Under S1 W) (hS2 : ∀ b, S1 b → B ≤ b ∧ ¬ X b) (hS3 : ∀ b, S1 b → (Value.slice a l.length c).ownBlock ≠ some b) (hX : ∀ b, X b → b < W.heap.size)
    (hW1 : W1 = W.alloc (.cells cs.toArray T))
    (hown : W2.ownsRow B T sz (.slice a' (l.length + 1) c') (l.length + 1) (xs ++ cs)) (hg : W1.grownBy W2 (Value.slice a l.length c).ownBlock)
    (hl : (Value.slice a' (l.length + 1) c').ownBlock = (Value.slice a l.length c).ownBlock ∨ (Value.slice a' (l.length + 1) c').ownBlock = some W1.heap.size) :
    OwnL R B X T sz W2 (l ++ [x]) a' c' := by
  have hsz : W.heap.size < W1.heap.size := by rw [hW1]; simp
  have hkeep : ∀ b, b < W.heap.size → (Value.slice a l.length c).ownBlock ≠ some b → W2.heap[b]? = W.heap[b]? := fun b hb hn => by
    rw [hg.block b (by omega) (Ne.symm hn), hW1, Below.heap_alloc _ _ _ hb]
  have hlx := h1.1
  have hlc := hlen hx
  refine ⟨xs ++ cs, Or SS S1, by rw [List.length_append]; exact hown, fun b hb => Nat.lt_of_lt_of_le (hb.elim (h2 b) (hS1 b)) (Nat.le_trans (Nat.le_of_lt hsz) hg.size), fun b hb => hb.elim (h3 b) (hS2 b), ?_, ?_, ?_⟩
  · intro b hb
    rw [List.length_append]
    have hlt := hb.elim (h2 b) (hS1 b)
    have hne := hb.elim (h4 b) (hS3 b)
    show (Value.slice a' (l.length + 1) c').ownBlock ≠ some b
    rcases hl with e | e
    · rw [e]; exact hne
    · rw [e]; intro e2; injection e2 with e2; omega
  · intro b hb
    rw [List.length_append]
    show (Value.slice a' (l.length + 1) c').ownBlock ≠ some b
    rcases hl with e | e
    · rw [e]; exact h5 b hb
    · rw [e]; intro e2; injection e2 with e2; have := hX b hb; omega
  · intro i hi
    rw [List.length_append] at hi
    by_cases hlt : i < l.length
    · rw [List.getElem_append_left hlt]
      have hle : i * sz + sz ≤ xs.length := by
        rw [hlx, ← Nat.succ_mul]
        exact Nat.mul_le_mul_right _ hlt
      rw [List.drop_append_of_le_length (by omega), List.take_append_of_le_length (by rw [List.length_drop]; omega)]
      exact hR (fun b hb => hkeep b (h2 b hb) (h4 b hb)) (Sub.left _ _) (h6 i hlt)
    · have hie : i = l.length := by simp at hi; omega
      subst hie
      rw [List.getElem_append_right (Nat.le_refl _)]
      simp only [Nat.sub_self, List.getElem_cons_zero]
      rw [← hlx, List.drop_left, ← hlc, List.take_length]
      exact hR (fun b hb => hkeep b (hS1 b hb) (hS3 b hb)) (Sub.right _ _) hx

/-- read as a slice -/
theorem OwnL.read {α : Type} {R : Blocks → World → α → List Value → Prop} (hR : ∀ {S S' w w' x cs}, Same S w w' → Sub S S' → R S w x cs → R S' w' x cs) {B : Nat} {X : Blocks} {T : TypeId} {sz : Nat} {W : World} {l : List α} {a : Option Addr} {c : Nat}
    (h : OwnL R B X T sz W l a c) (hl : l.length ≤ 2147483647) : ∃ S, Under S W ∧ (∀ b, S b → B ≤ b ∧ ¬ X b) ∧ RSl sz (R S W) S W l a c := by
  obtain ⟨xs, SS, h1, h2, h3, h4, h5, h6⟩ := h
  rcases h1.2 with ⟨hv, hn⟩ | ⟨g, cap, cur, hv, hg, hh, hle, hm, hcs, htake⟩
  · injection hv with e1 e2 e3
    have : l = [] := List.eq_nil_of_length_eq_zero e2
    exact ⟨SS, h2, h3, .inl ⟨e1, e3, this⟩⟩
  · injection hv with e1 e2 e3
    subst e1 e3
    refine ⟨fun b => SS b ∨ b = g, ?_, ?_, .inr ⟨g, 0, rfl, hle, hm, hl, .inr rfl, ?_⟩⟩
    · rintro b (hb | rfl)
      · exact h2 b hb
      · exact (Array.getElem?_eq_some_iff.1 hh).1
    · rintro b (hb | rfl)
      · exact h3 b hb
      · exact ⟨hg, fun hx => h5 b hx rfl⟩
    · intro i hi
      have hle2 : i * sz + sz ≤ l.length * sz := by rw [← Nat.succ_mul]; exact Nat.mul_le_mul_right _ hi
      refine ⟨(xs.drop (i * sz)).take sz, ?_, ?_, hR (Same.refl _ _) (fun b hb => .inl hb) (h6 i hi)⟩
      · rw [List.length_take, List.length_drop, h1.1]; omega
      · intro j hj
        rw [List.length_take, List.length_drop, h1.1] at hj
        have hcell : W.cell? ⟨g, 0 + i * sz + j, none⟩ = cur[i * sz + j]? := by simp [World.cell?, hh]
        rw [hcell]
        have hx : xs[i * sz + j]? = cur[i * sz + j]? := by
          rw [← htake, List.getElem?_take]
          rw [if_pos (by omega)]
          simp
        rw [← hx, List.getElem?_eq_getElem (by rw [h1.1]; omega)]
        simp [List.getElem_take, List.getElem_drop]
end Go.Proofs.YtfoihafhpmbaeaaGreatDoor
