/- How the program's data read in memory: integers, strings, slices, values, types, declarations. -/
import Derived.Lib.Hide
import Derived.WalkKit
import Derived.WalkLawsBesides
import Derived.WalkSpells
namespace Go.Proofs.YtfoihafhpmbaeaaGreatDoor
open Go.RowKit

abbrev Blocks := Nat → Prop
/-- blocks that are there -/
def Under (S : Blocks) (w : World) : Prop := ∀ b, S b → b < w.heap.size
/-- the blocks of S hold what they held -/
def Same (S : Blocks) (w w' : World) : Prop := ∀ b, S b → w'.heap[b]? = w.heap[b]?
/-- blocks that came between two worlds -/
def New (w w' : World) : Blocks := fun b => w.heap.size ≤ b ∧ b < w'.heap.size
def Or (S S' : Blocks) : Blocks := fun b => S b ∨ S' b
def Sub (S S' : Blocks) : Prop := ∀ b, S b → S' b

theorem Sub.refl (S : Blocks) : Sub S S := fun _ h => h
theorem Sub.left (S S' : Blocks) : Sub S (Or S S') := fun _ h => .inl h
theorem Sub.right (S S' : Blocks) : Sub S' (Or S S') := fun _ h => .inr h
theorem Same.refl (S : Blocks) (w : World) : Same S w w := fun _ _ => rfl
theorem Same.trans {S : Blocks} {a b c : World} (h : Same S a b) (k : Same S b c) : Same S a c := fun i hi => (k i hi).trans (h i hi)
theorem Same.sub {S S' : Blocks} {a b : World} (h : Same S' a b) (k : Sub S S') : Same S a b := fun i hi => h i (k i hi)
theorem Under.below {S : Blocks} {w w' : World} (h : Under S w) {B : Nat} (hb : Below B w w') : Under S w' := fun b hs => Nat.lt_of_lt_of_le (h b hs) hb.size
theorem Under.same {S : Blocks} {w w' : World} (h : Under S w) (hb : Below w.heap.size w w') : Same S w w' := fun b hs => hb.block b (h b hs)
theorem Under.alloc {S : Blocks} {w : World} (h : Under S w) (o : Obj) : Under S (w.alloc o) := fun b hs => by have := h b hs; simp; omega
theorem Under.sub {S S' : Blocks} {w : World} (h : Under S' w) (k : Sub S S') : Under S w := fun b hs => h b (k b hs)
theorem Under.new (w w' : World) : Under (New w w') w' := fun _ h => h.2
theorem Under.or {S S' : Blocks} {w : World} (h : Under S w) (k : Under S' w) : Under (Or S S') w := fun b hs => hs.elim (h b) (k b)
theorem Same.alloc {S : Blocks} {w : World} (h : Under S w) (o : Obj) : Same S w (w.alloc o) := fun b hs => Below.heap_alloc _ _ _ (h b hs)

/-- behind a new block: what holds from the next block number on holds from this one on -/
theorem _root_.Go.RowKit.Below.pop {w wr : World} {o : Obj} (h : Below (w.heap.size + 1) (w.alloc o) wr) : Below w.heap.size w wr :=
  ((Below.refl _ _).alloc (Nat.le_refl _) _).trans (h.mono (Nat.le_succ _))
theorem _root_.Go.RowKit.Below.popc {w wr : World} {o : Obj} (h : Below (w.alloc o).heap.size (w.alloc o) wr) : Below w.heap.size w wr := by
  have e : (w.alloc o).heap.size = w.heap.size + 1 := by simp
  rw [e] at h
  exact h.pop
theorem _root_.Go.RowKit.Below.fromDrew {w w2 : World} (h : Below w.drew.heap.size w.drew w2) : Below w.heap.size w w2 := (Below.refl _ _).drew.trans h
theorem _root_.Go.RowKit.Below.box {w wr : World} {c : Array Value} {T : TypeId} (h : Below (w.heap.size + 1) (w.alloc (.cells c T)) wr) (i : Nat) :
    wr.cell? ⟨w.heap.size, i, none⟩ = c[i]? := by
  rw [h.cell (by simp), World.cell?_alloc_mark]
theorem _root_.Go.RowKit.Below.boxfree {w wr : World} {c : Array Value} {T : TypeId} (h : Below (w.heap.size + 1) (w.alloc (.cells c T)) wr) (i : Nat) :
    wr.frozen? ⟨w.heap.size, i, none⟩ = false := by
  rw [h.frozen (by simp)]
  have e : (w.alloc (.cells c T)).heap[w.heap.size]? = some (.cells c T) := by show (w.heap.push _)[w.heap.size]? = _; simp
  unfold World.frozen?
  rw [e]
  simp
theorem _root_.Go.RowKit.Below.up {w wr w2 : World} {B : Nat} (h : Below B w wr) (k : Below wr.heap.size wr w2) (hB : B ≤ wr.heap.size) : Below B w w2 := h.trans (k.mono hB)
theorem _root_.Go.RowKit.Below.szlt {w wr : World} {o : Obj} {B : Nat} (h : Below B (w.alloc o) wr) : w.heap.size + 1 ≤ wr.heap.size := by have := h.size; simpa using this

/-- a block of cells is just these -/
def Blk (w : World) (b : Nat) (cs : List Value) (T : TypeId) : Prop := w.heap[b]? = some (.cells cs.toArray T (0, 0))
theorem Blk.cell {w : World} {b : Nat} {cs : List Value} {T : TypeId} (h : Blk w b cs T) (i : Nat) : w.cell? ⟨b, i, none⟩ = cs[i]? := by
  unfold Blk at h
  simp [World.cell?, h]
theorem Blk.free {w : World} {b : Nat} {cs : List Value} {T : TypeId} (h : Blk w b cs T) (i : Nat) : w.frozen? ⟨b, i, none⟩ = false := by
  unfold Blk at h
  simp [World.frozen?, h]
theorem Blk.lt {w : World} {b : Nat} {cs : List Value} {T : TypeId} (h : Blk w b cs T) : b < w.heap.size := (Array.getElem?_eq_some_iff.1 h).1
theorem Blk.set {w : World} {b : Nat} {cs : List Value} {T : TypeId} (h : Blk w b cs T) (i : Nat) (v : Value) : Blk (w.setCell ⟨b, i, none⟩ v) b (cs.set i v) T := by
  unfold Blk at h ⊢
  simp [World.setCell, Array.getElem?_modify, h]
theorem Blk.keep {w w' : World} {b : Nat} {cs : List Value} {T : TypeId} (h : Blk w b cs T) (k : w'.heap[b]? = w.heap[b]?) : Blk w' b cs T := by
  unfold Blk at h ⊢
  rw [k]; exact h
theorem Blk.new (w : World) (cs : List Value) (T : TypeId) : Blk (w.alloc (.cells cs.toArray T)) w.heap.size cs T := by
  show (w.heap.push _)[w.heap.size]? = _
  simp

theorem World.heap_drewN (w : World) (n : Nat) : (w.drewN n).heap = w.heap := rfl
theorem Blk.drewN {w : World} {b : Nat} {cs : List Value} {T : TypeId} (h : Blk w b cs T) (n : Nat) : Blk (w.drewN n) b cs T := h
theorem news_new (w : World) (cs : List Value) (T : TypeId) : ∀ j u, cs[j]? = some u → (w.alloc (.cells cs.toArray T)).cell? ((⟨w.heap.size, 0, none⟩ : Addr).add j) = some u := by
  intro j u h
  have e : ((⟨w.heap.size, 0, none⟩ : Addr).add j) = ⟨w.heap.size, j, none⟩ := by unfold Addr.add; split <;> simp_all
  rw [e, (Blk.new w cs T).cell j, h]
theorem Blk.grown {w w' : World} {b : Nat} {cs : List Value} {T : TypeId} {row : Option Nat} (h : Blk w b cs T) (g : w.grownBy w' row) (hn : some b ≠ row) : Blk w' b cs T := h.keep (g.block b h.lt hn)
theorem Blk.alloc {w : World} {b : Nat} {cs : List Value} {T : TypeId} (h : Blk w b cs T) (o : Obj) : Blk (w.alloc o) b cs T := h.keep (Below.heap_alloc _ _ _ h.lt)
theorem Blk.below {w w' : World} {b B : Nat} {cs : List Value} {T : TypeId} (h : Blk w b cs T) (g : Below B w w') (hn : b < B) : Blk w' b cs T := h.keep (g.block b hn)
/-- but for the block b (if there is one such) nothing that was there has turned -/
abbrev But (b : Nat) (w w' : World) : Prop := w.grownBy w' (some b)
theorem But.refl (b : Nat) (w : World) : But b w w := ⟨rfl, rfl, rfl, Nat.le_refl _, fun _ _ _ => rfl⟩
theorem But.trans {b : Nat} {w w1 w2 : World} (h : But b w w1) (k : But b w1 w2) : But b w w2 :=
  ⟨k.os.trans h.os, k.tape.trans h.tape, k.output.trans h.output, Nat.le_trans h.size k.size, fun i hi hn => (k.block i (Nat.lt_of_lt_of_le hi h.size) hn).trans (h.block i hi hn)⟩
theorem But.drew {b : Nat} {w w1 : World} (h : But b w w1) : But b w w1.drew := ⟨h.os, h.tape, h.output, h.size, h.block⟩
theorem But.drewN {b : Nat} {w w1 : World} (h : But b w w1) (n : Nat) : But b w (w1.drewN n) := ⟨h.os, h.tape, h.output, h.size, h.block⟩
theorem But.set {b : Nat} {w w1 : World} (h : But b w w1) (i : Nat) (v : Value) : But b w (w1.setCell ⟨b, i, none⟩ v) :=
  h.trans ⟨rfl, rfl, rfl, by simp [World.setCell], fun k _ hn => Below.heap_setCell _ _ _ _ (by intro e; subst e; exact hn rfl)⟩
theorem But.alloc {b : Nat} {w w1 : World} (h : But b w w1) (o : Obj) : But b w (w1.alloc o) :=
  h.trans ⟨rfl, rfl, rfl, by simp, fun k hk _ => Below.heap_alloc _ _ _ hk⟩
theorem But.below {b : Nat} {w w1 : World} (h : Below w.heap.size w w1) : But b w w1 := ⟨h.os, h.tape, h.output, h.size, fun k hk _ => h.block k hk⟩
theorem But.toBelow {b B : Nat} {w w1 : World} (h : But b w w1) (hb : B ≤ b) (hB : B ≤ w.heap.size) : Below B w w1 :=
  ⟨h.os, h.tape, h.output, h.size, fun k hk => h.block k (Nat.lt_of_lt_of_le hk hB) (by intro e; injection e with e; omega)⟩
theorem But.same {b : Nat} {w w1 : World} {S : Blocks} (h : But b w w1) (hS : Under S w) (hn : ¬ S b) : Same S w w1 :=
  fun k hk => h.block k (hS k hk) (by intro e; injection e with e; subst e; exact hn hk)
theorem But.under {b : Nat} {w w1 : World} {S : Blocks} (h : But b w w1) (hS : Under S w) : Under S w1 := fun k hk => Nat.lt_of_lt_of_le (hS k hk) h.size

def i64ok (n : Int) : Prop := -9223372036854775808 ≤ n ∧ n ≤ 9223372036854775807

/-- the cells from (b, off) on -/
def cellsAt (w : World) (b off : Nat) (cs : List Value) : Prop := ∀ i, (h : i < cs.length) → w.cell? ⟨b, off + i, none⟩ = some cs[i]
theorem cellsAt.keep {w w' : World} {b o : Nat} {cs : List Value} (h : cellsAt w b o cs) (hb : w'.heap[b]? = w.heap[b]?) : cellsAt w' b o cs := by
  intro i hi
  rw [← h i hi]
  simp [World.cell?, hb]
theorem cells1 {w : World} {b o : Nat} {c0 : Value} (h : cellsAt w b o [c0]) : w.cell? ⟨b, o, none⟩ = some c0 := h 0 (by simp)
theorem cells3 {w : World} {b o : Nat} {c0 c1 c2 : Value} (h : cellsAt w b o [c0, c1, c2]) :
    w.cell? ⟨b, o, none⟩ = some c0 ∧ w.cell? ⟨b, o + 1, none⟩ = some c1 ∧ w.cell? ⟨b, o + 2, none⟩ = some c2 :=
  ⟨h 0 (by simp), h 1 (by simp), h 2 (by simp)⟩
theorem cells5 {w : World} {b o : Nat} {c0 c1 c2 c3 c4 : Value} (h : cellsAt w b o [c0, c1, c2, c3, c4]) :
    w.cell? ⟨b, o, none⟩ = some c0 ∧ w.cell? ⟨b, o + 1, none⟩ = some c1 ∧ w.cell? ⟨b, o + 2, none⟩ = some c2 ∧ w.cell? ⟨b, o + 3, none⟩ = some c3 ∧ w.cell? ⟨b, o + 4, none⟩ = some c4 :=
  ⟨h 0 (by simp), h 1 (by simp), h 2 (by simp), h 3 (by simp), h 4 (by simp)⟩

theorem list5 {l : List Value} (h : l.length = 5) : ∃ a b c d e, l = [a, b, c, d, e] := by
  match l, h with
  | [a, b, c, d, e], _ => exact ⟨a, b, c, d, e, rfl⟩
theorem list3 {l : List Value} (h : l.length = 3) : ∃ a b c, l = [a, b, c] := by
  match l, h with
  | [a, b, c], _ => exact ⟨a, b, c, rfl⟩
theorem list1 {l : List Value} (h : l.length = 1) : ∃ a, l = [a] := by
  match l, h with
  | [a], _ => exact ⟨a, rfl⟩

/-- a slice (its address, its capacity; its length is the list's) of elements of 'sz' cells, each read by R -/
def RSl {α : Type} (sz : Nat) (R : α → List Value → Prop) (S : Blocks) (w : World) (l : List α) (a : Option Addr) (cap : Nat) : Prop :=
  (a = none ∧ cap = 0 ∧ l = []) ∨
  ∃ b off, a = some ⟨b, off, none⟩ ∧ l.length ≤ cap ∧ cap ≤ maxLen ∧ l.length ≤ 2147483647 ∧ S b ∧
    ∀ i, (h : i < l.length) → ∃ cs, cs.length = sz ∧ cellsAt w b (off + i * sz) cs ∧ R l[i] cs

theorem RSl.keep {α : Type} {sz : Nat} {R R' : α → List Value → Prop} {S S' : Blocks} {w w' : World} {l : List α} {a : Option Addr} {cap : Nat} (h : RSl sz R S w l a cap)
    (hk : Same S w w') (hs : Sub S S') (hR : ∀ a, a ∈ l → ∀ cs, R a cs → R' a cs) : RSl sz R' S' w' l a cap := by
  rcases h with h | ⟨b, off, hv, hc, hcc, hl, hb, hx⟩
  · exact .inl h
  · exact .inr ⟨b, off, hv, hc, hcc, hl, hs b hb, fun i hi => let ⟨cs, h1, h2, h3⟩ := hx i hi; ⟨cs, h1, h2.keep (hk b hb), hR _ (List.getElem_mem _) _ h3⟩⟩

theorem RSl.le {α : Type} {sz : Nat} {R : α → List Value → Prop} {S : Blocks} {w : World} {l : List α} {a : Option Addr} {cap : Nat} (h : RSl sz R S w l a cap) :
    l.length ≤ cap ∧ l.length ≤ 2147483647 := by
  rcases h with ⟨rfl, rfl, rfl⟩ | ⟨b, off, hv, hc, hcc, hl, hb, hx⟩
  · simp
  · exact ⟨hc, hl⟩

theorem RSl.at {α : Type} {sz : Nat} {R : α → List Value → Prop} {S : Blocks} {w : World} {l : List α} {a : Option Addr} {cap : Nat} (h : RSl sz R S w l a cap) {k : Nat} (hk : k < l.length) :
    ∃ b off cs, a = some ⟨b, off, none⟩ ∧ S b ∧ cs.length = sz ∧ cellsAt w b (off + k * sz) cs ∧ R l[k] cs := by
  rcases h with ⟨_, _, rfl⟩ | ⟨b, off, hv, hc, hcc, hl, hb, hx⟩
  · simp at hk
  · obtain ⟨cs, h1, h2, h3⟩ := hx k hk
    exact ⟨b, off, cs, hv, hb, h1, h2, h3⟩

def RInt (n : Int) (cs : List Value) : Prop := cs = [.int .i64 n] ∧ i64ok n
def RStr (s : ByteArray) (cs : List Value) : Prop := cs = [.string s] ∧ s.size ≤ 2147483647

theorem choose_rows {n : Nat} {p : Nat → List Value → Prop} (h : ∀ i, i < n → ∃ x, p i x) : ∃ f : Nat → List Value, ∀ i, i < n → p i (f i) := by
  classical
  refine ⟨fun i => if hi : i < n then Classical.choose (h i hi) else [], fun i hi => ?_⟩
  simp only [dif_pos hi]
  exact Classical.choose_spec (h i hi)

inductive V where
  | mk (kind num : Int) (text : ByteArray) (tags : List Int) (items : List V)
def V.kind : V → Int | .mk k _ _ _ _ => k
def V.num : V → Int | .mk _ n _ _ _ => n
def V.text : V → ByteArray | .mk _ _ t _ _ => t
def V.tags : V → List Int | .mk _ _ _ g _ => g
def V.items : V → List V | .mk _ _ _ _ i => i

/-- a value -/
inductive RV (S : Blocks) (w : World) : V → List Value → Prop
  | nil {v : V} {ta : Option Addr} {tc : Nat} (hk : i64ok v.kind) (hn : i64ok v.num) (ht : v.text.size ≤ 2147483647) (hg : RSl 1 RInt S w v.tags ta tc) (he : v.items = []) :
      RV S w v [.int .i64 v.kind, .int .i64 v.num, .string v.text, .slice ta v.tags.length tc, .slice none v.items.length 0]
  | row {v : V} {ta : Option Addr} {tc : Nat} {b off cap : Nat} (f : Nat → List Value)
      (hk : i64ok v.kind) (hn : i64ok v.num) (ht : v.text.size ≤ 2147483647) (hg : RSl 1 RInt S w v.tags ta tc) (hc : v.items.length ≤ cap) (hcc : cap ≤ maxLen) (hl : v.items.length ≤ 2147483647) (hb : S b)
      (h5 : ∀ i, i < v.items.length → (f i).length = 5) (hf : ∀ i, i < v.items.length → cellsAt w b (off + i * 5) (f i)) (hr : ∀ i, (h : i < v.items.length) → RV S w v.items[i] (f i)) :
      RV S w v [.int .i64 v.kind, .int .i64 v.num, .string v.text, .slice ta v.tags.length tc, .slice (some ⟨b, off, none⟩) v.items.length cap]

theorem RV.cells {S : Blocks} {w : World} {v : V} {cs : List Value} (h : RV S w v cs) :
    ∃ ta tc ia ic, cs = [.int .i64 v.kind, .int .i64 v.num, .string v.text, .slice ta v.tags.length tc, .slice ia v.items.length ic] ∧ i64ok v.kind ∧ i64ok v.num ∧ v.text.size ≤ 2147483647 ∧
      RSl 1 RInt S w v.tags ta tc ∧ RSl 5 (RV S w) S w v.items ia ic := by
  cases h with
  | nil hk hn ht hg he => exact ⟨_, _, _, _, rfl, hk, hn, ht, hg, .inl ⟨rfl, rfl, he⟩⟩
  | row f hk hn ht hg hc hcc hl hb h5 hf hr => exact ⟨_, _, _, _, rfl, hk, hn, ht, hg, .inr ⟨_, _, rfl, hc, hcc, hl, hb, fun i h => ⟨f i, h5 i h, hf i h, hr i h⟩⟩⟩

theorem RV.intro {S : Blocks} {w : World} {v : V} {ta ia : Option Addr} {tc ic : Nat}
    (hk : i64ok v.kind) (hn : i64ok v.num) (ht : v.text.size ≤ 2147483647) (hg : RSl 1 RInt S w v.tags ta tc) (hi : RSl 5 (RV S w) S w v.items ia ic) :
    RV S w v [.int .i64 v.kind, .int .i64 v.num, .string v.text, .slice ta v.tags.length tc, .slice ia v.items.length ic] := by
  rcases hi with ⟨rfl, rfl, he⟩ | ⟨b, off, rfl, hc, hcc, hl, hb, hx⟩
  · exact .nil hk hn ht hg he
  · obtain ⟨f, hf⟩ := choose_rows (n := v.items.length) (p := fun i cs => ∃ h : i < v.items.length, cs.length = 5 ∧ cellsAt w b (off + i * 5) cs ∧ RV S w v.items[i] cs)
      (fun i hi => let ⟨cs, h1, h2, h3⟩ := hx i hi; ⟨cs, hi, h1, h2, h3⟩)
    exact .row f hk hn ht hg hc hcc hl hb (fun i h => (hf i h).2.1) (fun i h => (hf i h).2.2.1) (fun i h => (hf i h).2.2.2)

theorem RV.keep {S S' : Blocks} {w w' : World} {v : V} {cs : List Value} (h : RV S w v cs) (hk : Same S w w') (hs : Sub S S') : RV S' w' v cs := by
  induction h with
  | nil a b c hg he => exact .nil a b c (hg.keep hk hs (fun _ _ _ h => h)) he
  | row f a b c hg hc hcc hl hb h5 hf hr ih => exact .row f a b c (hg.keep hk hs (fun _ _ _ h => h)) hc hcc hl (hs _ hb) h5 (fun i hi => (hf i hi).keep (hk _ hb)) ih
theorem RV.len {S : Blocks} {w : World} {v : V} {cs : List Value} (h : RV S w v cs) : cs.length = 5 := by cases h <;> rfl

/-- a type -/
inductive Ty where
  | mk (kind : Int) (name : ByteArray) (of : List Ty)
def Ty.kind : Ty → Int | .mk k _ _ => k
def Ty.name : Ty → ByteArray | .mk _ n _ => n
def Ty.of : Ty → List Ty | .mk _ _ o => o

inductive RTy (S : Blocks) (w : World) : Ty → List Value → Prop
  | nil {t : Ty} (hk : i64ok t.kind) (ht : t.name.size ≤ 2147483647) (he : t.of = []) :
      RTy S w t [.int .i64 t.kind, .string t.name, .slice none t.of.length 0]
  | row {t : Ty} {b off cap : Nat} (f : Nat → List Value)
      (hk : i64ok t.kind) (ht : t.name.size ≤ 2147483647) (hc : t.of.length ≤ cap) (hcc : cap ≤ maxLen) (hl : t.of.length ≤ 2147483647) (hb : S b)
      (h5 : ∀ i, i < t.of.length → (f i).length = 3) (hf : ∀ i, i < t.of.length → cellsAt w b (off + i * 3) (f i)) (hr : ∀ i, (h : i < t.of.length) → RTy S w t.of[i] (f i)) :
      RTy S w t [.int .i64 t.kind, .string t.name, .slice (some ⟨b, off, none⟩) t.of.length cap]

theorem RTy.cells {S : Blocks} {w : World} {t : Ty} {cs : List Value} (h : RTy S w t cs) :
    ∃ oa oc, cs = [.int .i64 t.kind, .string t.name, .slice oa t.of.length oc] ∧ i64ok t.kind ∧ t.name.size ≤ 2147483647 ∧ RSl 3 (RTy S w) S w t.of oa oc := by
  cases h with
  | nil hk ht he => exact ⟨_, _, rfl, hk, ht, .inl ⟨rfl, rfl, he⟩⟩
  | row f hk ht hc hcc hl hb h5 hf hr => exact ⟨_, _, rfl, hk, ht, .inr ⟨_, _, rfl, hc, hcc, hl, hb, fun i h => ⟨f i, h5 i h, hf i h, hr i h⟩⟩⟩
theorem RTy.intro {S : Blocks} {w : World} {t : Ty} {oa : Option Addr} {oc : Nat}
    (hk : i64ok t.kind) (ht : t.name.size ≤ 2147483647) (hi : RSl 3 (RTy S w) S w t.of oa oc) : RTy S w t [.int .i64 t.kind, .string t.name, .slice oa t.of.length oc] := by
  rcases hi with ⟨rfl, rfl, he⟩ | ⟨b, off, rfl, hc, hcc, hl, hb, hx⟩
  · exact .nil hk ht he
  · obtain ⟨f, hf⟩ := choose_rows (n := t.of.length) (p := fun i cs => ∃ h : i < t.of.length, cs.length = 3 ∧ cellsAt w b (off + i * 3) cs ∧ RTy S w t.of[i] cs)
      (fun i hi => let ⟨cs, h1, h2, h3⟩ := hx i hi; ⟨cs, hi, h1, h2, h3⟩)
    exact .row f hk ht hc hcc hl hb (fun i h => (hf i h).2.1) (fun i h => (hf i h).2.2.1) (fun i h => (hf i h).2.2.2)
theorem RTy.keep {S S' : Blocks} {w w' : World} {v : Ty} {cs : List Value} (h : RTy S w v cs) (hk : Same S w w') (hs : Sub S S') : RTy S' w' v cs := by
  induction h with
  | nil a c he => exact .nil a c he
  | row f a c hc hcc hl hb h5 hf hr ih => exact .row f a c hc hcc hl (hs _ hb) h5 (fun i hi => (hf i hi).keep (hk _ hb)) ih
theorem RTy.len {S : Blocks} {w : World} {v : Ty} {cs : List Value} (h : RTy S w v cs) : cs.length = 3 := by cases h <;> rfl

structure Fld where
  tag : Int
  name : ByteArray
  type : Ty
structure Mth where
  tag : Int
  name : ByteArray
  inn : ByteArray
  out : ByteArray
  oneWay : Bool
structure Dcl where
  kind : Int
  name : ByteArray
  fields : List Fld
  methods : List Mth
  pos : Int

/-- a field: tag, name, the type's three cells -/
def RFld (S : Blocks) (w : World) (f : Fld) (cs : List Value) : Prop :=
  ∃ oa oc, cs = [.int .i64 f.tag, .string f.name, .int .i64 f.type.kind, .string f.type.name, .slice oa f.type.of.length oc] ∧ i64ok f.tag ∧ f.name.size ≤ 2147483647 ∧
    RTy S w f.type [.int .i64 f.type.kind, .string f.type.name, .slice oa f.type.of.length oc]
def RMth (m : Mth) (cs : List Value) : Prop :=
  cs = [.int .i64 m.tag, .string m.name, .string m.inn, .string m.out, .bool m.oneWay] ∧ i64ok m.tag ∧ m.name.size ≤ 2147483647 ∧ m.inn.size ≤ 2147483647 ∧ m.out.size ≤ 2147483647
def RDcl (S : Blocks) (w : World) (d : Dcl) (cs : List Value) : Prop :=
  ∃ fa fc ma mc, cs = [.int .i64 d.kind, .string d.name, .slice fa d.fields.length fc, .slice ma d.methods.length mc, .int .i64 d.pos] ∧ i64ok d.kind ∧ d.name.size ≤ 2147483647 ∧
    RSl 5 (RFld S w) S w d.fields fa fc ∧ RSl 5 RMth S w d.methods ma mc ∧ i64ok d.pos

theorem RFld.keep {S S' : Blocks} {w w' : World} {v : Fld} {cs : List Value} (h : RFld S w v cs) (hk : Same S w w') (hs : Sub S S') : RFld S' w' v cs := by
  obtain ⟨oa, oc, h1, h2, h3, h4⟩ := h
  exact ⟨oa, oc, h1, h2, h3, h4.keep hk hs⟩
theorem RFld.type {S : Blocks} {w : World} {f : Fld} {c0 c1 c2 c3 c4 : Value} (h : RFld S w f [c0, c1, c2, c3, c4]) : RTy S w f.type [c2, c3, c4] := by
  obtain ⟨oa, oc, he, _, _, h4⟩ := h
  simp only [List.cons.injEq] at he
  obtain ⟨_, _, rfl, rfl, rfl, _⟩ := he
  exact h4
theorem RFld.len {S : Blocks} {w : World} {v : Fld} {cs : List Value} (h : RFld S w v cs) : cs.length = 5 := by
  obtain ⟨oa, oc, rfl, _⟩ := h
  rfl
theorem RMth.len {v : Mth} {cs : List Value} (h : RMth v cs) : cs.length = 5 := by
  obtain ⟨rfl, _⟩ := h
  rfl
theorem RDcl.keep {S S' : Blocks} {w w' : World} {v : Dcl} {cs : List Value} (h : RDcl S w v cs) (hk : Same S w w') (hs : Sub S S') : RDcl S' w' v cs := by
  obtain ⟨fa, fc, ma, mc, h1, h2, h3, h4, h5, h6⟩ := h
  exact ⟨fa, fc, ma, mc, h1, h2, h3, h4.keep hk hs (fun _ _ _ h => h.keep hk hs), h5.keep hk hs (fun _ _ _ h => h), h6⟩
theorem RDcl.len {S : Blocks} {w : World} {v : Dcl} {cs : List Value} (h : RDcl S w v cs) : cs.length = 5 := by
  obtain ⟨fa, fc, ma, mc, rfl, _⟩ := h
  rfl

theorem Ty.ind {p : Ty → Prop} (h : ∀ t : Ty, (∀ x, x ∈ t.of → p x) → p t) (t : Ty) : p t := by
  have key : ∀ n (t : Ty), SizeOf.sizeOf t ≤ n → p t := by
    intro n
    induction n with
    | zero => intro t ht; cases t; simp at ht
    | succ n ih =>
      intro t ht
      refine h t fun x hx => ih x ?_
      obtain ⟨k, m, o⟩ := t
      have := List.sizeOf_lt_of_mem (show x ∈ o from hx)
      simp at ht; omega
  exact key _ t (Nat.le_refl _)
theorem V.ind {p : V → Prop} (h : ∀ v : V, (∀ x, x ∈ v.items → p x) → p v) (v : V) : p v := by
  have key : ∀ n (v : V), SizeOf.sizeOf v ≤ n → p v := by
    intro n
    induction n with
    | zero => intro t ht; cases t; simp at ht
    | succ n ih =>
      intro t ht
      refine h t fun x hx => ih x ?_
      obtain ⟨k, m, tx, g, o⟩ := t
      have := List.sizeOf_lt_of_mem (show x ∈ o from hx)
      simp at ht; omega
  exact key _ v (Nat.le_refl _)
end Go.Proofs.YtfoihafhpmbaeaaGreatDoor
