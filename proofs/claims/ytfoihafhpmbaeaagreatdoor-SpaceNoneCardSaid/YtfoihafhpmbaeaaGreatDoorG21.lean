/- Maps, entry by entry. -/
import Derived.MapKept
import Derived.Maps.OwnOps
import Derived.Test.YtfoihafhpmbaeaaGreatDoorG00
namespace Go.Proofs.YtfoihafhpmbaeaaGreatDoor
open Go.RowKit Go.MapKept

section
variable {α : Type}
/-- block b is a map that holds these entries, in the order in which they came -/
def MapIs (κ : α → Value) (w : World) (b : Nat) (m : List (α × Value)) : Prop :=
  ∃ es clock, w.heap[b]? = some (.map es clock) ∧ es.toList.map (fun e => (e.key, e.val)) = m.map (fun kv => (κ kv.1, kv.2)) ∧ Stamped es clock ∧ (m.map (·.1)).Nodup
variable {κ : α → Value} {w : World} {b : Nat} {m : List (α × Value)}
theorem MapIs.made (κ : α → Value) (w : World) : MapIs κ (w.alloc (.map #[] 0)) w.heap.size [] :=
  ⟨#[], 0, (heap_alloc w _).1, rfl, stamped_empty 0, by simp⟩
theorem MapIs.lt (h : MapIs κ w b m) : b < w.heap.size := by
  obtain ⟨es, clock, hb, _⟩ := h
  exact (Array.getElem?_eq_some_iff.1 hb).1
theorem MapIs.keep {w' : World} (h : MapIs κ w b m) (hk : w'.heap[b]? = w.heap[b]?) : MapIs κ w' b m := by
  obtain ⟨es, clock, hb, h2⟩ := h
  exact ⟨es, clock, hk.trans hb, h2⟩
end

section
variable {α : Type} [DecidableEq α]
def mget (m : List (α × Value)) (a : α) : Option Value := (m.find? (fun kv => decide (kv.1 = a))).map (·.2)
def mput (m : List (α × Value)) (a : α) (v : Value) : List (α × Value) := if (mget m a).isSome then m.map (fun kv => if kv.1 = a then (kv.1, v) else kv) else m ++ [(a, v)]
structure KeyFn (d : TypeDesc) (κ : α → Value) : Prop where
  key : ∀ a, IsKey d (κ a)
  inj : ∀ a b, κ a = κ b → a = b

theorem mget_at {m : List (α × Value)} (hn : (m.map (·.1)).Nodup) {j : Nat} {a : α} {v : Value} (h : m[j]? = some (a, v)) : mget m a = some v := by
  induction m generalizing j with
  | nil => simp at h
  | cons x xs ih =>
    unfold mget
    rw [List.find?_cons]
    by_cases hx : x.1 = a
    · simp only [hx, decide_true]
      cases j with
      | zero =>
        simp at h
        rw [h]
        rfl
      | succ j =>
        exfalso
        simp only [List.getElem?_cons_succ] at h
        simp only [List.map_cons, List.nodup_cons] at hn
        exact hn.1 (by rw [hx]; exact List.mem_map.2 ⟨(a, v), List.mem_of_getElem? h, rfl⟩)
    · simp only [hx, decide_false]
      cases j with
      | zero => simp at h; exact absurd (by rw [h]) hx
      | succ j =>
        simp only [List.map_cons, List.nodup_cons] at hn
        exact ih hn.2 (by simpa using h)
theorem mget_none {m : List (α × Value)} {a : α} (h : ∀ kv ∈ m, kv.1 ≠ a) : mget m a = none := by
  unfold mget
  rw [Option.map_eq_none_iff, List.find?_eq_none]
  intro x hx
  simpa using h x hx
theorem mget_mem {m : List (α × Value)} {a : α} {v : Value} (h : mget m a = some v) : (a, v) ∈ m := by
  unfold mget at h
  rw [Option.map_eq_some_iff] at h
  obtain ⟨kv, h1, h2⟩ := h
  have h3 := List.find?_some h1
  have h4 := List.mem_of_find?_eq_some h1
  simp at h3
  rw [← h3, ← h2]
  exact h4
theorem mput_keys {m : List (α × Value)} {a : α} {v : Value} (hn : (m.map (·.1)).Nodup) : ((mput m a v).map (·.1)).Nodup := by
  unfold mput
  split
  · rw [List.map_map]
    have : ((fun kv : α × Value => kv.1) ∘ fun kv => if kv.1 = a then (kv.1, v) else kv) = (fun kv => kv.1) := by
      funext kv
      simp only [Function.comp]
      split <;> rfl
    rw [this]
    exact hn
  · rename_i h
    rw [List.map_append, List.nodup_append]
    refine ⟨hn, by simp, ?_⟩
    intro x hx y hy
    simp at hy
    subst hy
    intro e
    subst e
    obtain ⟨kv, h1, h2⟩ := List.mem_map.1 hx
    obtain ⟨j, hj⟩ := List.getElem?_of_mem h1
    have := mget_at hn (j := j) (a := x) (v := kv.2) (by rw [hj, ← h2])
    rw [this] at h
    exact h rfl

variable {d : TypeDesc} {κ : α → Value} {w : World} {b : Nat} {m : List (α × Value)} {P : Program}
theorem MapIs.find (K : KeyFn d κ) {es : Array MapEntry} (hes : es.toList.map (fun e => (e.key, e.val)) = m.map (fun kv => (κ kv.1, kv.2))) (hn : (m.map (·.1)).Nodup) (a : α) :
    (Instr.findNow d (κ a) es.toList 0 = some none ∧ mget m a = none ∧ ∀ e ∈ es.toList, e.key ≠ κ a) ∨ ∃ j e, Instr.findNow d (κ a) es.toList 0 = some (some (j, e.val)) ∧ es.toList[j]? = some e ∧ e.key = κ a ∧ mget m a = some e.val := by
  have hks : ∀ x ∈ es.toList, IsKey d x.key := fun x hx => by
    have : (x.key, x.val) ∈ m.map (fun kv => (κ kv.1, kv.2)) := hes ▸ List.mem_map.2 ⟨x, hx, rfl⟩
    obtain ⟨kv, _, e⟩ := List.mem_map.1 this
    injection e with e1 e2
    rw [← e1]
    exact K.key _
  rcases findNow_spec (K.key a) es.toList 0 hks with ⟨h1, h2⟩ | ⟨j, e, h1, h2, h3⟩
  · refine .inl ⟨h1, mget_none fun kv hkv hka => ?_, h2⟩
    have : (κ kv.1, kv.2) ∈ es.toList.map (fun e => (e.key, e.val)) := hes ▸ List.mem_map.2 ⟨kv, hkv, rfl⟩
    obtain ⟨x, hx, ex⟩ := List.mem_map.1 this
    injection ex with e1 e2
    exact h2 x hx (by rw [e1, hka])
  · refine .inr ⟨j, e, by simpa using h1, h2, h3, ?_⟩
    have : (es.toList.map (fun e => (e.key, e.val)))[j]? = some (κ a, e.val) := by rw [List.getElem?_map, h2]; simp [h3]
    rw [hes, List.getElem?_map] at this
    obtain ⟨kv, h4, h5⟩ := Option.map_eq_some_iff.1 this
    injection h5 with h6 h7
    exact mget_at hn (j := j) (by rw [h4]; rw [← K.inj _ _ h6, ← h7])

theorem MapIs.look {mty kt et : TypeId} {z : Value} (h : MapIs κ w b m) (K : KeyFn d κ) (hm : P.underlying mty = some (.map kt et)) (hd : P.underlying kt = some d) (hz : (zeroValue et).run P w = .ok z w) (a : α) (ok : Bool) :
    (Instr.lookup mty (.map (some b)) (κ a) ok).run P w = .ok (if ok then .tuple #[(mget m a).getD z, .bool (mget m a).isSome] else (mget m a).getD z) w := by
  obtain ⟨es, clock, hb, hes, _, hn⟩ := h
  rcases MapIs.find K hes hn a with ⟨h1, h2, _⟩ | ⟨j, e, h1, _, _, h2⟩
  · simp [Instr.lookup, run_underlying hm, Go.MapKept.run_getObj_map hb, Go.MapKept.run_checkKey hd (K.key a), Go.MapKept.run_findKey hd h1, Result.andThen, hz, h2]
  · simp [Instr.lookup, run_underlying hm, Go.MapKept.run_getObj_map hb, Go.MapKept.run_checkKey hd (K.key a), Go.MapKept.run_findKey hd h1, Result.andThen, h2]

theorem MapIs.put {mty kt et : TypeId} (h : MapIs κ w b m) (K : KeyFn d κ) (hm : P.underlying mty = some (.map kt et)) (hd : P.underlying kt = some d) (a : α) (v : Value) :
    ∃ w', (Instr.mapUpdate mty (.map (some b)) (κ a) v).run P w = .ok () w' ∧ MapIs κ w' b (mput m a v) ∧ w.grownBy w' (some b) ∧ w'.heap.size = w.heap.size := by
  obtain ⟨es, clock, hb, hes, hst, hn⟩ := h
  have hgr : ∀ o : Obj, w.grownBy { w with heap := w.heap.setIfInBounds b o } (some b) := fun o =>
    ⟨rfl, rfl, rfl, by simp, fun i _ hi => (heap_set (o' := o) hb).2 i (fun e => hi (by rw [e]))⟩
  rcases MapIs.find K hes hn a with ⟨h1, h2, h3⟩ | ⟨j, e, h1, h4, h5, h2⟩
  · refine ⟨{ w with heap := w.heap.setIfInBounds b (.map (es.push { key := κ a, val := v, born := clock }) (clock + 1)) }, ?_, ⟨_, _, (heap_set hb).1, ?_, stamped_push hst h3, mput_keys hn⟩, hgr _, by simp⟩
    · simp [Instr.mapUpdate, run_underlying hm, Go.MapKept.run_getObj_map hb, Go.MapKept.run_checkKey hd (K.key a), Go.MapKept.run_findKey hd h1, Result.andThen, Go.MapKept.run_setObj_map _ hb]
    · unfold mput
      rw [h2]
      simp [hes]
  · refine ⟨{ w with heap := w.heap.setIfInBounds b (.map (es.modify j fun e => { e with key := κ a, val := v }) clock) }, ?_, ⟨_, _, (heap_set hb).1, ?_, ?_, mput_keys hn⟩, hgr _, by simp⟩
    · have hej : es[j]? = some e := by simpa using h4
      simp [Instr.mapUpdate, run_underlying hm, Go.MapKept.run_getObj_map hb, Go.MapKept.run_checkKey hd (K.key a), Go.MapKept.run_findKey hd h1, Result.andThen, Go.MapKept.run_setObj_map _ hb, hej, h5, Go.MapKept.run_keyThatStays (K.key a)]
    · unfold mput
      rw [h2]
      simp only [Option.isSome_some, if_true]
      apply List.ext_getElem?
      intro i
      have hi : (es.toList.map (fun e => (e.key, e.val)))[i]? = (m.map (fun kv => (κ kv.1, kv.2)))[i]? := by rw [hes]
      have hj : m[j]?.map (fun kv => (κ kv.1, kv.2)) = some (κ a, e.val) := by
        rw [← List.getElem?_map, ← hes, List.getElem?_map, h4]
        simp [h5]
      obtain ⟨kj, hkj, hke⟩ := Option.map_eq_some_iff.1 hj
      injection hke with hk1 hk2
      have hkja := K.inj _ _ hk1
      rw [Array.toList_modify, List.getElem?_map, List.getElem?_map, List.getElem?_map, List.getElem?_modify]
      rw [List.getElem?_map, List.getElem?_map] at hi
      by_cases hij : j = i
      · subst hij
        rw [hkj, h4]
        simp [hkja]
      · simp only [if_neg hij]
        cases hmi : m[i]? with
        | none =>
          rw [hmi] at hi
          simpa using hi
        | some ki =>
          rw [hmi] at hi
          have hne : ki.1 ≠ a := fun e => by
            apply hij
            have hlj := (List.getElem?_eq_some_iff.1 hkj).1
            have h1 : (m.map (·.1))[j]? = some a := by rw [List.getElem?_map, hkj]; simp [hkja]
            have h2 : (m.map (·.1))[i]? = some a := by rw [List.getElem?_map, hmi]; simp [e]
            exact (List.getElem?_inj (by simpa using hlj) hn).1 (h1.trans h2.symm)
          simp only [Option.map_some, if_neg hne]
          simpa using hi
    · refine stamped_modify hst j _ (fun _ _ => rfl) (fun x _ hx => ?_)
      have hej : es[j]? = some e := by simpa using h4
      rw [hej] at hx
      injection hx with hx
      subst hx
      exact h5.symm

theorem wpList_map_put {mty kt et : TypeId} {ops : Array Oper} {rest : List Oper} {o : Oper} {ac : Act} {Q : Exit → Act → World → Prop}
    (hg : o.guard = none) (mo x v : Operand) (hop : o.op = Op.mapUpdate mty mo x v) (hm : P.underlying mty = some (.map kt et)) (hd : P.underlying kt = some d) (K : KeyFn d κ)
    (h : MapIs κ w b m) (a : α) (u : Value) (hb : ac.eval mo = .map (some b)) (hx : ac.eval x = κ a) (hv : ac.eval v = u)
    (hK : ∀ w', MapIs κ w' b (mput m a u) → w.grownBy w' (some b) → w'.heap.size = w.heap.size → wpList P ops Q rest (ac.put o.dst undef) w') :
    wpList P ops Q (o :: rest) ac w := by
  refine wpList_plain hg fun K' hK' => ?_
  obtain ⟨w', hrun, r1, r2, r3⟩ := h.put K hm hd a u
  unfold Oper.wp
  simp [execOp, hop, hb, hx, hv, hrun, Result.andThen]
  exact hK' _ _ (hK w' r1 r2 r3)

theorem step_map_put {mty kt et : TypeId} {ops : Array Oper} {o : Oper} {ac : Act} {K' : Act → World → Prop} {Q : Exit → Act → World → Prop} {E : Prop}
    (hg : o.guard = none) (mo x v : Operand) (hop : o.op = Op.mapUpdate mty mo x v) (hm : P.underlying mty = some (.map kt et)) (hd : P.underlying kt = some d) (K : KeyFn d κ)
    (h : MapIs κ w b m) (a : α) (u : Value) (hb : ac.eval mo = .map (some b)) (hx : ac.eval x = κ a) (hv : ac.eval v = u)
    (hK : ∀ w', MapIs κ w' b (mput m a u) → w.grownBy w' (some b) → w'.heap.size = w.heap.size → K' (ac.put o.dst undef) w') :
    if Region.wanted o (yielded ops ac.tmps) = true then Oper.wp P o ac w K' Q else E := by
  have hw : Region.wanted o (yielded ops ac.tmps) = true := by simp [Region.wanted, hg]
  rw [if_pos hw]
  obtain ⟨w', hrun, r1, r2, r3⟩ := h.put K hm hd a u
  unfold Oper.wp
  simp [execOp, hop, hb, hx, hv, hrun, Result.andThen]
  exact hK w' r1 r2 r3
end

theorem strKey : KeyFn .string Value.string := ⟨fun _ => trivial, fun _ _ h => by injection h⟩
theorem intKey : KeyFn (.int .i64) (Value.int .i64) := ⟨fun _ => rfl, fun _ _ h => by injection h⟩
end Go.Proofs.YtfoihafhpmbaeaaGreatDoor
