/- The law's row: what comes in. -/
import Derived.HandedShaped
import Derived.LaidMore
import Derived.Lay
import Derived.OpenShut
import Derived.ProofKit
import Derived.Shelf.Vars
import Derived.Stop.Joined
import Derived.Test.YtfoihafhpmbaeaaGreatDoorG30
namespace Go.Proofs.YtfoihafhpmbaeaaGreatDoor
open Go.ChangeShapes Go.WideShapes Go.ChangeAt Go.RowKit

/-- the wrap that hands on what is laid, the reach and the world's shape -/
theorem handed_and_shaped {H : Type} {enc : TypeId × Value → H} {a : Assume} {C : Checked} {os : Os} {f : FuncId} {fn : Func} {s : ChangeSpec} {conds : List PathCond} {apart fresh handsOn again : Bool} {X : World → Array Value → Prop}
    (hX : ∀ (w w' : World) (args : Array Value), w.heap = w'.heap → X w args → X w' args)
    (own : ownKnob C.prog.godebug = none) (started : os.Started) (noInit : C.prog.inits.idxOf? f = none) (hfn : C.prog.funcs[f]? = some fn)
    (witness : ∃ (w : World) (tape : Tape) (i : Input), w.os = os ∧ (w.forCall tape i).Shaped C.prog ∧ i.vars = [] ∧ Input.okWide C.prog (w.forCall tape i) .any w.heap.size f i ∧
      ((s.pre enc C.prog fn conds apart (w.forCall tape i).memory i.args ∧ X (w.forCall tape i).memory i.args) ∧ sizedMet enc C.prog fn (OpenSpec.ofChange s) apart (w.forCall tape i).memory i.args) ∧ a.holds C.prog (lone (Frame.enter C.prog f i.args .normal) [] (w.forCall tape i)))
    (contract : ∀ (W : World) (base : Nat) (args : Array Value) (ds gs : List (DataW H)) (before : List MemPlace),
      (∀ (j : Nat) t v, fn.params[j]? = some t → args[j]? = some v → Value.okWide C.prog W .any base t v) →
      DataW.Whole enc C.prog fn.params.toList s.vars apart W args.toList ds gs before →
      conds.all (PathCond.test C.prog ⟨fn.params.toList, ds, s.plain.varTypes C.prog, gs⟩) = true →
      (DataW.weightsEach C.prog (fn.params.toList ++ s.plain.varTypes C.prog) (ds ++ gs)).all (· ≤ reachBytes) = true → X W args →
      W.ShapedOpen C.prog →
      Calls C.prog f args W fun e W' => ∃ v, e = .returned v ∧ s.post enc C.prog fn apart fresh handsOn again W args v W') :
    ReturnsInHanded a C os f .any (fun w args => (s.pre enc C.prog fn conds apart w args ∧ X w args) ∧ sizedMet enc C.prog fn (OpenSpec.ofChange s) apart w args) (s.post enc C.prog fn apart fresh handsOn again) := by
  refine returnsInHanded_of_calls own started noInit witness ?_
  intro w tape i _ hsh _ hok hpre hholds
  obtain ⟨_, _, _, fn', hfn', _, _, _, _, hval⟩ := hok
  have e : fn' = fn := Option.some.inj (hfn'.symm.trans hfn)
  subst e
  obtain ⟨⟨⟨ds, gs, before, hw, hc⟩, hx⟩, hz⟩ := hpre
  have hw' := DataW.Whole.of_heap (w' := w.forCall tape i) (by rfl) hw
  refine (contract (w.forCall tape i) w.heap.size i.args ds gs before hval hw' hc (hz.weights hw) (hX _ _ _ (by rfl) hx) hsh).mono fun e W' ⟨v, he, hp⟩ => ?_
  subst he
  exact ChangeSpec.post_blind hp

section
variable {H : Type} {enc : TypeId × Value → H} {W : World} {base : Nat} {spare : Nat → Bool} {held : Bool}
set_option maxRecDepth 100000 in
theorem open_step {r : Reach} {b0 : Nat} {v : Value} {d : DataW H} {ps : List MemPlace} (hv : Value.okWide Tryz.prog W r b0 25 v) (h : DataW.Trod enc Tryz.prog W base spare held 25 v d ps) :
    ∃ (k f : Int) (body : ByteArray) (a n : Int), v = stepV k f body a n ∧ ps = [] ∧ d = .agg [.agg [.lit (.int .i64 k), .lit (.int .i64 f), .lit (.string body.data.toList)], .lit (.int .i64 a), .lit (.int .i64 n)] ∧ i64top a ∧ i64top n := by
  obtain ⟨cs, rfl, hsz⟩ := okWide_struct Tryz.underlying25 hv
  obtain ⟨l⟩ := cs
  have hC : Tryz.prog.cellsOf 25 = 5 := by kernel_rfl
  have hC3 : Tryz.prog.cellsOf 23 = 3 := by kernel_rfl
  have hCi : Tryz.prog.cellsOf 3 = 1 := by kernel_rfl
  have hCs : Tryz.prog.cellsOf 9 = 1 := by kernel_rfl
  match l, hsz.trans hC with
  | [c0, c1, c2, c3, c4], _ =>
    obtain ⟨fuel, hf⟩ := h
    obtain ⟨xs, m, _, hx, _, hlen, hg⟩ := DataW.trod_struct Tryz.underlying25 hf
    match xs, hlen with
    | [y0, y1, y2], _ =>
      have g0 := hg 0 _ rfl
      have g1 := hg 1 _ rfl
      have g2 := hg 2 _ rfl
      simp [Value.cells, hC3, hCi] at g0 g1 g2
      obtain ⟨zs, m2, _, hz, _, hlen2, hk⟩ := DataW.trod_struct Tryz.underlying23 g0
      match zs, hlen2 with
      | [z0, z1, z2], _ =>
        have k0 := hk 0 _ rfl
        have k1 := hk 1 _ rfl
        have k2 := hk 2 _ rfl
        simp [hCi, hCs] at k0 k1 k2
        obtain ⟨k, e0, f0, _⟩ := DataW.trod_int Tryz.underlying3 k0
        obtain ⟨f, e1, f1, _⟩ := DataW.trod_int Tryz.underlying3 k1
        obtain ⟨b, e2, f2, _⟩ := DataW.trod_string Tryz.underlying9 k2
        obtain ⟨a, e3, f3, wa⟩ := DataW.trod_int Tryz.underlying3 g1
        obtain ⟨n, e4, f4, wn⟩ := DataW.trod_int Tryz.underlying3 g2
        simp only [List.cons.injEq, and_true] at e0 e1 e2 e3 e4
        subst e0 e1 e2 e3 e4 f0 f1 f2 f3 f4
        simp only [List.map_cons, List.map_nil, List.flatMap_cons, List.flatMap_nil, List.append_nil] at hz
        subst hz
        simp only [List.map_cons, List.map_nil, List.flatMap_cons, List.flatMap_nil, List.append_nil, Prod.mk.injEq] at hx
        refine ⟨k, f, b, a, n, rfl, hx.2, hx.1, ?_, ?_⟩
        · have := (bounds_i64 wa).2; unfold i64top; omega
        · have := (bounds_i64 wn).2; unfold i64top; omega

set_option maxRecDepth 100000 in
theorem open_conf {r : Reach} {b0 : Nat} {v : Value} {d : DataW H} {ps : List MemPlace} (hv : Value.okWide Tryz.prog W r b0 27 v) (h : DataW.Trod enc Tryz.prog W base spare held 27 v d ps) :
    ∃ c : Cf, v = c.val := by
  obtain ⟨cs, rfl, hsz⟩ := okWide_struct Tryz.underlying27 hv
  obtain ⟨l⟩ := cs
  have hC : Tryz.prog.cellsOf 27 = 9 := by kernel_rfl
  have hCi : Tryz.prog.cellsOf 3 = 1 := by kernel_rfl
  match l, hsz.trans hC with
  | [c0, c1, c2, c3, c4, c5, c6, c7, c8], _ =>
    obtain ⟨fuel, hf⟩ := h
    obtain ⟨xs, m, _, hx, _, hlen, hg⟩ := DataW.trod_struct Tryz.underlying27 hf
    match xs, hlen with
    | [y0, y1, y2, y3, y4, y5, y6, y7, y8], _ =>
      have g0 := hg 0 _ rfl
      have g1 := hg 1 _ rfl
      have g2 := hg 2 _ rfl
      have g3 := hg 3 _ rfl
      have g4 := hg 4 _ rfl
      have g5 := hg 5 _ rfl
      have g6 := hg 6 _ rfl
      have g7 := hg 7 _ rfl
      have g8 := hg 8 _ rfl
      simp [Value.cells, hCi] at g0 g1 g2 g3 g4 g5 g6 g7 g8
      obtain ⟨a0, e0, _⟩ := DataW.trod_int Tryz.underlying3 g0
      obtain ⟨a1, e1, _⟩ := DataW.trod_int Tryz.underlying3 g1
      obtain ⟨a2, e2, _⟩ := DataW.trod_int Tryz.underlying3 g2
      obtain ⟨a3, e3, _⟩ := DataW.trod_int Tryz.underlying3 g3
      obtain ⟨a4, e4, _⟩ := DataW.trod_int Tryz.underlying3 g4
      obtain ⟨a5, e5, _⟩ := DataW.trod_int Tryz.underlying3 g5
      obtain ⟨a6, e6, _⟩ := DataW.trod_int Tryz.underlying3 g6
      obtain ⟨a7, e7, _⟩ := DataW.trod_int Tryz.underlying3 g7
      obtain ⟨a8, e8, _⟩ := DataW.trod_int Tryz.underlying3 g8
      simp only [List.cons.injEq, and_true] at e0 e1 e2 e3 e4 e5 e6 e7 e8
      subst e0 e1 e2 e3 e4 e5 e6 e7 e8
      exact ⟨⟨a0, a1, a2, a3, a4, a5, a6, a7, a8⟩, rfl⟩
end

theorem low_maxlen : 3 < Tryz.prog.globals.size := of_decide_eq_true (by kernel_rfl)
theorem maxl_of_shape {W : World} (h : W.ShapedOpen Tryz.prog) : MaxL W ∧ 3 < W.heap.size := by
  obtain ⟨m, hm⟩ := cell_of_shapedOpen_int (P := Tryz.prog) (g := 3) (t := 3) (zero := #[.int .i64 0]) (k := .i64) h low_maxlen (by kernel_rfl) rfl (by kernel_rfl) (by kernel_rfl) Tryz.underlying3
  refine ⟨⟨m, hm⟩, ?_⟩
  by_cases hlt : 3 < W.heap.size
  · exact hlt
  · have hn : W.heap[(3 : Nat)]? = none := Array.getElem?_eq_none (by omega)
    simp [World.cell?, hn] at hm
end Go.Proofs.YtfoihafhpmbaeaaGreatDoor
