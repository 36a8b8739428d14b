/- The law's row. -/
import Derived.Test.YtfoihafhpmbaeaaGreatDoorG31
import Derived.Test.YtfoihafhpmbaeaaGreatDoorRows
namespace Go.Proofs.YtfoihafhpmbaeaaGreatDoor
open Go.ChangeShapes Go.WideShapes Go.ChangeAt Go.RowKit

theorem row_own : ownKnob Tryz.prog.godebug = none := by kernel_rfl
theorem row_laidOut : laidOutB Tryz.prog = true := by kernel_rfl

theorem body_reach {H : Type} {k f a n : Int} {body : ByteArray} {d1 : DataW H}
    (hz : (DataW.weightsEach Tryz.prog [25, 27] [.agg [.agg [.lit (.int .i64 k), .lit (.int .i64 f), .lit (.string body.data.toList)], .lit (.int .i64 a), .lit (.int .i64 n)], d1]).all (· ≤ reachBytes) = true) : body.size ≤ 140737488355328 := by
  have h := List.all_eq_true.1 hz body.data.toList.length (by
    simp [DataW.weightsEach, DataW.weights, Tryz.underlying25, Tryz.underlying23])
  have h2 : body.data.toList.length ≤ reachBytes := by simpa using h
  have h3 := reachBytes_lt
  have h4 : body.size = body.data.toList.length := by
    obtain ⟨⟨l⟩⟩ := body
    rfl
  omega

set_option maxRecDepth 100000 in
theorem spaceNone_lifted (os : Os) (started : os.Started) (H : Type) (enc : TypeId × Value → H) :
    ReturnsInHanded {} Tryz.checked os 3 .any (fun w args => (Rows.spaceNoneSpec.pre enc Tryz.prog Tryz.f3 [] false w args ∧ laidMetH Tryz.prog Rows.spaceNoneRow.laid w) ∧ sizedMet enc Tryz.prog Tryz.f3 (OpenSpec.ofChange Rows.spaceNoneSpec) false w args)
      (Rows.spaceNoneSpec.post enc Tryz.prog Tryz.f3 false true false false) := by
  refine handed_and_shaped (C := Tryz.checked) (X := fun w _ => laidMetH Tryz.prog Rows.spaceNoneRow.laid w) (fun _ _ _ hh h => h.of_heap hh) row_own started (by kernel_rfl) Tryz.func3
    (ChangeSpec.witness_shaped (enc := enc) (C := Tryz.checked) (os := os) (X := fun w _ => laidMetH Tryz.prog Rows.spaceNoneRow.laid w) false (World.laidAll Tryz.prog os Rows.spaceNoneRow.laid) #[stepV 0 0 ⟨#[]⟩ 0 0, zCf.val] 8 (World.laidAll_os _ _ _)
      (World.shaped_of_ZipB (by kernel_rfl) (by kernel_rfl)) (by kernel_rfl) (by kernel_rfl) (by kernel_rfl)
      (by rw [MakeChecks.laidMetH_plain _ _ _ (by kernel_rfl)]; exact laidMet_laidAll _ (by kernel_rfl) (by kernel_rfl))) ?_
  intro W base args ds gs before hval0 hW hc hsz hL hsh
  have hval : ∀ (j : Nat) t v, Tryz.f3.params[j]? = some t → args[j]? = some v → Value.okWide Tryz.prog W .any base t v := hval0
  have hW' := hW
  obtain ⟨p, q, hA0, hV, rfl, _, _⟩ := hW
  have hA : DataW.TrodAll enc Tryz.prog W 0 (fun _ => true) true Tryz.f3.params.toList args.toList ds p := hA0
  rw [Tryz.params3] at hA hval
  obtain ⟨v0, v1, d0, d1, p0, p1, rfl, rfl, rfl, h0, h1⟩ := trodAll_two hA
  obtain ⟨rfl, rfl⟩ := trodVars_none hV
  have hb0 := fun W' => Below.trod (W' := W') row_laidOut (by kernel_rfl) (of_decide_eq_true (by kernel_rfl)) h0
  have hb1 := fun W' => Below.trod (W' := W') row_laidOut (by kernel_rfl) (of_decide_eq_true (by kernel_rfl)) h1
  obtain ⟨k, f, body, a, n, rfl, _, hd, ha, hn⟩ := open_step (hval 0 25 v0 rfl rfl) h0
  obtain ⟨c, rfl⟩ := open_conf (hval 1 27 v1 rfl rfl) h1
  have hbody : body.size ≤ 140737488355328 := body_reach (k := k) (f := f) (a := a) (n := n) (d1 := d1) (by rw [← hd]; exact hsz)
  obtain ⟨hml, hlow⟩ := maxl_of_shape hsh
  refine (law_calls W k f body a n c hml hlow hbody ha hn).mono fun e W' ⟨he, hB⟩ => ?_
  subst he
  have lt0 : ∀ x ∈ p0, x.block < W.heap.size := fun x hx => hW'.lt x (by simp [hx])
  have lt1 : ∀ x ∈ p1, x.block < W.heap.size := fun x hx => hW'.lt x (by simp [hx])
  refine ⟨_, rfl, _, _, _, [], p0 ++ p1, [], hW', ?_, ?_, rfl, hB.frame _, fun h => by cases h⟩
  · exact trodAll_mk1 (shut_bool Tryz.underlying4 true)
  · exact trodAll_mk2 (hb0 _ hB lt0) (hb1 _ hB lt1)

end Go.Proofs.YtfoihafhpmbaeaaGreatDoor
