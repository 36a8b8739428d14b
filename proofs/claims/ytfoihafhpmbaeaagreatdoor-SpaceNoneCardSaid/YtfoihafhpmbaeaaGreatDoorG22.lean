/- Names are found. -/
import Derived.Test.YtfoihafhpmbaeaaGreatDoorG20
import Derived.Test.YtfoihafhpmbaeaaGreatDoorG21
namespace Go.Proofs.YtfoihafhpmbaeaaGreatDoor
open Go.RowKit

/-- the first declaration of a name -/
def findD (l : List Dcl) (nm : ByteArray) : Option Nat := l.findIdx? (fun d => decide (d.name = nm))
/-- a table of names -/
def RTab (S : Blocks) (w : World) (l : List Dcl) (tb : Nat) : Prop :=
  S tb ∧ ∃ mb ka kc m, S mb ∧ Blk w tb [.map (some mb), .slice ka (l.map Dcl.kind).length kc] 374 ∧ MapIs Value.string w mb m ∧
    (∀ nm, mget m nm = (findD l nm).map (fun i => .int .i64 (i : Int))) ∧ RSl 1 RInt S w (l.map Dcl.kind) ka kc
theorem RTab.keep {S S' : Blocks} {w w' : World} {l : List Dcl} {tb : Nat} (h : RTab S w l tb) (hs : Same S w w') (hk : Sub S S') : RTab S' w' l tb := by
  obtain ⟨h1, mb, ka, kc, m, h2, h3, h4, h5, h6⟩ := h
  exact ⟨hk _ h1, mb, ka, kc, m, hk _ h2, h3.keep (hs _ h1), h4.keep (hs _ h2), h5, h6.keep hs hk (fun _ _ _ h => h)⟩
def findI (l : List Dcl) (nm : ByteArray) : Int := match findD l nm with
  | some i => i
  | none => 0
def hasD (l : List Dcl) (nm : ByteArray) : Bool := (findD l nm).isSome
def kindD (l : List Dcl) (nm : ByteArray) : Int := match findD l nm with
  | some i => (l.map Dcl.kind).getD i 0
  | none => 0

theorem zeroInt (w : World) : (zeroValue 3).run Tryz.prog w = .ok (.int .i64 0) w := by kernel_rfl

theorem Find_calls {S : Blocks} {l : List Dcl} {tb : Nat} {w : World} (h : RTab S w l tb) (nm : ByteArray) :
    Calls Tryz.prog 196 #[.pointer (some ⟨tb, 0, none⟩), .string nm] w fun e w' => e = .returned (.tuple #[.int .i64 (findI l nm), .bool (hasD l nm)]) ∧ w = w' := by
  obtain ⟨h1, mb, ka, kc, m, h2, h3, h4, h5, h6⟩ := h
  have c0 := h3.cell 0
  simp at c0
  have hl : ∀ W : World, W.heap = w.heap → (Instr.lookup 372 (.map (some mb)) (.string nm) true).run Tryz.prog W = .ok (.tuple #[.int .i64 (findI l nm), .bool (hasD l nm)]) W := fun W hW => by
    have h4' : MapIs Value.string W mb m := h4.keep (by rw [hW])
    have := h4'.look strKey Tryz.underlying372 Tryz.underlying9 (zeroInt W) nm true
    rw [this, h5]
    unfold findI hasD
    cases findD l nm <;> rfl
  have hl1 := hl w rfl
  clear hl
  go_enter Tryz.func196, Tryz.ntmps196
  go_wp2_with fail
  refine bodyPost_ret (v := .tuple #[.int .i64 (findI l nm), .bool (hasD l nm)]) (by simp [results, Tryz.results196, go_sem]) rfl ⟨rfl, rfl⟩

theorem findD_lt {l : List Dcl} {nm : ByteArray} {i : Nat} (h : findD l nm = some i) : i < l.length := by
  unfold findD at h
  rw [List.findIdx?_eq_some_iff_getElem] at h
  exact h.1

theorem Kind_calls {S : Blocks} {l : List Dcl} {tb : Nat} {w : World} (h : RTab S w l tb) (nm : ByteArray) :
    Calls Tryz.prog 199 #[.pointer (some ⟨tb, 0, none⟩), .string nm] w fun e w' => e = .returned (.int .i64 (kindD l nm)) ∧ w = w' := by
  have HF := Lib.hid (Find_calls h nm)
  obtain ⟨h1, mb, ka, kc, m, h2, h3, h4, h5, h6⟩ := h
  cases hf : findD l nm with
  | none =>
    have e1 : findI l nm = 0 := by unfold findI; rw [hf]
    have e2 : hasD l nm = false := by unfold hasD; rw [hf]; rfl
    have e3 : kindD l nm = 0 := by unfold kindD; rw [hf]
    rw [e1, e2] at HF
    rw [e3]
    go_enter Tryz.func199, Tryz.ntmps199
    go_wp2_with (go_at_call 196; refine HF.out.mono ?_; rintro e w' ⟨rfl, rfl⟩)
    go_ret
    exact ⟨rfl, rfl⟩
  | some i =>
    have hi := findD_lt hf
    have e1 : findI l nm = i := by unfold findI; rw [hf]
    have e2 : hasD l nm = true := by unfold hasD; rw [hf]; rfl
    have hik : i < (l.map Dcl.kind).length := by simpa using hi
    have e3 : kindD l nm = (l.map Dcl.kind)[i] := by unfold kindD; rw [hf]; simp [List.getD, hi]
    rw [e1, e2] at HF
    rw [e3]
    obtain ⟨b, off, cs, rfl, hSb, _, hcs, hr⟩ := RSl.at h6 hik
    obtain rfl : cs = _ := hr.1
    have g0 := hcs 0 (by simp)
    have c1 := h3.cell 1
    simp at g0 c1
    have hb : (l.map Dcl.kind).length ≤ 2147483647 := by
      rcases h6 with h | ⟨_, _, _, _, _, h, _⟩
      · rw [h.2.2]; simp
      · exact h
    simp only [List.length_map] at hb hik
    simp only [List.getElem_map]
    go_enter Tryz.func199, Tryz.ntmps199
    go_wp2_with (go_at_call 196; refine HF.out.mono ?_; rintro e w' ⟨rfl, rfl⟩)
    go_ret
    exact ⟨rfl, rfl⟩
end Go.Proofs.YtfoihafhpmbaeaaGreatDoor
