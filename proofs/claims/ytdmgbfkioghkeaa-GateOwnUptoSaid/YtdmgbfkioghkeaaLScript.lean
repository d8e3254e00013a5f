/-
  A script that comes in as an argument, as the walk reads it; no condition.
-/
import Derived.Test.YtdmgbfkioghkeaaLPost
import Derived.Test.YtdmgbfkioghkeaaPStep
import Derived.Lib.SmallJoins
import Derived.Deep.Slices
import Derived.Deep.Strs
import Derived.SizedLaws
import Derived.ChangeBears2
namespace Go.Proofs.Ytdmgbfkioghkeaa
open Go.ChangeShapes Go.WideShapes Go.ChangeAt Go.RowKit Go.Ytdmgbfkioghkeaa Go.Ytdmgbfkioghkeaa.Gt

/-- v is a script that reads as os. -/
def Script (w : World) (v : Value) (os : List Deed) : Prop :=
  ∃ a cap, v = .slice a os.length cap ∧ os.length ≤ 10000000000000 ∧ ∀ (i : Nat) (o : Deed), os[i]? = some o → ∃ b off, a = some ⟨b, off, none⟩ ∧
    w.cell? ⟨b, off + i * 3, none⟩ = some (.int .i64 o.kind) ∧ w.cell? ⟨b, off + (i * 3 + 1), none⟩ = some (.int .i64 o.id) ∧ w.cell? ⟨b, off + (i * 3 + 2), none⟩ = some (.bool o.yes)

theorem cellKept {w w' : World} (hT : Tch [] w w') {p : Addr} {v : Value} (h : w.cell? p = some v) : w'.cell? p = some v := (hT.cell (World.block_lt_of_cell? _ _ h) (by simp)).trans h

theorem Script.kept {w w' : World} {v : Value} {os : List Deed} (h : Script w v os) (hT : Tch [] w w') : Script w' v os := by
  obtain ⟨a, cap, rfl, hl, hc⟩ := h
  refine ⟨a, cap, rfl, hl, fun i o ho => ?_⟩
  obtain ⟨b, off, rfl, h0, h1, h2⟩ := hc i o ho
  exact ⟨b, off, rfl, cellKept hT h0, cellKept hT h1, cellKept hT h2⟩

theorem plain_of_cell {w : World} {a : Addr} {n : Nat} {v : Value} (h : w.cell? (a.add n) = some v) (h0 : n = 0 ∨ a.spot = none) : a.add n = ⟨a.block, a.off + n, none⟩ := by
  obtain ⟨b, off, spot⟩ := a
  unfold Addr.add at h ⊢
  split
  · rename_i hn
    subst hn
    simp only [if_true] at h
    have := World.cell?_spot h
    simp only at this
    subst this
    rfl
  · rfl

set_option maxRecDepth 100000 in
theorem script_of {H : Type} {enc : TypeId × Value → H} {W : World} {v : Value} {d : DataW H} {p : List MemPlace} {base : Nat} {ts : List TypeId} {ds : List (DataW H)} {j : Nat}
    (hok : Value.okWide Try.prog W .any base 36 v) (h : DataW.Trod enc Try.prog W 0 (fun _ => true) true 36 v d p)
    (hsz : (DataW.weightsEach Try.prog ts ds).all (· ≤ reachBytes) = true) (htj : ts[j]? = some 36) (hdj : ds[j]? = some d) : ∃ os, Script W v os := by
  obtain ⟨a0, len, cap, rfl⟩ := okWide_slice Try.underlying36 hok
  obtain ⟨fuel, hf⟩ := h
  rcases Go.Deep.open_slice Try.underlying36 hf with ⟨hcs, _⟩ | ⟨a, len', cap', m, n, D, Pl, hcs, _, hlc, _, hm, hx, hel⟩
  · simp [Value.cells] at hcs
    obtain ⟨rfl, rfl, rfl⟩ := hcs
    exact ⟨[], none, 0, rfl, by simp, by simp⟩
  · simp [Value.cells] at hcs
    obtain ⟨rfl, rfl, rfl⟩ := hcs
    simp only [Prod.mk.injEq] at hx
    obtain ⟨hd, _⟩ := hx
    have hlen : len * 24 ≤ 140737488351232 := by
      have := sized_slice hsz htj (by rw [hdj, hd]) Try.underlying36
      simp only [List.length_map, List.length_range] at this
      have hb : Try.prog.bytesOf 40 = 24 := by kernel_rfl
      rw [hb] at this
      simp only [reachBytes] at this
      omega
    have hc40 : Try.prog.cellsOf 40 = 3 := by kernel_rfl
    have hspot : 0 < len → a.spot = none := fun h0 => by
      obtain ⟨cs', hcs', _⟩ := hel 0 (by rw [hm]; simp; omega)
      rw [hc40] at hcs'
      obtain ⟨_, hl3, hget⟩ := World.cells?_some hcs'
      have q0 := hget 0 (by omega)
      rw [List.getElem?_eq_getElem (by omega)] at q0
      have := World.cell?_spot q0
      simpa [Addr.add] using this
    have hone : ∀ i, i < len → ∃ o : Deed, W.cell? ⟨a.block, a.off + i * 3, none⟩ = some (.int .i64 o.kind) ∧ W.cell? ⟨a.block, a.off + (i * 3 + 1), none⟩ = some (.int .i64 o.id) ∧ W.cell? ⟨a.block, a.off + (i * 3 + 2), none⟩ = some (.bool o.yes) := by
      intro i hi
      have hsp := hspot (by omega)
      obtain ⟨cs', hcs', htr⟩ := hel i (by rw [hm]; simp; omega)
      rw [hc40] at hcs'
      obtain ⟨_, hl3, hget⟩ := World.cells?_some hcs'
      obtain ⟨b, off, spot⟩ := a
      simp only at hsp
      subst hsp
      obtain ⟨y0, y1, y2, n', _, _, t0, t1, t2⟩ := Go.Deep.trod_struct3 Try.underlying40 htr
      match cs', hl3 with
      | [c0, c1, c2], _ =>
        have q0 := hget 0 (by omega)
        have q1 := hget 1 (by omega)
        have q2 := hget 2 (by omega)
        change DataW.trod enc Try.prog W 0 (fun _ => true) true n' 3 (([c0, c1, c2].drop 0).take (Try.prog.cellsOf 3)) = _ at t0
        change DataW.trod enc Try.prog W 0 (fun _ => true) true n' 3 (([c0, c1, c2].drop 1).take (Try.prog.cellsOf 3)) = _ at t1
        change DataW.trod enc Try.prog W 0 (fun _ => true) true n' 4 (([c0, c1, c2].drop 2).take (Try.prog.cellsOf 4)) = _ at t2
        rw [show Try.prog.cellsOf 3 = 1 from by kernel_rfl] at t0 t1
        rw [show Try.prog.cellsOf 4 = 1 from by kernel_rfl] at t2
        obtain ⟨kd, e0, _, _⟩ := DataW.trod_int Try.underlying3 t0
        obtain ⟨id, e1, _, _⟩ := DataW.trod_int Try.underlying3 t1
        obtain ⟨yes, e2, _⟩ := DataW.trod_bool Try.underlying4 t2
        simp at e0 e1 e2
        subst e0
        subst e1
        subst e2
        rw [Go.Deep.add_add, add_plain] at q0 q1 q2
        exact ⟨⟨kd, id, yes⟩, q0, q1, q2⟩
    obtain ⟨f, hfi⟩ := Go.Deep.choose_lt hone
    refine ⟨(List.range len).map f, some a, cap, by simp, by simp; omega, fun i o ho => ?_⟩
    have hi : i < len := by simpa using (List.getElem?_eq_some_iff.1 ho).1
    simp only [List.getElem?_map, List.getElem?_range hi, Option.map_some, Option.some.injEq] at ho
    subst ho
    have hsp := hspot (by omega)
    refine ⟨a.block, a.off, ?_, (hfi i hi).1, (hfi i hi).2.1, (hfi i hi).2.2⟩
    obtain ⟨b, off, spot⟩ := a
    simp only at hsp
    rw [hsp]
end Go.Proofs.Ytdmgbfkioghkeaa
