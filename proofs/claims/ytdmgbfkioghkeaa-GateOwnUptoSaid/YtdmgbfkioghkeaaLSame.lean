/-
  The law's own comparisons, walked: same and stat answer true where the lists and the numbers are the same.
-/
import Derived.Test.YtdmgbfkioghkeaaRNext
import Derived.Test.YtdmgbfkioghkeaaGStat
import Derived.Deep.RegionHeld3
namespace Go.Proofs.Ytdmgbfkioghkeaa
open Go.RowKit Go.Ytdmgbfkioghkeaa Go.Ytdmgbfkioghkeaa.Gt Go.Ytdmgbfkioghkeaa.Reg

theorem cell_kept {w w' : World} (hT : Tch [] w w') {p : Addr} {v : Value} (h : w.cell? p = some v) : w'.cell? p = some v := (hT.cell (World.block_lt_of_cell? _ _ h) (by simp)).trans h

set_option maxRecDepth 100000 in
theorem same_true (va vb : Value) (xs : List Int) (w : World) (ha : Tab IntK w va xs) (hb : Tab IntK w vb xs) :
    Rets Try.prog 29 #[va, vb] w fun u w' => u = .bool true ∧ Tch [] w w' := by
  unfold Rets
  have hmax : xs.length ≤ 9223372036854775807 := ha.lenMax
  obtain ⟨aa, ca, rfl⟩ := ha.slice
  obtain ⟨ab, cb, rfl⟩ := hb.slice
  have d0 : ((xs.length : Int) != (xs.length : Int)) = false := by simp
  go_enter Try.func29, Try.ntmps29
  go_wp2
  go_loopw [5] (fun j wr => ∃ k : Nat, k ≤ xs.length ∧ j = .int .i64 k ∧ Tch [] w wr) (fun j _ => xs.length - (intOf j).toNat)
  case atStart => exact ⟨0, Nat.zero_le _, rfl, Tch.refl _ _⟩
  case round =>
    obtain ⟨k, hk, rfl, hT⟩ := hrel
    have ha' := ha.touch hT (by simp)
    have hb' := hb.touch hT (by simp)
    by_cases hlt : k < xs.length
    · obtain ⟨x, hx⟩ : ∃ x, xs[k]? = some x := ⟨_, List.getElem?_eq_getElem hlt⟩
      rcases ha'.form with ⟨_, h0⟩ | ⟨g, cap', hv, _⟩
      · rw [h0] at hlt; simp at hlt
      rcases hb'.form with ⟨_, h0⟩ | ⟨g2, cap2, hv2, _⟩
      · rw [h0] at hlt; simp at hlt
      cases hv
      cases hv2
      have k0 : wr.cell? ⟨g, k, none⟩ = some (.int .i64 x) := by have := ha'.cell (f := 0) hx rfl; simpa [IntK] using this
      have k1 : wr.cell? ⟨g2, k, none⟩ = some (.int .i64 x) := by have := hb'.cell (f := 0) hx rfl; simpa [IntK] using this
      have dx : (x != x) = false := by simp
      clear hx
      go_wp2
      refine wp_region_text (by kernel_rfl) (by kernel_rfl) ?_
      go_wp2
      refine ⟨by kernel_rfl, ?_⟩
      go_wp2
      go_roundw
      case rel => exact ⟨k + 1, by omega, by go_num, hT.drew⟩
      case measure => simp [intOf]; omega
    · go_wp2
      go_ret
      exact ⟨_, rfl, rfl, hT⟩

set_option maxRecDepth 100000 in
set_option maxHeartbeats 1000000 in
theorem stat_true (s : Gate) (vI vQ : Value) (br : Nat) (Fr : List Nat) (r : RGate) (w : World) (hI : Tab IntK w vI s.inside) (hQ : Tab IntK w vQ (s.queue.map (·.id))) (hr : RefAt w br Fr r) (hf : RFits r)
    (h1 : s.logged = r.logged) (h2 : s.units = r.units) (h3 : s.most = r.most) (h4 : s.inside = r.inside.map (·.id)) (h5 : s.queue.map (·.id) = r.queue.map (·.id)) :
    Rets Try.prog 18 #[.agg (statCells s vI vQ), .pointer (some ⟨br, 0, none⟩)] w fun u w' => u = .bool true ∧ Tch [] w w' := by
  obtain ⟨vq, vi, hr, rfl⟩ := hr
  unfold Rets
  have fi := hf.inside
  have fq := hf.queue
  rw [h4] at hI
  rw [h5] at hQ
  obtain ⟨aI, cI, hvI⟩ := hI.slice
  obtain ⟨aQ, cQ, hvQ⟩ := hQ.slice
  obtain ⟨aq, cq, hvq⟩ := hr.q.slice
  obtain ⟨ai, ci, hvi⟩ := hr.i.slice
  subst hvI
  subst hvQ
  subst hvq
  subst hvi
  rw [List.length_map] at hI hQ
  simp only [List.length_map]
  unfold statCells
  rw [h1, h2, h3]
  have hr1 := hr.alloc (.cells #[.slice aI r.inside.length cI, .slice aQ r.queue.length cQ, .int .i64 r.logged, .int .i64 r.units, .int .i64 r.most] 33)
  have hI1 := hI.alloc (.cells #[.slice aI r.inside.length cI, .slice aQ r.queue.length cQ, .int .i64 r.logged, .int .i64 r.units, .int .i64 r.most] 33)
  have hQ1 := hQ.alloc (.cells #[.slice aI r.inside.length cI, .slice aQ r.queue.length cQ, .int .i64 r.logged, .int .i64 r.units, .int .i64 r.most] 33)
  have hbox := Blk.new w #[.slice aI r.inside.length cI, .slice aQ r.queue.length cQ, .int .i64 r.logged, .int .i64 r.units, .int .i64 r.most] 33
  have hT1 := (Tch.refl [] w).alloc (.cells #[.slice aI r.inside.length cI, .slice aQ r.queue.length cQ, .int .i64 r.logged, .int .i64 r.units, .int .i64 r.most] 33)
  have dl : (r.logged != r.logged) = false := by simp
  have du : (r.units != r.units) = false := by simp
  have dm : (r.most != r.most) = false := by simp
  go_enter Try.func18, Try.ntmps18
  go_wp2
  generalize w.heap.size = n0 at *
  generalize w.alloc (.cells #[.slice aI r.inside.length cI, .slice aQ r.queue.length cQ, .int .i64 r.logged, .int .i64 r.units, .int .i64 r.most] 33) = w1 at *
  obtain ⟨e0, e1, e2, e3, e4, e5, e6, e7⟩ := ref_cells hr1.blk
  have k0 : w1.cell? ⟨n0, 0, none⟩ = some (.slice aI r.inside.length cI) := hbox.cell 0
  have k1 : w1.cell? ⟨n0, 1, none⟩ = some (.slice aQ r.queue.length cQ) := hbox.cell 1
  have k2 : w1.cell? ⟨n0, 2, none⟩ = some (.int .i64 r.logged) := hbox.cell 2
  have k3 : w1.cell? ⟨n0, 3, none⟩ = some (.int .i64 r.units) := hbox.cell 3
  have k4 : w1.cell? ⟨n0, 4, none⟩ = some (.int .i64 r.most) := hbox.cell 4
  refine wp_region_text (by kernel_rfl) (by kernel_rfl) ?_
  go_wp2
  refine ⟨by kernel_rfl, ?_⟩
  go_wp2
  have hS0 : w1.drew.drew.cell? ⟨n0, 0, none⟩ = some (.slice aI r.inside.length cI) ∧ w1.drew.drew.cell? ⟨n0, 1, none⟩ = some (.slice aQ r.queue.length cQ) ∧ w1.drew.drew.cell? ⟨br, 6, none⟩ = some (.slice aq r.queue.length cq) ∧ w1.drew.drew.cell? ⟨br, 7, none⟩ = some (.slice ai r.inside.length ci) := ⟨k0, k1, e6, e7⟩
  clear e0 e1 e2 e3 e4 e5 e6 e7 k0 k1 k2 k3 k4 dl du dm
  have hT2 := hT1.drew.drew
  have hi2 := hr1.i.drew.drew
  have hq2 := hr1.q.drew.drew
  have hI2 := hI1.drew.drew
  have hQ2 := hQ1.drew.drew
  clear hT1 hr1 hI1 hQ1 hbox
  go_region_held3 (fun w' => w'.cell? ⟨n0, 0, none⟩ = some (.slice aI r.inside.length cI) ∧ w'.cell? ⟨n0, 1, none⟩ = some (.slice aQ r.queue.length cQ) ∧ w'.cell? ⟨br, 6, none⟩ = some (.slice aq r.queue.length cq) ∧ w'.cell? ⟨br, 7, none⟩ = some (.slice ai r.inside.length ci))
    (first | exact hS4 | exact hS3 | exact hS2 | exact hS1 | exact hS0)
    (first
      | (go_at_call 35; first
        | (refine (ids_any _ r.queue _ hq4 (by omega)).use ?_; rintro u5 w5 hn5; have hU3 := hn5.2.1; have hS3 : w5.cell? ⟨n0, 0, none⟩ = some (.slice aI r.inside.length cI) ∧ w5.cell? ⟨n0, 1, none⟩ = some (.slice aQ r.queue.length cQ) ∧ w5.cell? ⟨br, 6, none⟩ = some (.slice aq r.queue.length cq) ∧ w5.cell? ⟨br, 7, none⟩ = some (.slice ai r.inside.length ci) := ⟨cell_kept hU3 hS2.1, cell_kept hU3 hS2.2.1, cell_kept hU3 hS2.2.2.1, cell_kept hU3 hS2.2.2.2⟩; have hQ5 := hQ4.touch hU3 (by simp))
        | (refine (ids_any _ r.inside _ hi2 (by omega)).use ?_; rintro u3 w3 hn3; have hU1 := hn3.2.1; have hS1 : w3.cell? ⟨n0, 0, none⟩ = some (.slice aI r.inside.length cI) ∧ w3.cell? ⟨n0, 1, none⟩ = some (.slice aQ r.queue.length cQ) ∧ w3.cell? ⟨br, 6, none⟩ = some (.slice aq r.queue.length cq) ∧ w3.cell? ⟨br, 7, none⟩ = some (.slice ai r.inside.length ci) := ⟨cell_kept hU1 hS0.1, cell_kept hU1 hS0.2.1, cell_kept hU1 hS0.2.2.1, cell_kept hU1 hS0.2.2.2⟩; have hI3 := hI2.touch hU1 (by simp); have hQ3 := hQ2.touch hU1 (by simp); have hq3 := hq2.touch hU1 (by simp)))
      | (go_at_call 29; first
        | (refine (same_true _ _ _ _ hQ5 hn5.1).use ?_; rintro _ w6 ⟨rfl, hU4⟩; have hS4 : w6.cell? ⟨n0, 0, none⟩ = some (.slice aI r.inside.length cI) ∧ w6.cell? ⟨n0, 1, none⟩ = some (.slice aQ r.queue.length cQ) ∧ w6.cell? ⟨br, 6, none⟩ = some (.slice aq r.queue.length cq) ∧ w6.cell? ⟨br, 7, none⟩ = some (.slice ai r.inside.length ci) := ⟨cell_kept hU4 hS3.1, cell_kept hU4 hS3.2.1, cell_kept hU4 hS3.2.2.1, cell_kept hU4 hS3.2.2.2⟩)
        | (refine (same_true _ _ _ _ hI3 hn3.1).use ?_; rintro _ w4 ⟨rfl, hU2⟩; have hS2 : w4.cell? ⟨n0, 0, none⟩ = some (.slice aI r.inside.length cI) ∧ w4.cell? ⟨n0, 1, none⟩ = some (.slice aQ r.queue.length cQ) ∧ w4.cell? ⟨br, 6, none⟩ = some (.slice aq r.queue.length cq) ∧ w4.cell? ⟨br, 7, none⟩ = some (.slice ai r.inside.length ci) := ⟨cell_kept hU2 hS1.1, cell_kept hU2 hS1.2.1, cell_kept hU2 hS1.2.2.1, cell_kept hU2 hS1.2.2.2⟩; have hQ4 := hQ3.touch hU2 (by simp); have hq4 := hq3.touch hU2 (by simp))))
  all_goals go_wp2
  all_goals go_ret
  exact ⟨_, rfl, rfl, (((hT2.trans hU1 (by simp)).trans hU2 (by simp)).trans hU3 (by simp)).trans hU4 (by simp)⟩
end Go.Proofs.Ytdmgbfkioghkeaa
