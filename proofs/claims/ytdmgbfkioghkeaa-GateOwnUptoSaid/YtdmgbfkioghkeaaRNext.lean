/-
  The document's gate, walked: Next.
-/
import Derived.Test.YtdmgbfkioghkeaaRAdmit
namespace Go.Proofs.Ytdmgbfkioghkeaa
open Go.RowKit Go.Ytdmgbfkioghkeaa Go.Ytdmgbfkioghkeaa.Gt Go.Ytdmgbfkioghkeaa.Reg

/-- The better one of the first k. -/
def bestOf (r : RGate) (k : Nat) : G := (r.inside.take k).foldl better ⟨0, r.stamp + 1, r.sweeper⟩
theorem bestOf_next {r : RGate} {k : Nat} {x : G} (hx : r.inside[k]? = some x) : bestOf r (k + 1) = better (bestOf r k) x := by
  unfold bestOf
  rw [List.take_add_one, hx]
  simp [List.foldl_append]

set_option maxRecDepth 100000 in
set_option maxHeartbeats 1000000 in
theorem rnext_any (b : Nat) (F : List Nat) (r : RGate) (w : World) (hg : RefAt w b F r) (hf : RFits r) :
    Rets Try.prog 53 #[.pointer (some ⟨b, 0, none⟩)] w fun u w' => u = .int .i64 r.next ∧ Tch [] w w' := by
  obtain ⟨vq, vi, hg, rfl⟩ := hg
  unfold Rets
  obtain ⟨c0, c1, c2, c3, c4, c5, c6, c7⟩ := ref_cells hg.blk
  have b1 := hf.stamp0
  have b2 := hf.stamp1
  have b3 := hf.inside
  obtain ⟨ai, ci, hvi⟩ := hg.i.slice
  subst hvi
  go_enter Try.func53, Try.ntmps53
  go_wp2
  go_loopw [3, 4, 5, 6] (fun vid vl vs j wr => ∃ k : Nat, k ≤ r.inside.length ∧ j = .int .i64 k ∧ vid = .int .i64 (bestOf r k).id ∧ vl = .int .i64 (bestOf r k).last ∧ vs = .int .i64 (bestOf r k).stamp ∧ Tch [] w wr) (fun _ _ _ j _ => r.inside.length - (intOf j).toNat)
  case atStart => exact ⟨0, Nat.zero_le _, rfl, rfl, rfl, rfl, Tch.refl _ _⟩
  case round =>
    obtain ⟨k, hk, rfl, rfl, rfl, rfl, hT⟩ := hrel
    have hw := hg.kept hT (by simp)
    obtain ⟨e0, e1, e2, e3, e4, e5, e6, e7⟩ := ref_cells hw.blk
    by_cases hlt : k < r.inside.length
    · obtain ⟨x, hx⟩ : ∃ x, r.inside[k]? = some x := ⟨_, List.getElem?_eq_getElem hlt⟩
      rcases hg.i.form with ⟨_, h0⟩ | ⟨g, cap', hv, _⟩
      · rw [h0] at hlt; simp at hlt
      cases hv
      obtain ⟨k0, k1, k2⟩ := one_cells hw.i hx
      have hT2 := hT.alloc (.cells #[.int .i64 x.id, .int .i64 x.stamp, .int .i64 x.last] 88)
      have HB := Lib.hid (bestOf_next hx)
      generalize hbest : bestOf r k = a at *
      clear hbest hx
      by_cases q1 : x.last < a.last
      · have HX := Lib.hid (show better a x = x from by unfold better; rw [if_pos (Or.inl q1)])
        have d1 : decide (x.last < a.last) = true := by simpa using q1
        go_wp2
        go_roundw
        case rel => exact ⟨k + 1, by omega, by go_num, by rw [HB.out, HX.out], by rw [HB.out, HX.out], by rw [HB.out, HX.out], hT2⟩
        case measure => simp [intOf]; omega
      · have d1 : decide (x.last < a.last) = false := by simpa using q1
        by_cases q2 : x.last = a.last
        · have d2 : (x.last == a.last) = true := by simpa using q2
          by_cases q3 : x.stamp < a.stamp
          · have HX := Lib.hid (show better a x = x from by unfold better; rw [if_pos (Or.inr ⟨q2, q3⟩)])
            have d3 : decide (x.stamp < a.stamp) = true := by simpa using q3
            clear q2
            go_wp2
            go_roundw
            case rel => exact ⟨k + 1, by omega, by go_num, by rw [HB.out, HX.out], by rw [HB.out, HX.out], by rw [HB.out, HX.out], hT2⟩
            case measure => simp [intOf]; omega
          · have HX := Lib.hid (show better a x = a from by unfold better; rw [if_neg (by omega)])
            have d3 : decide (x.stamp < a.stamp) = false := by simpa using q3
            clear q2
            go_wp2
            go_roundw
            case rel => exact ⟨k + 1, by omega, by go_num, by rw [HB.out, HX.out], by rw [HB.out, HX.out], by rw [HB.out, HX.out], hT2⟩
            case measure => simp [intOf]; omega
        · have d2 : (x.last == a.last) = false := by simpa using q2
          have HX := Lib.hid (show better a x = a from by unfold better; rw [if_neg (by omega)])
          clear q2
          go_wp2
          go_roundw
          case rel => exact ⟨k + 1, by omega, by go_num, by rw [HB.out, HX.out], by rw [HB.out, HX.out], by rw [HB.out, HX.out], hT2⟩
          case measure => simp [intOf]; omega
    · obtain rfl : k = r.inside.length := by omega
      have HL := Lib.hid (show (bestOf r r.inside.length).id = r.next from by unfold bestOf RGate.next RGate.best; rw [List.take_of_length_le (Nat.le_refl _)])
      go_wp2
      go_ret
      exact ⟨_, rfl, by rw [← HL.out]; rfl, hT⟩
end Go.Proofs.Ytdmgbfkioghkeaa
