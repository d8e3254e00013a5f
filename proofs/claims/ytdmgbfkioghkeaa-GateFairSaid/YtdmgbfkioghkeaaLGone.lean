/-
  The law's gone, walked: the list without one number.
-/
import Derived.Test.YtdmgbfkioghkeaaLDo
namespace Go.Proofs.Ytdmgbfkioghkeaa
open Go.RowKit Go.Ytdmgbfkioghkeaa Go.Ytdmgbfkioghkeaa.Gt Go.Ytdmgbfkioghkeaa.Reg

def TurnK : Kind (Int × Int) := ⟨44, 2, fun t => [.int .i64 t.1, .int .i64 t.2], fun _ => rfl, by decide, fun x u hu => by simp at hu; rcases hu with rfl | rfl <;> rfl⟩
theorem turnAt : KindAt Try.prog 45 TurnK 16 := KindAt.mk' (by kernel_rfl) (by kernel_rfl)

theorem turn_cells {w : World} {g n cap k : Nat} {xs : List (Int × Int)} {x : Int × Int} (h : Tab TurnK w (.slice (some ⟨g, 0, none⟩) n cap) xs) (hx : xs[k]? = some x) :
    w.cell? ⟨g, k * 2, none⟩ = some (.int .i64 x.1) ∧ w.cell? ⟨g, k * 2 + 1, none⟩ = some (.int .i64 x.2) := ⟨h.cell (f := 0) hx rfl, h.cell (f := 1) hx rfl⟩

def others (xs : List (Int × Int)) (id : Int) : List (Int × Int) := xs.filter fun t => decide (t.1 ≠ id)
theorem others_next {xs : List (Int × Int)} {id : Int} {k : Nat} {x : Int × Int} (hx : xs[k]? = some x) : others (xs.take (k + 1)) id = others (xs.take k) id ++ (if x.1 = id then [] else [x]) := by
  unfold others
  rw [List.take_add_one, hx, List.filter_append]
  by_cases h : x.1 = id <;> simp [h]
theorem others_len (xs : List (Int × Int)) (id : Int) (k : Nat) : (others (xs.take k) id).length ≤ k := by
  unfold others
  have h1 := List.length_filter_le (fun t : Int × Int => decide (t.1 ≠ id)) (xs.take k)
  have : (xs.take k).length ≤ k := by simp; omega
  omega

set_option maxRecDepth 100000 in
theorem gone_any (v : Value) (xs : List (Int × Int)) (id : Int) (w : World) (ht : Tab TurnK w v xs) (hmax : xs.length ≤ 1000) :
    Rets Try.prog 27 #[v, .int .i64 id] w fun u w' => NewList TurnK w (others xs id) u w' := by
  unfold Rets
  obtain ⟨ad, cap, rfl⟩ := ht.slice
  go_enter Try.func27, Try.ntmps27
  go_wp2
  go_loopw [5, 6] (fun vo j wr => ∃ k : Nat, k ≤ xs.length ∧ j = .int .i64 k ∧ NewList TurnK w (others (xs.take k) id) vo wr) (fun _ j _ => xs.length - (intOf j).toNat)
  case atStart => exact ⟨0, Nat.zero_le _, rfl, Tab.nil _ _, Tch.refl _ _, by simp [Value.ownBlock]⟩
  case round =>
    obtain ⟨k, hk, rfl, hn⟩ := hrel
    have htw := ht.touch hn.2.1 (by simp)
    obtain ⟨ao, co, hvo⟩ := hn.1.slice
    subst hvo
    by_cases hlt : k < xs.length
    · obtain ⟨x, hx⟩ : ∃ x, xs[k]? = some x := ⟨_, List.getElem?_eq_getElem hlt⟩
      rcases ht.form with ⟨_, h0⟩ | ⟨g, cap', hv, _⟩
      · rw [h0] at hlt; simp at hlt
      cases hv
      obtain ⟨c0, c1⟩ := turn_cells htw hx
      have hol := others_len xs id k
      by_cases hki : x.1 = id
      · have HL := Lib.hid (show others (xs.take (k + 1)) id = others (xs.take k) id by rw [others_next hx, if_pos hki]; simp)
        have hb : (x.1 != id) = false := by simpa using hki
        clear hki hx
        go_wp2
        go_roundw
        case rel => exact ⟨k + 1, by omega, by go_num, by rw [HL.out]; exact hn⟩
        case measure => simp [intOf]; omega
      · have HL := Lib.hid (show others (xs.take (k + 1)) id = others (xs.take k) id ++ [x] by rw [others_next hx, if_neg hki])
        have hb : (x.1 != id) = true := by simpa using hki
        clear hki hx
        generalize others (xs.take k) id = ys at *
        go_wp2_with (at_builtin; refine wpList_append_tab (v := .slice ao ys.length co) turnAt rfl _ _ rfl rfl (hn.1.alloc _) _ _ _ [x] rfl rfl (by exact news_one TurnK x (Blk.last _ _ _ rfl)) (by simp [maxLen]; omega) (by simp; omega) ?_; intro v' w1 ht1 hg1 hfr1)
        go_roundw
        case rel => exact ⟨k + 1, by omega, by go_num, by rw [HL.out]; exact newList_append hn ((Tch.refl [] wr).alloc _) ht1 hg1 hfr1⟩
        case measure => simp [intOf]; omega
    · obtain rfl : k = xs.length := by omega
      have HL := Lib.hid (show others (xs.take xs.length) id = others xs id from by rw [List.take_of_length_le (Nat.le_refl _)])
      go_wp2
      go_ret
      exact ⟨_, rfl, by rw [← HL.out]; exact hn⟩
end Go.Proofs.Ytdmgbfkioghkeaa
