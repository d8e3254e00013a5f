/-
  The document's gate, walked: at, without, Ids.
-/
import Derived.Test.YtdmgbfkioghkeaaGSlices
namespace Go.Proofs.Ytdmgbfkioghkeaa
open Go.RowKit Go.Ytdmgbfkioghkeaa Go.Ytdmgbfkioghkeaa.Gt Go.Ytdmgbfkioghkeaa.Reg

def OneK : Kind G := ⟨88, 3, fun g => [.int .i64 g.id, .int .i64 g.stamp, .int .i64 g.last], fun _ => rfl, by decide, fun x u hu => by simp at hu; rcases hu with rfl | rfl | rfl <;> rfl⟩
theorem oneAt : KindAt Try.prog 74 OneK 24 := KindAt.mk' (by kernel_rfl) (by kernel_rfl)

theorem one_cells {w : World} {g n cap k : Nat} {xs : List G} {x : G} (h : Tab OneK w (.slice (some ⟨g, 0, none⟩) n cap) xs) (hx : xs[k]? = some x) :
    w.cell? ⟨g, k * 3, none⟩ = some (.int .i64 x.id) ∧ w.cell? ⟨g, k * 3 + 1, none⟩ = some (.int .i64 x.stamp) ∧ w.cell? ⟨g, k * 3 + 2, none⟩ = some (.int .i64 x.last) :=
  ⟨h.cell (f := 0) hx rfl, h.cell (f := 1) hx rfl, h.cell (f := 2) hx rfl⟩

theorem rat_any (v : Value) (xs : List G) (id : Int) (w : World) (ht : Tab OneK w v xs) :
    Rets Try.prog 61 #[v, .int .i64 id] w fun u w' => u = .int .i64 (ix (atId xs id)) ∧ w' = w := by
  unfold Rets
  have hmax : xs.length ≤ 9223372036854775807 := ht.lenMax
  obtain ⟨a, cap, rfl⟩ := ht.slice
  go_enter Try.func61, Try.ntmps61
  go_wp2
  go_loop [5] (fun i => ∃ k : Nat, k ≤ xs.length ∧ i = .int .i64 k ∧ (∀ (j : Nat) (x : G), j < k → xs[j]? = some x → x.id ≠ id)) (fun i => xs.length - (intOf i).toNat)
  case atStart => exact ⟨0, Nat.zero_le _, rfl, fun _ _ h => absurd h (by omega)⟩
  case round =>
    obtain ⟨k, hk, rfl, hno⟩ := hrel
    by_cases hlt : k < xs.length
    · obtain ⟨x, hx⟩ : ∃ x, xs[k]? = some x := ⟨_, List.getElem?_eq_getElem hlt⟩
      rcases ht.form with ⟨_, h0⟩ | ⟨g, cap', hv, _⟩
      · rw [h0] at hlt; simp at hlt
      · cases hv
        obtain ⟨c0, c1, c2⟩ := one_cells ht hx
        by_cases hid : x.id = id
        · have hid' : (x.id == id) = true := by simpa using hid
          have HF := Lib.hid (atId_some hx hid hno)
          clear hid hno hx
          go_wp2
          go_ret
          exact ⟨_, rfl, by rw [HF.out]; rfl, rfl⟩
        · have hid' : (x.id == id) = false := by simpa using hid
          have hno' : ∀ (j : Nat) (y : G), j < k + 1 → xs[j]? = some y → y.id ≠ id := fun j y hj hy => by
            rcases Nat.lt_succ_iff_lt_or_eq.1 hj with h | rfl
            · exact hno j y h hy
            · rw [hx] at hy; cases hy; exact hid
          have HN := Lib.hid hno'
          clear hno' hno hid hx
          go_wp2
          go_round
          case rel => exact ⟨k + 1, by omega, by go_num, HN.out⟩
          case measure => simp [intOf]; omega
    · have HF := Lib.hid (atId_none fun j x hj => hno j x (by have := (List.getElem?_eq_some_iff.1 hj).1; omega) hj)
      clear hno
      go_wp2
      go_ret
      exact ⟨_, rfl, by rw [HF.out]; rfl, rfl⟩

/-- A list that a call has made. -/
def NewList {α : Type} (K : Kind α) (w : World) (ys : List α) (u : Value) (w' : World) : Prop :=
  Tab K w' u ys ∧ Tch [] w w' ∧ ∀ k, u.ownBlock = some k → w.heap.size ≤ k

theorem newList_append {α : Type} {K : Kind α} {w wr w1 w2 : World} {v v' : Value} {xs ys : List α} (h : NewList K w xs v wr) (h1 : Tch [] wr w1) (ht : Tab K w2 v' ys) (hg : w1.grownBy w2 v.ownBlock) (hf : Fresh w1 v v') :
    NewList K w ys v' w2 :=
  ⟨ht, (h.2.1.trans h1 (by simp)).grown hg (fun k hk => .inr (h.2.2 k hk)), fun k hk => by
    rcases hf k hk with h2 | h2
    · exact h.2.2 k h2
    · have := h.2.1.size; have := h1.size; omega⟩

theorem erase_take {α : Type} {xs : List α} {i k : Nat} (hk : k ≤ i) : (xs.eraseIdx i).take k = xs.take k := by
  apply List.ext_getElem?
  intro j
  simp only [List.getElem?_take, List.getElem?_eraseIdx]
  split
  · rw [if_pos (by omega)]
  · rfl

/-- The list without its i-th, as far as k elements have been gone through. -/
def less {α : Type} (xs : List α) (i k : Nat) : List α := (xs.take k).eraseIdx i
theorem less_same {α : Type} {xs : List α} {i k : Nat} (h : k = i) : less xs i (k + 1) = less xs i k := by
  subst h
  unfold less
  apply List.ext_getElem?
  intro j
  simp only [List.getElem?_take, List.getElem?_eraseIdx]
  by_cases hj : j < k
  · simp [hj]; intro h; omega
  · simp [hj]; intro h; omega
theorem less_next {α : Type} {xs : List α} {i k : Nat} {x : α} (hx : xs[k]? = some x) (h : k ≠ i) : less xs i (k + 1) = less xs i k ++ [x] := by
  have hk := (List.getElem?_eq_some_iff.1 hx).1
  unfold less
  have h1 : xs.take (k + 1) = xs.take k ++ [x] := by
    obtain ⟨_, rfl⟩ := List.getElem?_eq_some_iff.1 hx
    rw [List.take_succ_eq_append_getElem hk]
  rw [h1, List.eraseIdx_append]
  split
  · rfl
  · rename_i hi
    have hl : (xs.take k).length = k := by simp; omega
    rw [hl] at hi ⊢
    rw [List.eraseIdx_of_length_le (show [x].length ≤ i - k by simp; omega), List.eraseIdx_of_length_le (by rw [hl]; omega)]
theorem less_len {α : Type} (xs : List α) (i k : Nat) : (less xs i k).length ≤ k := by
  unfold less
  have := List.length_eraseIdx_le (xs.take k) i
  have : (xs.take k).length ≤ k := by simp; omega
  omega

set_option maxRecDepth 100000 in
theorem without_any (v : Value) (xs : List G) (a : Int) (i : Nat) (ha : a = i) (w : World) (ht : Tab OneK w v xs) (hmax : xs.length ≤ 1000) :
    Rets Try.prog 49 #[v, .int .i64 a] w fun u w' => NewList OneK w (xs.eraseIdx i) u w' := by
  unfold Rets
  subst ha
  obtain ⟨ad, cap, rfl⟩ := ht.slice
  go_enter Try.func49, Try.ntmps49
  go_wp2
  go_loopw [5, 6] (fun vo j wr => ∃ k : Nat, k ≤ xs.length ∧ j = .int .i64 k ∧ NewList OneK w (less xs i k) vo wr) (fun _ j _ => xs.length - (intOf j).toNat)
  case atStart => exact ⟨0, Nat.zero_le _, rfl, Tab.nil _ _, Tch.refl _ _, by simp [Value.ownBlock]⟩
  case round =>
    obtain ⟨k, hk, rfl, hn⟩ := hrel
    have htw := ht.touch hn.2.1 (by simp)
    obtain ⟨ao, co, hvo⟩ := hn.1.slice
    subst hvo
    by_cases hlt : k < xs.length
    · obtain ⟨x, hx⟩ : ∃ x, xs[k]? = some x := ⟨_, List.getElem?_eq_getElem hlt⟩
      rcases ht.form with ⟨_, h0⟩ | ⟨g, cap', hv, _⟩
      · rw [h0] at hlt; simp at hlt
      cases hv
      obtain ⟨c0, c1, c2⟩ := one_cells htw hx
      by_cases hki : k = i
      · have HL := Lib.hid (less_same (xs := xs) hki)
        have hb : ((k : Int) != (i : Int)) = false := by rw [hki]; simp
        clear hki hx
        go_wp2
        go_roundw
        case rel => exact ⟨k + 1, by omega, by go_num, by rw [HL.out]; exact hn⟩
        case measure => simp [intOf]; omega
      · have HL := Lib.hid (less_next hx hki)
        have hb : ((k : Int) != (i : Int)) = true := by rw [bne_iff_ne]; omega
        have hll := less_len xs i k
        clear hki hx
        go_wp2_with (at_builtin; refine wpList_append_tab (v := .slice ao (less xs i k).length co) oneAt rfl _ _ rfl rfl (hn.1.alloc _) _ _ _ [x] rfl rfl (by exact news_one OneK x (Blk.last _ _ _ rfl)) (by simp [maxLen]; omega) (by simp; omega) ?_; intro v' w1 ht1 hg1 hfr1)
        go_roundw
        case rel => exact ⟨k + 1, by omega, by go_num, by rw [HL.out]; exact newList_append hn ((Tch.refl [] wr).alloc _) ht1 hg1 hfr1⟩
        case measure => simp [intOf]; omega
    · obtain rfl : k = xs.length := by omega
      have HL := Lib.hid (show less xs i xs.length = xs.eraseIdx i from by unfold less; rw [List.take_of_length_le (Nat.le_refl _)])
      go_wp2
      go_ret
      exact ⟨_, rfl, by rw [← HL.out]; exact hn⟩

set_option maxRecDepth 100000 in
theorem ids_any (v : Value) (xs : List G) (w : World) (ht : Tab OneK w v xs) (hmax : xs.length ≤ 1000) :
    Rets Try.prog 35 #[v] w fun u w' => NewList IntK w (xs.map (·.id)) u w' := by
  unfold Rets
  obtain ⟨ad, cap, rfl⟩ := ht.slice
  go_enter Try.func35, Try.ntmps35
  go_wp2
  go_loopw [3, 4] (fun vo j wr => ∃ k : Nat, k ≤ xs.length ∧ j = .int .i64 k ∧ NewList IntK w ((xs.take k).map (·.id)) vo wr) (fun _ j _ => xs.length - (intOf j).toNat)
  case atStart => exact ⟨0, Nat.zero_le _, rfl, Tab.nil _ _, Tch.refl _ _, by simp [Value.ownBlock]⟩
  case round =>
    obtain ⟨k, hk, rfl, hn⟩ := hrel
    have htw := ht.touch hn.2.1 (by simp)
    obtain ⟨ao, co, hvo⟩ := hn.1.slice
    have hlen : ((xs.take k).map (·.id)).length = k := by simp [hk]
    rw [hlen] at hvo
    have HLEN := Lib.hid hlen
    clear hlen
    subst hvo
    by_cases hlt : k < xs.length
    · obtain ⟨x, hx⟩ : ∃ x, xs[k]? = some x := ⟨_, List.getElem?_eq_getElem hlt⟩
      rcases ht.form with ⟨_, h0⟩ | ⟨g, cap', hv, _⟩
      · rw [h0] at hlt; simp at hlt
      cases hv
      obtain ⟨c0, c1, c2⟩ := one_cells htw hx
      have HL := Lib.hid (show (xs.take (k + 1)).map (·.id) = (xs.take k).map (·.id) ++ [x.id] from by
        obtain ⟨_, rfl⟩ := List.getElem?_eq_some_iff.1 hx
        rw [List.take_succ_eq_append_getElem hlt, List.map_append]; rfl)
      clear hx
      go_wp2_with (at_builtin; refine wpList_append_tab (v := .slice ao k co) intAt rfl _ _ rfl rfl (hn.1.alloc _) _ _ _ [x.id] rfl rfl (by exact news_one IntK x.id (Blk.last _ _ _ rfl)) (by rw [HLEN.out]; simp [maxLen]; omega) (by rw [HLEN.out]; simp; omega) ?_; intro v' w1 ht1 hg1 hfr1)
      go_roundw
      case rel => exact ⟨k + 1, by omega, by go_num, by rw [HL.out]; exact newList_append hn ((Tch.refl [] wr).alloc _) ht1 hg1 hfr1⟩
      case measure => simp [intOf]; omega
    · obtain rfl : k = xs.length := by omega
      have HL := Lib.hid (show (xs.take xs.length).map (·.id) = xs.map (·.id) from by rw [List.take_of_length_le (Nat.le_refl _)])
      go_wp2
      go_ret
      exact ⟨_, rfl, by rw [← HL.out]; exact hn⟩
end Go.Proofs.Ytdmgbfkioghkeaa
