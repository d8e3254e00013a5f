/-
  The heap of turns: rise, sink and remove keep what lies in it and its order; no condition beyond those stated.
-/
import Derived.Test.YtdmgbfkioghkeaaGMod
namespace Go.Ytdmgbfkioghkeaa.Gt

theorem ahead_irrefl (a : G) : a.ahead a = false := by simp [G.ahead]
theorem ahead_iff {a b : G} : a.ahead b = true ↔ a.last < b.last ∨ (a.last = b.last ∧ a.stamp < b.stamp) := by simp [G.ahead]
theorem not_ahead_iff {a b : G} : a.ahead b = false ↔ b.last < a.last ∨ (a.last = b.last ∧ b.stamp ≤ a.stamp) := by
  rw [Bool.eq_false_iff, ne_eq, ahead_iff]; omega
/-- 'not ahead' hangs together. -/
theorem not_ahead_trans {a b c : G} (h1 : a.ahead b = false) (h2 : b.ahead c = false) : a.ahead c = false := by
  rw [not_ahead_iff] at *; omega
theorem not_ahead_of_ahead {a b : G} (h : a.ahead b = true) : b.ahead a = false := by
  rw [ahead_iff] at h; rw [not_ahead_iff]; omega

/-! ### Exchanging -/
theorem swp_get {l : List G} {i j : Nat} (hi : i < l.length) (hj : j < l.length) (k : Nat) : (swp l i j)[k]? = if k = j then l[i]? else if k = i then l[j]? else l[k]? := by
  unfold swp
  rw [List.getElem?_eq_getElem hi, List.getElem?_eq_getElem hj]
  simp only
  rw [List.getElem?_set, List.getElem?_set]
  simp only [List.length_set]
  by_cases hkj : k = j
  · subst hkj; simp [hj]
  · by_cases hki : k = i
    · subst hki; simp [hkj, hi, Ne.symm hkj]
    · simp [hkj, hki, Ne.symm hkj, Ne.symm hki]

theorem set_perm {l : List G} {i : Nat} (hi : i < l.length) (y : G) : (l.set i y).Perm (y :: l.eraseIdx i) := by
  induction l generalizing i with
  | nil => simp at hi
  | cons a l ih =>
    cases i with
    | zero => exact List.Perm.refl _
    | succ i => exact (List.Perm.cons a (ih (by simpa using hi))).trans (List.Perm.swap y a _)

theorem at_perm {l : List G} {i : Nat} {x : G} (hx : l[i]? = some x) : l.Perm (x :: l.eraseIdx i) := by
  obtain ⟨hi, rfl⟩ := List.getElem?_eq_some_iff.1 hx
  have := set_perm hi l[i]
  rwa [List.set_getElem_self] at this

theorem erase_perm {l m : List G} {i j : Nat} {x : G} (h : l.Perm m) (hi : l[i]? = some x) (hj : m[j]? = some x) : (l.eraseIdx i).Perm (m.eraseIdx j) :=
  List.Perm.cons_inv ((at_perm hi).symm.trans (h.trans (at_perm hj)))

theorem swp_perm (l : List G) (i j : Nat) : (swp l i j).Perm l := by
  unfold swp
  split
  · rename_i x y hx hy
    obtain ⟨hi, rfl⟩ := List.getElem?_eq_some_iff.1 hx
    obtain ⟨hj, rfl⟩ := List.getElem?_eq_some_iff.1 hy
    by_cases hij : i = j
    · subst hij; simp
    · have h1 := set_perm (l := l.set i l[j]) (i := j) (by simpa using hj) l[i]
      have h2 : (l.set i l[j])[j]? = some l[j] := by rw [List.getElem?_set_ne hij]; exact hy
      have h3 := (at_perm h2).symm.trans (set_perm hi l[j])
      exact h1.trans ((List.Perm.cons _ (List.Perm.cons_inv h3)).trans (at_perm hx).symm)
  · exact List.Perm.refl _

theorem rise_perm (l : List G) (i : Nat) : (rise l i).Perm l := by
  fun_induction rise l i with
  | case1 l i h ih => exact ih.trans (swp_perm _ _ _)
  | case2 => exact List.Perm.refl _
theorem sink_perm (l : List G) (i : Nat) : (sink l i).Perm l := by
  fun_induction sink l i with
  | case1 => exact List.Perm.refl _
  | case2 l i h ih => exact ih.trans (swp_perm _ _ _)

/-! ### The order -/
/-- The element at k is not ahead of the one at p. -/
def Ok (l : List G) (k p : Nat) : Prop := ∀ x y, l[k]? = some x → l[p]? = some y → x.ahead y = false
def Heap (l : List G) : Prop := ∀ k, 0 < k → Ok l k ((k - 1) / 2)

theorem aheadAt_iff {l : List G} {i j : Nat} : aheadAt l i j = true ↔ ∃ x y, l[i]? = some x ∧ l[j]? = some y ∧ x.ahead y = true := by
  unfold aheadAt
  split
  · rename_i x y hx hy
    constructor
    · intro h; exact ⟨x, y, hx, hy, h⟩
    · rintro ⟨x', y', h1, h2, h⟩
      rw [hx] at h1; rw [hy] at h2; cases h1; cases h2; exact h
  · rename_i h
    constructor
    · intro h'; simp at h'
    · rintro ⟨x, y, h1, h2, _⟩; exact absurd h2 (h x y h1)
theorem ok_of_not {l : List G} {i j : Nat} (h : ¬ aheadAt l i j = true) : Ok l i j := by
  intro x y hx hy
  cases hxy : x.ahead y with
  | false => rfl
  | true => exact absurd (aheadAt_iff.2 ⟨x, y, hx, hy, hxy⟩) h

theorem rise_heap (l : List G) (i : Nat) (hi : i < l.length) (h1 : ∀ k, 0 < k → k ≠ i → Ok l k ((k - 1) / 2)) (h2 : ∀ k, 0 < k → (k - 1) / 2 = i → 0 < i → Ok l k ((i - 1) / 2)) : Heap (rise l i) := by
  fun_induction rise l i with
  | case1 l i h ih =>
    obtain ⟨h0, hah⟩ := h
    obtain ⟨x, y, hx, hy, hxy⟩ := aheadAt_iff.1 hah
    have hp : (i - 1) / 2 < i := by omega
    have hpl : (i - 1) / 2 < l.length := by omega
    have hyx := not_ahead_of_ahead hxy
    have hg := fun k => swp_get hi hpl k
    apply ih
    · rw [swp_length]; exact hpl
    · intro k hk hkp a c ha hc
      rw [hg] at ha hc
      rw [if_neg hkp] at ha
      by_cases hki : k = i
      · rw [if_pos hki] at ha
        rw [hki, if_pos rfl] at hc
        rw [ha] at hy; cases hy; rw [hc] at hx; cases hx
        exact hyx
      · rw [if_neg hki] at ha
        by_cases hkc : (k - 1) / 2 = (i - 1) / 2
        · rw [if_pos hkc] at hc
          rw [hc] at hx; cases hx
          exact not_ahead_trans (h1 k hk hki a y ha (by rw [hkc]; exact hy)) hyx
        · rw [if_neg hkc] at hc
          by_cases hkd : (k - 1) / 2 = i
          · rw [if_pos hkd] at hc
            exact h2 k hk hkd h0 a c ha hc
          · rw [if_neg hkd] at hc
            exact h1 k hk hki a c ha hc
    · intro k hk hkp hp0 a c ha hc
      rw [hg] at ha hc
      rw [if_neg (by omega)] at ha
      rw [if_neg (by omega), if_neg (by omega)] at hc
      have hpc := h1 ((i - 1) / 2) hp0 (by omega) y c hy hc
      by_cases hki : k = i
      · rw [if_pos hki] at ha
        rw [ha] at hy; cases hy
        exact hpc
      · rw [if_neg hki] at ha
        exact not_ahead_trans (h1 k hk hki a y ha (by rw [hkp]; exact hy)) hpc
  | case2 l i h =>
    intro k hk
    by_cases hki : k = i
    · subst hki
      exact ok_of_not fun hah => h ⟨hk, hah⟩
    · exact h1 k hk hki

theorem best_ok {l : List G} {k c : Nat} {z : Nat} (hz : z = k ∨ z = c) (hc : c < l.length → True) : Ok l z (best l k c) := by
  unfold best
  split
  · rename_i h
    rcases hz with rfl | rfl
    · obtain ⟨x, y, hx, hy, hxy⟩ := aheadAt_iff.1 h.2
      intro a b ha hb
      rw [hx] at hb; cases hb; rw [hy] at ha; cases ha
      exact not_ahead_of_ahead hxy
    · intro a b ha hb; rw [ha] at hb; cases hb; exact ahead_irrefl _
  · rename_i h
    rcases hz with rfl | rfl
    · intro a b ha hb; rw [ha] at hb; cases hb; exact ahead_irrefl _
    · intro a b ha hb
      have hl : z < l.length := (List.getElem?_eq_some_iff.1 ha).1
      exact ok_of_not (fun hah => h ⟨hl, hah⟩) a b ha hb

theorem ok_trans {l : List G} {a b c : Nat} (hb : b < l.length) (h1 : Ok l a b) (h2 : Ok l b c) : Ok l a c := fun x z hx hz =>
  not_ahead_trans (h1 x _ hx (List.getElem?_eq_getElem hb)) (h2 _ z (List.getElem?_eq_getElem hb) hz)

theorem best_lt {l : List G} {k c : Nat} (hk : k < l.length) : best l k c < l.length := by
  rcases best_cases l k c with h | ⟨h, h1, _⟩ <;> omega

/-- The one that sink takes is not behind its brother, nor behind i. -/
theorem sinkTo_ok {l : List G} {i z : Nat} (hi : i < l.length) (hz : z = i ∨ z = 2 * i + 1 ∨ z = 2 * i + 2) : Ok l z (sinkTo l i) := by
  unfold sinkTo
  rcases hz with rfl | rfl | rfl
  · exact ok_trans (best_lt hi) (best_ok (.inl rfl) fun _ => trivial) (best_ok (.inl rfl) fun _ => trivial)
  · exact ok_trans (best_lt hi) (best_ok (.inr rfl) fun _ => trivial) (best_ok (.inl rfl) fun _ => trivial)
  · exact best_ok (.inr rfl) fun _ => trivial

theorem sinkTo_where {l : List G} {i : Nat} (h : sinkTo l i ≠ i) : sinkTo l i = 2 * i + 1 ∨ sinkTo l i = 2 * i + 2 := by
  unfold sinkTo at *
  rcases best_cases l i (2 * i + 1) with h1 | ⟨h1, _⟩ <;> rcases best_cases l (best l i (2 * i + 1)) (2 * i + 2) with h2 | ⟨h2, _⟩ <;> omega

theorem sink_heap (l : List G) (i : Nat) (hi : i < l.length) (h1 : ∀ k, 0 < k → (k - 1) / 2 ≠ i → Ok l k ((k - 1) / 2)) (h2 : ∀ k, 0 < k → (k - 1) / 2 = i → 0 < i → Ok l k ((i - 1) / 2)) : Heap (sink l i) := by
  fun_induction sink l i with
  | case1 l i h =>
    intro k hk
    by_cases hki : (k - 1) / 2 = i
    · rw [hki]
      have := sinkTo_ok (l := l) (i := i) (z := k) hi (by omega)
      rwa [h] at this
    · exact h1 k hk hki
  | case2 l i h ih =>
    have hw := sinkTo_where h
    rcases sinkTo_cases l i with h0 | ⟨h0, hml⟩
    · exact absurd h0 h
    have hok : ∀ z, z = i ∨ z = 2 * i + 1 ∨ z = 2 * i + 2 → Ok l z (sinkTo l i) := fun z hz => sinkTo_ok hi hz
    generalize sinkTo l i = m at *
    have hg := fun k => swp_get hi hml k
    apply ih
    · rw [swp_length]; exact hml
    · intro k hk hkm a c ha hc
      rw [hg] at ha hc
      rw [if_neg (show ¬ (k - 1) / 2 = m from hkm)] at hc
      by_cases hkm' : k = m
      · rw [if_pos hkm'] at ha
        rw [if_pos (by omega)] at hc
        exact hok i (.inl rfl) a c ha hc
      · rw [if_neg hkm'] at ha
        by_cases hki : k = i
        · rw [if_pos hki] at ha
          rw [if_neg (by omega)] at hc
          exact h2 m (by omega) (by omega) (by omega) a c ha (by rw [← hki]; exact hc)
        · rw [if_neg hki] at ha
          by_cases hkc : (k - 1) / 2 = i
          · rw [if_pos hkc] at hc
            exact hok k (by omega) a c ha hc
          · rw [if_neg hkc] at hc
            exact h1 k hk hkc a c ha hc
    · intro k hk hkm hm0 a c ha hc
      rw [hg] at ha hc
      rw [if_neg (by omega), if_neg (by omega)] at ha
      rw [if_neg (by omega), if_pos (by omega)] at hc
      exact h1 k hk (by omega) a c ha (by rw [hkm]; exact hc)

theorem sink_id {l : List G} (h : Heap l) {i : Nat} (hi : i < l.length) : sink l i = l := by
  rw [sink]
  have : sinkTo l i = i := by
    by_cases hne : sinkTo l i = i
    · exact hne
    exfalso
    unfold sinkTo at hne
    have no : ∀ c, (c - 1) / 2 = i → 0 < c → ¬ aheadAt l c i = true := fun c hc hc0 hah => by
      obtain ⟨x, y, hx, hy, hxy⟩ := aheadAt_iff.1 hah
      have := h c hc0 x y hx (by rw [hc]; exact hy)
      rw [this] at hxy; cases hxy
    have e1 : best l i (2 * i + 1) = i := by unfold best; rw [if_neg fun h => no _ (by omega) (by omega) h.2]
    rw [e1] at hne
    exact hne (by unfold best; rw [if_neg fun h => no _ (by omega) (by omega) h.2])
  rw [dif_pos this]

/-- One element of a heap has been changed: rise, then sink. -/
theorem fix_heap {l : List G} (h : Heap l) {i : Nat} (hi : i < l.length) (y : G) : Heap (sink (rise (l.set i y) i) i) := by
  have hl : i < (l.set i y).length := by simpa using hi
  have hgi : (l.set i y)[i]? = some y := by simp [hi]
  have hgo : ∀ k, k ≠ i → (l.set i y)[k]? = l[k]? := fun k hk => by rw [List.getElem?_set_ne (Ne.symm hk)]
  have g2 : ∀ k, 0 < k → (k - 1) / 2 = i → 0 < i → Ok (l.set i y) k ((i - 1) / 2) := by
    intro k hk hki hi0 a c ha hc
    rw [hgo k (by omega)] at ha
    rw [hgo _ (by omega)] at hc
    have q1 := h k hk a l[i] ha (by rw [hki]; exact List.getElem?_eq_getElem hi)
    have q2 := h i hi0 l[i] c (List.getElem?_eq_getElem hi) hc
    exact not_ahead_trans q1 q2
  by_cases hah : 0 < i ∧ aheadAt (l.set i y) i ((i - 1) / 2) = true
  · have hh : Heap (rise (l.set i y) i) := by
      refine rise_heap _ i hl (fun k hk hki a c ha hc => ?_) g2
      by_cases hkc : (k - 1) / 2 = i
      · have q := g2 k hk hkc hah.1
        obtain ⟨x', y', hx, hy, hxy⟩ := aheadAt_iff.1 hah.2
        rw [hkc, hx] at hc; cases hc
        exact not_ahead_trans (q a y' ha hy) (not_ahead_of_ahead hxy)
      · rw [hgo k hki] at ha
        rw [hgo _ hkc] at hc
        exact h k hk a c ha hc
    rw [sink_id hh (by rw [rise_length]; exact hl)]
    exact hh
  · have e : rise (l.set i y) i = l.set i y := by rw [rise, dif_neg hah]
    rw [e]
    refine sink_heap _ i hl (fun k hk hkc a c ha hc => ?_) g2
    by_cases hki : k = i
    · rw [hki] at hk ha hc
      exact ok_of_not (fun hq => hah ⟨hk, hq⟩) a c ha hc
    · rw [hgo k hki] at ha
      rw [hgo _ hkc] at hc
      exact h k hk a c ha hc

/-- A new one behind the others: rise. -/
theorem push_heap {l : List G} (h : Heap l) (x : G) : Heap (rise (l ++ [x]) l.length) := by
  refine rise_heap _ _ (by simp) (fun k hk hki a c ha hc => ?_) (fun k hk hkl h0 a c ha hc => ?_)
  · by_cases hkl : k < l.length
    · rw [List.getElem?_append_left hkl] at ha
      rw [List.getElem?_append_left (by omega)] at hc
      exact h k hk a c ha hc
    · rw [List.getElem?_eq_none (by simp; omega)] at ha; cases ha
  · rw [List.getElem?_eq_none (by simp; omega)] at ha; cases ha

theorem take_heap {l : List G} (h : Heap l) (n : Nat) : Heap (l.take n) := by
  intro k hk a c ha hc
  rw [List.getElem?_take] at ha hc
  split at ha
  · split at hc
    · exact h k hk a c ha hc
    · cases hc
  · cases ha

theorem remove_heap {l : List G} (h : Heap l) {i : Nat} (hi : i < l.length) : Heap (remove l i) := by
  unfold remove
  simp only
  split
  · exact h
  · rename_i z hz
    split
    · rename_i hin
      rw [List.take_set]
      exact fix_heap (take_heap h _) (by simp; omega) z
    · rename_i hin
      rw [List.take_set, List.set_eq_of_length_le (by simp; omega)]
      exact take_heap h _

theorem remove_perm {l : List G} {i : Nat} (hi : i < l.length) : (remove l i).Perm (l.eraseIdx i) := by
  have hn : l.length - 1 < l.length := by omega
  unfold remove
  simp only
  rw [List.getElem?_eq_getElem hn]
  simp only
  have hlast : l = l.take (l.length - 1) ++ [l[l.length - 1]] := by
    have := (List.take_append_getElem (l := l) (i := l.length - 1) hn).symm
    rwa [show l.length - 1 + 1 = l.length by omega, List.take_length] at this
  split
  · rename_i hin
    refine (sink_perm _ _).trans ((rise_perm _ _).trans ?_)
    rw [List.take_set]
    have h1 := set_perm (l := l.take (l.length - 1)) (i := i) (by simp; omega) l[l.length - 1]
    refine h1.trans ?_
    have h2 : l.eraseIdx i = (l.take (l.length - 1)).eraseIdx i ++ [l[l.length - 1]] := by
      conv => lhs; rw [hlast]
      rw [List.eraseIdx_append_of_lt_length (by simp; omega)]
    rw [h2]
    exact (List.perm_append_comm (l₁ := [l[l.length - 1]]))
  · rename_i hin
    have hie : i = l.length - 1 := by omega
    rw [List.take_set, List.set_eq_of_length_le (by simp; omega)]
    have h2 : l.eraseIdx i = l.take (l.length - 1) := by
      subst hie
      rw [List.eraseIdx_eq_take_drop_succ, show l.length - 1 + 1 = l.length by omega, List.drop_length, List.append_nil]
    rw [h2]

/-- The first one of a heap is not behind any other. -/
theorem heap_head {x : G} {l : List G} (h : Heap (x :: l)) : ∀ (k : Nat) (y : G), (x :: l)[k]? = some y → y.ahead x = false := by
  intro k
  induction k using Nat.strongRecOn with
  | _ k ih =>
    intro y hy
    by_cases hk : k = 0
    · subst hk; simp at hy; subst hy; exact ahead_irrefl _
    · have hl : k < (x :: l).length := (List.getElem?_eq_some_iff.1 hy).1
      have hp : (k - 1) / 2 < (x :: l).length := by omega
      exact not_ahead_trans (h k (by omega) y _ hy (List.getElem?_eq_getElem hp)) (ih _ (by omega) _ (List.getElem?_eq_getElem hp))
end Go.Ytdmgbfkioghkeaa.Gt
