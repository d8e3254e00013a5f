/-
  The library's slices functions at the gate's two kinds of element, walked: Index, Contains, ContainsFunc, IndexFunc, Delete.
-/
import Derived.Test.YtdmgbfkioghkeaaGSink
import Derived.Test.YtdmgbfkioghkeaaTabDel
namespace Go.Proofs.Ytdmgbfkioghkeaa
open Go.RowKit Go.Ytdmgbfkioghkeaa Go.Ytdmgbfkioghkeaa.Gt Go.Ytdmgbfkioghkeaa.Reg

theorem intAt : KindAt Try.prog 31 IntK 8 := KindAt.mk' (by kernel_rfl) (by kernel_rfl)
theorem zeroInt (w : World) : (zeroValue 3).run Try.prog w = .ok (.int .i64 0) w := by kernel_rfl
theorem zeroGuest (w : World) : (zeroValue 62).run Try.prog w = .ok (.agg #[.int .i64 0, .int .i64 0, .int .i64 0]) w := by kernel_rfl

set_option maxRecDepth 100000 in
theorem deleteInt_at (g cap i : Nat) (xs : List Int) (w : World) (ht : Tab IntK w (.slice (some ⟨g, 0, none⟩) xs.length cap) xs) (hi : i < xs.length) :
    Rets Try.prog 42 #[.slice (some ⟨g, 0, none⟩) xs.length cap, .int .i64 i, .int .i64 ((i : Int) + 1)] w fun u w' => u = .slice (some ⟨g, 0, none⟩) (xs.length - 1) cap ∧
      Tab IntK w' (.slice (some ⟨g, 0, none⟩) (xs.length - 1) cap) (xs.eraseIdx i) ∧ Tch [g] w w' := by
  unfold Rets
  have hmax : xs.length ≤ 9223372036854775807 := ht.lenMax
  obtain ⟨hcap, hcm⟩ : xs.length ≤ cap ∧ cap ≤ maxLen := by obtain ⟨_, _, _, h1, h2, _⟩ := ht.cur; exact ⟨h1, h2⟩
  have hcm' : cap ≤ 9223372036854775807 := hcm
  have hne : ((i : Int) == (i : Int) + 1) = false := by simp; omega
  have her : xs.take i ++ xs.drop (i + 1) = xs.eraseIdx i := (List.eraseIdx_eq_take_drop_succ ..).symm
  have HER := Lib.hid her
  have hlen : (xs.eraseIdx i).length = xs.length - 1 := List.length_eraseIdx_of_lt hi
  have HLEN := Lib.hid hlen
  clear her hlen hcm
  have hle1 : 1 ≤ xs.length := by omega
  by_cases hcj : cap = i + 1
  · subst hcj
    go_enter Try.func42, Try.ntmps42
    go_wp2
    refine wp_region_text (by kernel_rfl) (by kernel_rfl) ?_
    go_wp2
    refine ⟨by kernel_rfl, ?_⟩
    have hil : i = (xs.eraseIdx i).length := by rw [HLEN.out]; omega
    have ht1 : Tab IntK w.drew (.slice (some ⟨g, 0, none⟩) (xs.eraseIdx i).length (i + 1)) (xs.eraseIdx i) := by
      have h := ht.drew.take (m := i) (by omega)
      have e1 : xs.take i = xs.eraseIdx i := by rw [← HER.out, List.drop_eq_nil_of_le (by omega), List.append_nil]
      rw [e1] at h
      rw [← hil]
      exact h
    have HIL := Lib.hid hil
    clear hil
    obtain ⟨w2, hrun, ht2, hT2⟩ := run_clear_tail (P := Try.prog) (ty := 0) intAt _ zeroInt rfl (by decide) ht1 (k := xs.length - i) (by omega) (by rw [← HIL.out]; omega) 1
    rw [← HIL.out, show i * IntK.sz = i from by simp [IntK]] at hrun
    go_wp2
    go_ret
    rw [HLEN.out] at ht2
    have hi1 : i = xs.length - 1 := by omega
    exact ⟨_, rfl, by rw [← hi1]; rfl, ht2, ((Tch.refl [g] w).drew).trans' hT2⟩
  · go_enter Try.func42, Try.ntmps42
    go_wp2
    refine wp_region_text (by kernel_rfl) (by kernel_rfl) ?_
    go_wp2_with (at_builtin; go_must (refine wpList_append_cut intAt rfl _ _ rfl ht.drew i (i + 1) ?d1 ?d2 rfl ⟨g, i + 1, none⟩ _ _ rfl rfl ?d3 (xs.length - 1) ?d4 ?_; (case d1 => omega); (case d2 => omega); (case d3 => intro _; simp [IntK]); (case d4 => omega)); intro w1 ht1 hT1)
    refine ⟨by kernel_rfl, ?_⟩
    rw [HER.out] at ht1
    have hn1 : xs.length - 1 = (xs.eraseIdx i).length := HLEN.out.symm
    rw [hn1] at ht1
    obtain ⟨w2, hrun, ht2, hT2⟩ := run_clear_tail (P := Try.prog) (ty := 0) intAt _ zeroInt rfl (by decide) ht1 (k := xs.length - (xs.length - 1)) (by omega) (by rw [← hn1]; omega) (cap - (xs.length - 1))
    rw [← hn1, show (xs.length - 1) * IntK.sz = xs.length - 1 from by simp [IntK]] at hrun
    rw [← hn1] at ht2
    clear hn1 ht1
    go_wp2_with fail
    go_ret
    exact ⟨_, rfl, rfl, ht2, (((Tch.refl [g] w).drew).trans' hT1).trans' hT2⟩

set_option maxRecDepth 100000 in
theorem deleteGuest_at (g cap i : Nat) (xs : List G) (w : World) (ht : Tab GuestK w (.slice (some ⟨g, 0, none⟩) xs.length cap) xs) (hi : i < xs.length) :
    Rets Try.prog 47 #[.slice (some ⟨g, 0, none⟩) xs.length cap, .int .i64 i, .int .i64 ((i : Int) + 1)] w fun u w' => u = .slice (some ⟨g, 0, none⟩) (xs.length - 1) cap ∧
      Tab GuestK w' (.slice (some ⟨g, 0, none⟩) (xs.length - 1) cap) (xs.eraseIdx i) ∧ Tch [g] w w' := by
  unfold Rets
  have hmax : xs.length ≤ 9223372036854775807 := ht.lenMax
  obtain ⟨hcap, hcm⟩ : xs.length ≤ cap ∧ cap ≤ maxLen := by obtain ⟨_, _, _, h1, h2, _⟩ := ht.cur; exact ⟨h1, h2⟩
  have hcm' : cap ≤ 9223372036854775807 := hcm
  have hne : ((i : Int) == (i : Int) + 1) = false := by simp; omega
  have her : xs.take i ++ xs.drop (i + 1) = xs.eraseIdx i := (List.eraseIdx_eq_take_drop_succ ..).symm
  have HER := Lib.hid her
  have hlen : (xs.eraseIdx i).length = xs.length - 1 := List.length_eraseIdx_of_lt hi
  have HLEN := Lib.hid hlen
  clear her hlen hcm
  have hle1 : 1 ≤ xs.length := by omega
  by_cases hcj : cap = i + 1
  · subst hcj
    go_enter Try.func47, Try.ntmps47
    go_wp2
    refine wp_region_text (by kernel_rfl) (by kernel_rfl) ?_
    go_wp2
    refine ⟨by kernel_rfl, ?_⟩
    have hil : i = (xs.eraseIdx i).length := by rw [HLEN.out]; omega
    have ht1 : Tab GuestK w.drew (.slice (some ⟨g, 0, none⟩) (xs.eraseIdx i).length (i + 1)) (xs.eraseIdx i) := by
      have h := ht.drew.take (m := i) (by omega)
      have e1 : xs.take i = xs.eraseIdx i := by rw [← HER.out, List.drop_eq_nil_of_le (by omega), List.append_nil]
      rw [e1] at h
      rw [← hil]
      exact h
    have HIL := Lib.hid hil
    clear hil
    obtain ⟨w2, hrun, ht2, hT2⟩ := run_clear_tail (P := Try.prog) (ty := 0) guestAt' _ zeroGuest rfl (by decide) ht1 (k := xs.length - i) (by omega) (by rw [← HIL.out]; omega) 1
    rw [← HIL.out, show i * GuestK.sz = (i * 3) from by simp [GuestK]] at hrun
    go_wp2
    go_ret
    rw [HLEN.out] at ht2
    have hi1 : i = xs.length - 1 := by omega
    exact ⟨_, rfl, by rw [← hi1]; rfl, ht2, ((Tch.refl [g] w).drew).trans' hT2⟩
  · go_enter Try.func47, Try.ntmps47
    go_wp2
    refine wp_region_text (by kernel_rfl) (by kernel_rfl) ?_
    go_wp2_with (at_builtin; go_must (refine wpList_append_cut guestAt' rfl _ _ rfl ht.drew i (i + 1) ?d1 ?d2 rfl ⟨g, (i + 1) * 3, none⟩ _ _ rfl rfl ?d3 (xs.length - 1) ?d4 ?_; (case d1 => omega); (case d2 => omega); (case d3 => intro _; simp [GuestK]); (case d4 => omega)); intro w1 ht1 hT1)
    refine ⟨by kernel_rfl, ?_⟩
    rw [HER.out] at ht1
    have hn1 : xs.length - 1 = (xs.eraseIdx i).length := HLEN.out.symm
    rw [hn1] at ht1
    obtain ⟨w2, hrun, ht2, hT2⟩ := run_clear_tail (P := Try.prog) (ty := 0) guestAt' _ zeroGuest rfl (by decide) ht1 (k := xs.length - (xs.length - 1)) (by omega) (by rw [← hn1]; omega) (cap - (xs.length - 1))
    rw [← hn1, show (xs.length - 1) * GuestK.sz = (xs.length - 1) * 3 from by simp [GuestK]] at hrun
    rw [← hn1] at ht2
    clear hn1 ht1
    go_wp2_with fail
    go_ret
    exact ⟨_, rfl, rfl, ht2, (((Tch.refl [g] w).drew).trans' hT1).trans' hT2⟩
theorem subfn_any (x : G) (id : Int) (b : Nat) (w : World) (hc : w.cell? ⟨b, 0, none⟩ = some (.int .i64 id)) :
    Rets Try.prog 46 #[.agg #[.int .i64 x.id, .int .i64 x.stamp, .int .i64 x.last], .pointer (some ⟨b, 0, none⟩)] w fun v w' => v = .bool (x.id == id) ∧ Tch [] w w' := by
  unfold Rets
  have hb : b < w.heap.size := World.block_lt_of_cell? w _ hc
  go_enter Try.func46, Try.ntmps46
  go_wp2
  go_ret
  exact ⟨_, rfl, rfl, (Tch.refl _ _).alloc _⟩

theorem indexFunc2_any (b : Nat) (v : Value) (xs : List G) (id : Int) (w : World) (ht : Tab GuestK w v xs) (hc : w.cell? ⟨b, 0, none⟩ = some (.int .i64 id)) :
    Rets Try.prog 60 #[v, .func (.func 46) #[] #[.pointer (some ⟨b, 0, none⟩)]] w fun u w' => u = .int .i64 (ix (atId xs id)) ∧ Tch [] w w' := by
  unfold Rets
  have hmax := ht.lenMax
  unfold maxLen at hmax
  obtain ⟨a, cap, rfl⟩ := ht.slice
  go_enter Try.func60, Try.ntmps60
  go_wp2
  go_loopw [8] (fun i wr => ∃ k : Nat, k ≤ xs.length ∧ i = .int .i64 k ∧ (∀ j x, j < k → xs[j]? = some x → x.id ≠ id) ∧ Tch [] w wr) (fun i _ => xs.length - (intOf i).toNat)
  case atStart => exact ⟨0, Nat.zero_le _, rfl, fun _ _ h => absurd h (by omega), Tch.refl _ _⟩
  case round =>
    obtain ⟨k, hk, rfl, hno, hT⟩ := hrel
    have htw := ht.touch hT (by simp)
    have hcw : wr.cell? ⟨b, 0, none⟩ = some (.int .i64 id) := (hT.cell (p := ⟨b, 0, none⟩) (World.block_lt_of_cell? w _ hc) (by simp)).trans hc
    by_cases hlt : k < xs.length
    · obtain ⟨x, hx⟩ : ∃ x, xs[k]? = some x := ⟨_, List.getElem?_eq_getElem hlt⟩
      rcases ht.form with ⟨_, h0⟩ | ⟨g, cap', hv, _⟩
      · rw [h0] at hlt; simp at hlt
      · cases hv
        obtain ⟨c0, c1, c2⟩ := guest_cells htw hx
        by_cases hid : x.id = id
        · have hid' : (x.id == id) = true := by simpa using hid
          have hfin : atId xs id = some k := atId_some hx hid hno
          have HF := Lib.hid hfin
          have HI := Lib.hid hid
          clear hfin hid hx hno
          go_wp2_with (go_at_call 46; refine (subfn_any _ _ _ _ hcw).use ?_; rintro _ w' ⟨rfl, hT'⟩)
          go_ret
          exact ⟨_, rfl, by rw [HF.out]; rfl, hT.trans' hT'⟩
        · have hid' : (x.id == id) = false := by simpa using hid
          have hno' : ∀ j y, j < k + 1 → xs[j]? = some y → y.id ≠ id := fun j y hj hy => by
            rcases Nat.lt_succ_iff_lt_or_eq.1 hj with h | rfl
            · exact hno j y h hy
            · rw [hx] at hy; cases hy; exact hid
          have HN := Lib.hid hno'
          clear hno' hno hid hx
          go_wp2_with (go_at_call 46; refine (subfn_any _ _ _ _ hcw).use ?_; rintro _ w' ⟨rfl, hT'⟩)
          go_roundw
          case rel => exact ⟨k + 1, by omega, by go_num, HN.out, hT.trans' hT'⟩
          case measure => simp [intOf]; omega
    · have hfin : atId xs id = none := atId_none fun j x hj => hno j x (by have := (List.getElem?_eq_some_iff.1 hj).1; omega) hj
      have HF := Lib.hid hfin
      clear hfin hno
      go_wp2
      go_ret
      exact ⟨_, rfl, by rw [HF.out]; rfl, hT⟩



theorem cellsInt {w : World} {g n cap k : Nat} {xs : List Int} {x : Int} (h : Tab IntK w (.slice (some ⟨g, 0, none⟩) n cap) xs) (hx : xs[k]? = some x) : w.cell? ⟨g, k, none⟩ = some (.int .i64 x) := by
  simpa [show IntK.sz = 1 from rfl] using h.cell (f := 0) hx rfl

theorem idxOf_none {xs : List Int} {v : Int} (h : ∀ (j : Nat) (x : Int), xs[j]? = some x → ¬ v = x) : xs.findIdx? (· == v) = none := by
  rw [List.findIdx?_eq_none_iff]
  intro x hx
  obtain ⟨j, hj⟩ := List.mem_iff_getElem?.1 hx
  simpa using fun e => h j x hj (Eq.symm e)
theorem idxOf_some {xs : List Int} {v : Int} {k : Nat} (hx : xs[k]? = some v) (h : ∀ (j : Nat) (y : Int), j < k → xs[j]? = some y → ¬ v = y) : xs.findIdx? (· == v) = some k := by
  rw [List.findIdx?_eq_some_iff_getElem]
  obtain ⟨hk, rfl⟩ := List.getElem?_eq_some_iff.1 hx
  exact ⟨hk, by simp, fun j hj => by simpa using fun e => h j _ hj (List.getElem?_eq_getElem (by omega)) (Eq.symm e)⟩

theorem index_any (u : Value) (xs : List Int) (v : Int) (w : World) (ht : Tab IntK w u xs) :
    Rets Try.prog 41 #[u, .int .i64 v] w fun r w' => r = .int .i64 (ix (xs.findIdx? (· == v))) ∧ Tch [] w w' := by
  unfold Rets
  have hmax : xs.length ≤ 9223372036854775807 := ht.lenMax
  obtain ⟨a, cap, rfl⟩ := ht.slice
  go_enter Try.func41, Try.ntmps41
  go_wp2
  go_loop [8] (fun i => ∃ k : Nat, k ≤ xs.length ∧ i = .int .i64 k ∧ (∀ (j : Nat) (x : Int), j < k → xs[j]? = some x → ¬ v = x)) (fun i => xs.length - (intOf i).toNat)
  case atStart => exact ⟨0, Nat.zero_le _, rfl, fun _ _ h => absurd h (by omega)⟩
  case round =>
    obtain ⟨k, hk, rfl, hno⟩ := hrel
    by_cases hlt : k < xs.length
    · obtain ⟨x, hx⟩ : ∃ x, xs[k]? = some x := ⟨_, List.getElem?_eq_getElem hlt⟩
      rcases ht.form with ⟨_, h0⟩ | ⟨g, cap', hv, _⟩
      · rw [h0] at hlt; simp at hlt
      · cases hv
        have c0 := cellsInt ht hx
        by_cases hid : v = x
        · have hb : (v == x) = true := by simpa using hid
          have HF := Lib.hid (idxOf_some (hid ▸ hx) hno)
          clear hid hno hx
          go_wp2
          go_ret
          exact ⟨_, rfl, by rw [HF.out]; rfl, Tch.refl _ _⟩
        · have hb : (v == x) = false := by simpa using hid
          have hno' : ∀ (j : Nat) (y : Int), j < k + 1 → xs[j]? = some y → ¬ v = y := fun j y hj hy => by
            rcases Nat.lt_succ_iff_lt_or_eq.1 hj with h | rfl
            · exact hno j y h hy
            · rw [hx] at hy; cases hy; exact hid
          have HN := Lib.hid hno'
          clear hno' hno hid hx
          go_wp2
          go_round
          case rel => exact ⟨k + 1, by omega, by go_num, HN.out⟩
          case measure => simp [intOf]; omega
    · have HF := Lib.hid (idxOf_none fun j x hj => hno j x (by have := (List.getElem?_eq_some_iff.1 hj).1; omega) hj)
      clear hno
      go_wp2
      go_ret
      exact ⟨_, rfl, by rw [HF.out]; rfl, Tch.refl _ _⟩

theorem contains_any (u : Value) (xs : List Int) (v : Int) (w : World) (ht : Tab IntK w u xs) :
    Rets Try.prog 44 #[u, .int .i64 v] w fun r w' => r = .bool (xs.contains v) ∧ Tch [] w w' := by
  unfold Rets
  have hc : (decide (0 ≤ ix (xs.findIdx? (· == v)))) = xs.contains v := by
    cases h : xs.findIdx? (· == v) with
    | none =>
      rw [List.findIdx?_eq_none_iff] at h
      have : xs.contains v = false := by
        rw [Bool.eq_false_iff]
        intro hc
        have := h v (List.contains_iff_mem.1 hc)
        simp at this
      rw [this]; rfl
    | some k =>
      have hk := List.findIdx?_eq_some_iff_getElem.1 h
      obtain ⟨hlt, hx, _⟩ := hk
      have : xs.contains v = true := List.contains_iff_mem.2 (by have := beq_iff_eq.1 hx; rw [← this]; exact List.getElem_mem hlt)
      rw [this]; simp [ix]
  have HC := Lib.hid hc
  clear hc
  go_enter Try.func44, Try.ntmps44
  go_wp2_with (go_at_call 41; refine (index_any _ xs v _ ht).use ?_; rintro _ w' ⟨rfl, hT⟩)
  go_ret
  exact ⟨_, rfl, by rw [← HC.out]; rfl, hT⟩

theorem containsFunc_any (b : Nat) (u : Value) (xs : List G) (id : Int) (w : World) (ht : Tab GuestK w u xs) (hc : w.cell? ⟨b, 0, none⟩ = some (.int .i64 id)) :
    Rets Try.prog 45 #[u, .func (.func 46) #[] #[.pointer (some ⟨b, 0, none⟩)]] w fun r w' => r = .bool (xs.any fun q => q.id == id) ∧ Tch [] w w' := by
  unfold Rets
  have hc' : (decide (0 ≤ ix (atId xs id))) = xs.any fun q => q.id == id := by
    unfold atId
    cases h : xs.findIdx? (fun g => g.id == id) with
    | none =>
      rw [List.findIdx?_eq_none_iff] at h
      have : (xs.any fun q => q.id == id) = false := by
        rw [List.any_eq_false]; intro x hx; simpa using h x hx
      rw [this]; rfl
    | some k =>
      obtain ⟨hlt, hx, _⟩ := List.findIdx?_eq_some_iff_getElem.1 h
      have : (xs.any fun q => q.id == id) = true := List.any_eq_true.2 ⟨_, List.getElem_mem hlt, hx⟩
      rw [this]; simp [ix]
  have HC := Lib.hid hc'
  clear hc'
  go_enter Try.func45, Try.ntmps45
  go_wp2_with (go_at_call 60; refine (indexFunc2_any b _ xs id _ ht hc).use ?_; rintro _ w' ⟨rfl, hT⟩)
  go_ret
  exact ⟨_, rfl, by rw [← HC.out]; rfl, hT⟩
end Go.Proofs.Ytdmgbfkioghkeaa
