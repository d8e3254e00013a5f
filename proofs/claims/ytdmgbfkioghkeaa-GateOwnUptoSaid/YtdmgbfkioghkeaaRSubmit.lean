/-
  The document's gate, walked: Submit.
-/
import Derived.Test.YtdmgbfkioghkeaaRGate
namespace Go.Proofs.Ytdmgbfkioghkeaa
open Go.RowKit Go.Ytdmgbfkioghkeaa Go.Ytdmgbfkioghkeaa.Gt Go.Ytdmgbfkioghkeaa.Reg

theorem rsubmit_arg {r : RGate} {id : Int} (h : id < 1 ∨ 1073741824 < id) : r.submit id = (0, 1, r) := by unfold RGate.submit; rw [if_pos h]
theorem rsubmit_known {r : RGate} {id : Int} (h : ¬ (id < 1 ∨ 1073741824 < id)) (h2 : ((atId r.queue id).isSome || (atId r.inside id).isSome) = true) : r.submit id = (0, 151, r) := by
  unfold RGate.submit; rw [if_neg h, if_pos h2]
theorem rsubmit_crowd {r : RGate} {id : Int} (h : ¬ (id < 1 ∨ 1073741824 < id)) (h2 : ¬ ((atId r.queue id).isSome || (atId r.inside id).isSome) = true) (h3 : 64 ≤ r.queue.length + r.inside.length) :
    r.submit id = (0, 153, r) := by unfold RGate.submit; rw [if_neg h, if_neg h2, if_pos h3]
theorem rsubmit_ok {r : RGate} {id : Int} (h : ¬ (id < 1 ∨ 1073741824 < id)) (h2 : ¬ ((atId r.queue id).isSome || (atId r.inside id).isSome) = true) (h3 : ¬ 64 ≤ r.queue.length + r.inside.length) :
    r.submit id = (r.stamp + 1, 0, { r with stamp := r.stamp + 1, queue := r.queue ++ [⟨id, r.stamp + 1, 0⟩] }) := by unfold RGate.submit; rw [if_neg h, if_neg h2, if_neg h3]

theorem rsubmit_no (b : Nat) (F : List Nat) (r : RGate) (id : Int) (w : World) (hg : RefAt w b F r) (hid : id < 1 ∨ 1073741824 < id) :
    Rets Try.prog 50 #[.pointer (some ⟨b, 0, none⟩), .int .i64 id] w fun u w' => u = .tuple #[.int .i64 (r.submit id).1, .int .i64 (r.submit id).2.1] ∧ RefPost w b F (r.submit id).2.2 w' := by
  obtain ⟨vq, vi, hg, rfl⟩ := hg
  unfold Rets
  rw [rsubmit_arg hid]
  have hP : RefPost w b (rfoot b vq vi) r w := refPost_refl hg (Tch.refl _ _)
  rcases hid with h | h
  · go_enter Try.func50, Try.ntmps50
    go_wp2
    go_ret2
    exact ⟨_, rfl, rfl, hP⟩
  · have h1 : ¬ id < 1 := by omega
    have h2 : decide (id < 1) = false := by simpa using h1
    go_enter Try.func50, Try.ntmps50
    go_wp2
    go_ret2
    exact ⟨_, rfl, rfl, hP⟩

theorem ix_some {i : Nat} : ¬ ((i : Int) < 0) := by omega

set_option maxRecDepth 100000 in
set_option maxHeartbeats 1000000 in
theorem rsubmit_yes (b : Nat) (F : List Nat) (r : RGate) (id : Int) (w : World) (hg : RefAt w b F r) (hf : RFits r) (hid1 : 1 ≤ id) (hid2 : id ≤ 1073741824) :
    Rets Try.prog 50 #[.pointer (some ⟨b, 0, none⟩), .int .i64 id] w fun u w' => u = .tuple #[.int .i64 (r.submit id).1, .int .i64 (r.submit id).2.1] ∧ RefPost w b F (r.submit id).2.2 w' := by
  obtain ⟨vq, vi, hg, rfl⟩ := hg
  unfold Rets
  have hnid : ¬ (id < 1 ∨ 1073741824 < id) := by omega
  have hd1 : decide (id < 1) = false := by simp; omega
  have hd2 : decide (1073741824 < id) = false := by simp; omega
  have fi := hf.inside
  have fq := hf.queue
  obtain ⟨c0, c1, c2, c3, c4, c5, c6, c7⟩ := ref_cells hg.blk
  cases hci : atId r.queue id with
  | some i =>
    have hp := rsubmit_known hnid (by rw [hci]; rfl)
    have HP := Lib.hid hp
    have HCI := Lib.hid hci
    have hi0 : decide ((0 : Int) ≤ (i : Int)) = true := by simp
    clear hp hci hnid
    cases hcq : atId r.inside id with
    | some k =>
      have HCQ := Lib.hid hcq
      clear hcq
      go_enter Try.func50, Try.ntmps50
      go_wp2_with (go_at_call 61; refine (rat_any _ _ id _ (by first | exact hg.q | exact hg.i)).use ?_; rintro _ w1 ⟨rfl, rfl⟩; (first | rw [HCI.out] | rw [HCQ.out]); dsimp only [ix])
      go_ret2
      exact ⟨_, rfl, by rw [HP.out]; rfl, by rw [HP.out]; exact refPost_refl hg (Tch.refl _ _)⟩
    | none =>
      have HCQ := Lib.hid hcq
      clear hcq
      go_enter Try.func50, Try.ntmps50
      go_wp2_with (go_at_call 61; refine (rat_any _ _ id _ (by first | exact hg.q | exact hg.i)).use ?_; rintro _ w1 ⟨rfl, rfl⟩; (first | rw [HCI.out] | rw [HCQ.out]); dsimp only [ix])
      go_ret2
      exact ⟨_, rfl, by rw [HP.out]; rfl, by rw [HP.out]; exact refPost_refl hg (Tch.refl _ _)⟩
  | none =>
  cases hcq : atId r.inside id with
  | some i =>
    have hp := rsubmit_known hnid (by rw [hci, hcq]; rfl)
    have HP := Lib.hid hp
    have HCI := Lib.hid hci
    have HCQ := Lib.hid hcq
    have hi0 : decide ((0 : Int) ≤ (i : Int)) = true := by simp
    clear hp hci hcq hnid
    go_enter Try.func50, Try.ntmps50
    go_wp2_with (go_at_call 61; refine (rat_any _ _ id _ (by first | exact hg.q | exact hg.i)).use ?_; rintro _ w1 ⟨rfl, rfl⟩; (first | rw [HCI.out] | rw [HCQ.out]); dsimp only [ix])
    go_ret2
    exact ⟨_, rfl, by rw [HP.out]; rfl, by rw [HP.out]; exact refPost_refl hg (Tch.refl _ _)⟩
  | none =>
    have hn2 : ¬ ((atId r.queue id).isSome || (atId r.inside id).isSome) = true := by rw [hci, hcq]; simp
    have HCI := Lib.hid hci
    have HCQ := Lib.hid hcq
    have HN2 := Lib.hid hn2
    clear hci hcq hn2
    obtain ⟨ai, ci, hvi⟩ := hg.i.slice
    obtain ⟨aq, cq, hvq⟩ := hg.q.slice
    subst hvi
    subst hvq
    have e10 : ∀ j, w.frozen? ⟨b, j, none⟩ = false := fun j => hg.blk.frozen j
    have hbl := hg.blk.lt
    go_enter Try.func50, Try.ntmps50
    go_wp2_with (go_at_call 61; refine (rat_any _ _ id _ (by first | exact hg.q | exact hg.i)).use ?_; rintro _ w1 ⟨rfl, rfl⟩; (first | rw [HCI.out] | rw [HCQ.out]); dsimp only [ix])
    refine wp_region_text (by kernel_rfl) (by kernel_rfl) ?_
    go_wp2
    refine ⟨by kernel_rfl, ?_⟩
    have h4 := hg.drew
    by_cases hcr : 64 ≤ r.queue.length + r.inside.length
    · have hp := rsubmit_crowd hnid HN2.out hcr
      have HP := Lib.hid hp
      clear hp hnid
      go_wp2
      go_ret2
      exact ⟨_, rfl, by rw [HP.out]; rfl, by rw [HP.out]; exact refPost_refl h4 (Tch.refl _ _).drew⟩
    · have hp := rsubmit_ok hnid HN2.out hcr
      have HP := Lib.hid hp
      clear hp hnid
      have fs0 := hf.stamp0
      have fs1 := hf.stamp1
      go_wp2
      have h5 : RefIs (w1.setCell ⟨b, 5, none⟩ (.int .i64 (r.stamp + 1))).drew b (.slice aq r.queue.length cq) (.slice ai r.inside.length ci) { r with stamp := r.stamp + 1 } :=
        RefIs.drew ⟨hg.blk.set 5 (.int .i64 (r.stamp + 1)), hg.q.other (p := ⟨b, 5, none⟩) hg.bq _, hg.i.other (p := ⟨b, 5, none⟩) hg.bi _, hg.bq, hg.bi, hg.qi⟩
      have hT5 : Tch (rfoot b (.slice aq r.queue.length cq) (.slice ai r.inside.length ci)) w1 (w1.setCell ⟨b, 5, none⟩ (.int .i64 (r.stamp + 1))).drew := ((Tch.refl _ _).setCell (.inl (by simp [rfoot])) _).drew
      clear h4 c0 c1 c2 c3 c4 c5 c6 c7 e10
      generalize (w1.setCell ⟨b, 5, none⟩ (.int .i64 (r.stamp + 1))).drew = w5 at *
      obtain ⟨e0, e1, e2, e3, e4, e5, e6, e7⟩ := ref_cells h5.blk
      have e10 : ∀ j, w5.frozen? ⟨b, j, none⟩ = false := fun j => h5.blk.frozen j
      have hbl5 := h5.blk.lt
      refine wp_region_text (by kernel_rfl) (by kernel_rfl) ?_
      go_wp2_with (at_builtin; refine wpList_append_tab (v := .slice aq r.queue.length cq) oneAt rfl _ _ rfl rfl ((h5.q.alloc _).drew) _ _ _ [⟨id, r.stamp + 1, 0⟩] rfl rfl (by exact news_one OneK ⟨id, r.stamp + 1, 0⟩ (Blk.last _ _ _ rfl).drew) (by simp [maxLen]; omega) (by simp; omega) ?_; intro v' w6 ht6 hg6 hfr6; obtain ⟨a6, cap6, hv6⟩ := ht6.slice; rw [show (r.queue ++ [(⟨id, r.stamp + 1, 0⟩ : G)]).length = r.queue.length + 1 from by simp] at hv6; subst hv6; have hb6 := ((h5.blk.alloc _).drew).grown hg6 (Ne.symm h5.bq); obtain ⟨j0, j1, j2, j3, j4, j5, j6, j7⟩ := ref_cells hb6; have j10 : ∀ j, w6.frozen? ⟨b, j, none⟩ = false := fun j => hb6.frozen j)
      refine ⟨by kernel_rfl, ?_⟩
      have hT6 := ((Tch.refl ((Value.slice aq r.queue.length cq).ownBlock.toList) w5).alloc _).drew.grown hg6 (fun k hk => .inl (by rw [hk]; simp))
      have hnew : NewOr w5 (.slice aq r.queue.length cq) (.slice a6 (r.queue.length + 1) cap6) := hfr6.newOr (by simp)
      have hqb : (Value.slice a6 (r.queue.length + 1) cap6).ownBlock ≠ some b := fun h => by
        rcases hnew b h with h1 | h1
        · exact h5.bq h1
        · omega
      have hT7 := hT5.trans hT6 (fun x hx => .inl (by simp only [rfoot, List.mem_cons, List.mem_append]; exact .inr (.inl hx)))
      have h7 : RefIs (w6.setCell ⟨b, 6, none⟩ (.slice a6 (r.queue.length + 1) cap6)) b (.slice a6 (r.queue.length + 1) cap6) (.slice ai r.inside.length ci) { r with stamp := r.stamp + 1, queue := r.queue ++ [⟨id, r.stamp + 1, 0⟩] } := by
        refine ⟨hb6.set 6 _, ht6.other (p := ⟨b, 6, none⟩) hqb _, (h5.i.touch hT6 (fun k hk hm => h5.qi k (by simpa using hm) hk)).other h5.bi _, hqb, h5.bi, fun k hk hv => ?_⟩
        rcases hnew k hk with h1 | h1
        · exact h5.qi k h1 hv
        · have := h5.i.block_lt hv; omega
      have hT8 := hT7.setCell (p := ⟨b, 6, none⟩) (.inl (by simp [rfoot])) (.slice a6 (r.queue.length + 1) cap6)
      have hF8 : ∀ k ∈ rfoot b (.slice a6 (r.queue.length + 1) cap6) (.slice ai r.inside.length ci), k ∈ rfoot b (.slice aq r.queue.length cq) (.slice ai r.inside.length ci) ∨ w1.heap.size ≤ k := fun k hk => by
        simp only [rfoot, List.mem_cons, List.mem_append, Option.mem_toList] at hk ⊢
        rcases hk with hk | hk | hk
        · exact .inl (.inl hk)
        · rcases hnew k hk with h1 | h1
          · exact .inl (.inr (.inl h1))
          · exact .inr (by have := hT5.size; omega)
        · exact .inl (.inr (.inr hk))
      clear j0 j1 j2 j3 j4 j5 j6 j7 j10 e0 e1 e2 e3 e4 e5 e6 e7 e10 h5 hT5 hb6 ht6 hg6 hT6 hnew hT7 hfr6
      generalize w6.setCell ⟨b, 6, none⟩ (.slice a6 (r.queue.length + 1) cap6) = w7 at *
      obtain ⟨e0, e1, e2, e3, e4, e5, e6, e7⟩ := ref_cells h7.blk
      go_wp2
      go_ret2
      exact ⟨_, rfl, by rw [HP.out]; rfl, _, ⟨_, _, by rw [HP.out]; exact h7, rfl⟩, hT8, hF8⟩

theorem rsubmit_any (b : Nat) (F : List Nat) (r : RGate) (id : Int) (w : World) (hg : RefAt w b F r) (hf : RFits r) :
    Rets Try.prog 50 #[.pointer (some ⟨b, 0, none⟩), .int .i64 id] w fun u w' => u = .tuple #[.int .i64 (r.submit id).1, .int .i64 (r.submit id).2.1] ∧ RefPost w b F (r.submit id).2.2 w' := by
  by_cases h : id < 1 ∨ 1073741824 < id
  · exact rsubmit_no b F r id w hg h
  · exact rsubmit_yes b F r id w hg hf (by omega) (by omega)
end Go.Proofs.Ytdmgbfkioghkeaa
