/-
  The gate's methods, walked: Submit.
-/
import Derived.Test.YtdmgbfkioghkeaaGEnd
namespace Go.Proofs.Ytdmgbfkioghkeaa
open Go.RowKit Go.Ytdmgbfkioghkeaa Go.Ytdmgbfkioghkeaa.Gt Go.Ytdmgbfkioghkeaa.Reg Go.MuLone

theorem submit_arg {s : Gate} {id : Int} (h : id < 1 ∨ 1073741824 < id) : s.submit id = (0, 1, s) := by unfold Gate.submit; rw [if_pos h]
theorem submit_known {s : Gate} {id : Int} (h : ¬ (id < 1 ∨ 1073741824 < id)) (h2 : (s.inside.contains id || s.queue.any (fun q => q.id == id)) = true) : s.submit id = (0, 151, s) := by
  unfold Gate.submit; rw [if_neg h, if_pos h2]
theorem submit_crowd {s : Gate} {id : Int} (h : ¬ (id < 1 ∨ 1073741824 < id)) (h2 : ¬ (s.inside.contains id || s.queue.any (fun q => q.id == id)) = true) (h3 : 64 ≤ s.inside.length + s.queue.length) :
    s.submit id = (0, 153, s) := by unfold Gate.submit; rw [if_neg h, if_neg h2, if_pos h3]
theorem submit_ok {s : Gate} {id : Int} (h : ¬ (id < 1 ∨ 1073741824 < id)) (h2 : ¬ (s.inside.contains id || s.queue.any (fun q => q.id == id)) = true) (h3 : ¬ 64 ≤ s.inside.length + s.queue.length) :
    s.submit id = (s.stamp + 1, 0, { s with stamp := s.stamp + 1, queue := s.queue ++ [⟨id, s.stamp + 1, 0⟩] }) := by unfold Gate.submit; rw [if_neg h, if_neg h2, if_neg h3]

theorem gatePost_refl {w w' : World} {b : Nat} {vq vi vt : Value} {s : Gate} (h : GateIs w' b vq vi vt s 0) (hT : Tch (foot b vq vi vt) w w') : GatePost w b (foot b vq vi vt) s w' :=
  ⟨_, ⟨_, _, _, h, rfl⟩, hT, fun _ hk => .inl hk⟩

theorem submit_no (b : Nat) (F : List Nat) (s : Gate) (id : Int) (w : World) (hg : GateAt w b F s) (hid : id < 1 ∨ 1073741824 < id) :
    Rets Try.prog 28 #[.pointer (some ⟨b, 0, none⟩), .int .i64 id] w fun u w' => u = .tuple #[.int .i64 (s.submit id).1, .int .i64 (s.submit id).2.1] ∧ GatePost w b F (s.submit id).2.2 w' := by
  obtain ⟨vq, vi, vt, hg, rfl⟩ := hg
  unfold Rets
  rw [submit_arg hid]
  have hP : GatePost w b (foot b vq vi vt) s (w.alloc (.cells #[.int .i64 id] 3)) := gatePost_refl (hg.alloc _) ((Tch.refl _ _).alloc _)
  rcases hid with h | h
  · go_enter_defers Try.func28, Try.ntmps28
    go_wp2
    exact ⟨_, results_tmp2 rfl _ _ _, _, rfl, rfl, hP⟩
  · have h1 : ¬ id < 1 := by omega
    have h2 : decide (id < 1) = false := by simpa using h1
    go_enter_defers Try.func28, Try.ntmps28
    go_wp2
    exact ⟨_, results_tmp2 rfl _ _ _, _, rfl, rfl, hP⟩

set_option maxRecDepth 100000 in
set_option maxHeartbeats 1000000 in
theorem submit_yes (b : Nat) (F : List Nat) (s : Gate) (id : Int) (w : World) (hg : GateAt w b F s) (hf : Fits s) (hid1 : 1 ≤ id) (hid2 : id ≤ 1073741824) :
    Rets Try.prog 28 #[.pointer (some ⟨b, 0, none⟩), .int .i64 id] w fun u w' => u = .tuple #[.int .i64 (s.submit id).1, .int .i64 (s.submit id).2.1] ∧ GatePost w b F (s.submit id).2.2 w' := by
  obtain ⟨vq, vi, vt, hg, rfl⟩ := hg
  unfold Rets
  have hnid : ¬ (id < 1 ∨ 1073741824 < id) := by omega
  have h0 := hg.alloc (.cells #[.int .i64 id] 3)
  have h1 := h0.setLock 1
  have hmf : ∀ (fn : Fn) (first cap : Array Value) (w : World), (Instr.makeFunc fn first cap).run Try.prog w = .ok (.func fn first cap) w := fun _ _ _ _ => rfl
  have hnf : w.heap.size ∉ foot b vq vi vt := fun h => by have := hg.mem _ h; omega
  have hnb : w.heap.size ≠ b := fun h => hnf (by simp [foot, h])
  have hbox : ((w.alloc (.cells #[.int .i64 id] 3)).setCell ⟨b, 0, none⟩ (.int .i32 1)).cell? ⟨w.heap.size, 0, none⟩ = some (.int .i64 id) := by
    rw [World.cell?_setCell_other _ _ _ _ (by intro h; exact hnb (congrArg Addr.block h).symm)]
    exact (Blk.new w _ _).cell 0
  have hT1 : Tch (foot b vq vi vt) w ((w.alloc (.cells #[.int .i64 id] 3)).setCell ⟨b, 0, none⟩ (.int .i32 1)) := ((Tch.refl _ _).alloc _).setCell (.inl (by simp [foot])) _
  have hd1 : decide (id < 1) = false := by simp; omega
  have hd2 : decide (1073741824 < id) = false := by simp; omega
  have fi := hf.inside
  have fq := hf.queue
  cases hci : s.inside.contains id with
  | true =>
    have hp := submit_known hnid (by rw [hci]; rfl)
    have HP := Lib.hid hp
    have HCI := Lib.hid hci
    clear hp hci hnid
    go_enter_defers Try.func28, Try.ntmps28
    go_wp2_with (go_at_call 36; refine (lock_free Try.muLib ⟨b, 0, none⟩ _ ?_ ?_).mono ?_; (exact h0.blk.cell 0); (exact h0.blk.frozen 0); rintro e w' ⟨rfl, rfl⟩)
    clear h0
    generalize (w.alloc (.cells #[.int .i64 id] 3)).setCell ⟨b, 0, none⟩ (.int .i32 1) = w1 at *
    obtain ⟨e0, e2, e3, e4, e5, e6, e7, e8, e9⟩ := gate_cells h1.blk
    refine wp_region_text (by kernel_rfl) (by kernel_rfl) ?_
    go_wp2_with (go_at_call 44; refine (contains_any _ s.inside id _ h1.drew.i).use ?_; rintro _ w2 ⟨rfl, hT2⟩; rw [HCI.out])
    refine ⟨by kernel_rfl, ?_⟩
    have h2 := h1.drew.kept hT2 (by simp)
    go_wp2
    refine leaves_cons (f := 37) (args := #[.pointer (some ⟨b, 0, none⟩)]) (by simp) (by simp [go_sem]) ?_
    refine (unlock_deferred Try.muLib ⟨b, 0, none⟩ .returning _ (h2.blk.cell 0) (h2.blk.frozen 0)).mono ?_
    rintro e u' w'' ⟨rfl, rfl, rfl⟩
    exact ⟨_, results_tmp2 rfl _ _ _, _, rfl, by rw [HP.out]; rfl, by rw [HP.out]; exact gatePost_refl (h2.setLock 0) ((hT1.drew.trans hT2 (by simp)).setCell (.inl (by simp [foot])) _)⟩
  | false =>
  cases hcq : s.queue.any (fun q => q.id == id) with
  | true =>
    have hp := submit_known hnid (by rw [hci, hcq]; rfl)
    have HP := Lib.hid hp
    have HCI := Lib.hid hci
    have HCQ := Lib.hid hcq
    clear hp hci hcq hnid
    go_enter_defers Try.func28, Try.ntmps28
    go_wp2_with (go_at_call 36; refine (lock_free Try.muLib ⟨b, 0, none⟩ _ ?_ ?_).mono ?_; (exact h0.blk.cell 0); (exact h0.blk.frozen 0); rintro e w' ⟨rfl, rfl⟩)
    clear h0
    generalize (w.alloc (.cells #[.int .i64 id] 3)).setCell ⟨b, 0, none⟩ (.int .i32 1) = w1 at *
    obtain ⟨e0, e2, e3, e4, e5, e6, e7, e8, e9⟩ := gate_cells h1.blk
    refine wp_region_text (by kernel_rfl) (by kernel_rfl) ?_
    go_wp2_with (first
      | (go_at_call 44; refine (contains_any _ s.inside id _ h1.drew.i).use ?_; rintro _ w2 ⟨rfl, hT2⟩; rw [HCI.out]; have h2 := h1.drew.kept hT2 (by simp); obtain ⟨j0, j2, j3, j4, j5, j6, j7, j8, j9⟩ := gate_cells h2.blk; have hbox2 : w2.cell? ⟨w.heap.size, 0, none⟩ = some (.int .i64 id) := (hT2.cell (p := ⟨w.heap.size, 0, none⟩) (World.block_lt_of_cell? _ _ hbox) (by simp)).trans hbox)
      | (go_at_call 45; refine (containsFunc_any w.heap.size _ s.queue id _ h2.q hbox2).use ?_; rintro _ w3 ⟨rfl, hT3⟩; rw [HCQ.out]))
    refine ⟨by kernel_rfl, ?_⟩
    have h3 := h2.kept hT3 (by simp)
    go_wp2
    refine leaves_cons (f := 37) (args := #[.pointer (some ⟨b, 0, none⟩)]) (by simp) (by simp [go_sem]) ?_
    refine (unlock_deferred Try.muLib ⟨b, 0, none⟩ .returning _ (h3.blk.cell 0) (h3.blk.frozen 0)).mono ?_
    rintro e u' w'' ⟨rfl, rfl, rfl⟩
    exact ⟨_, results_tmp2 rfl _ _ _, _, rfl, by rw [HP.out]; rfl, by rw [HP.out]; exact gatePost_refl (h3.setLock 0) (((hT1.drew.trans hT2 (by simp)).trans hT3 (by simp)).setCell (.inl (by simp [foot])) _)⟩
  | false =>
    have hn2 : ¬ (s.inside.contains id || s.queue.any (fun q => q.id == id)) = true := by rw [hci, hcq]; simp
    have HCI := Lib.hid hci
    have HCQ := Lib.hid hcq
    have HN2 := Lib.hid hn2
    clear hci hcq hn2
    go_enter_defers Try.func28, Try.ntmps28
    go_wp2_with (go_at_call 36; refine (lock_free Try.muLib ⟨b, 0, none⟩ _ ?_ ?_).mono ?_; (exact h0.blk.cell 0); (exact h0.blk.frozen 0); rintro e w' ⟨rfl, rfl⟩)
    clear h0
    generalize (w.alloc (.cells #[.int .i64 id] 3)).setCell ⟨b, 0, none⟩ (.int .i32 1) = w1 at *
    obtain ⟨e0, e2, e3, e4, e5, e6, e7, e8, e9⟩ := gate_cells h1.blk
    refine wp_region_text (by kernel_rfl) (by kernel_rfl) ?_
    go_wp2_with (first
      | (go_at_call 44; refine (contains_any _ s.inside id _ h1.drew.i).use ?_; rintro _ w2 ⟨rfl, hT2⟩; rw [HCI.out]; have h2 := h1.drew.kept hT2 (by simp); obtain ⟨j0, j2, j3, j4, j5, j6, j7, j8, j9⟩ := gate_cells h2.blk; have hbox2 : w2.cell? ⟨w.heap.size, 0, none⟩ = some (.int .i64 id) := (hT2.cell (p := ⟨w.heap.size, 0, none⟩) (World.block_lt_of_cell? _ _ hbox) (by simp)).trans hbox)
      | (go_at_call 45; refine (containsFunc_any w.heap.size _ s.queue id _ h2.q hbox2).use ?_; rintro _ w3 ⟨rfl, hT3⟩; rw [HCQ.out]))
    refine ⟨by kernel_rfl, ?_⟩
    have h3 := h2.kept hT3 (by simp)
    have hTT := (hT1.drew.trans hT2 (by simp)).trans hT3 (by simp)
    have hbox3 : w3.cell? ⟨w.heap.size, 0, none⟩ = some (.int .i64 id) := (hT3.cell (p := ⟨w.heap.size, 0, none⟩) (World.block_lt_of_cell? _ _ hbox2) (by simp)).trans hbox2
    clear e0 e2 e3 e4 e5 e6 e7 e8 e9 j0 j2 j3 j4 j5 j6 j7 j8 j9 hbox hbox2 h1 h2 hT1 hT2 hT3
    obtain ⟨ai, ci, hvi⟩ := h3.i.slice
    obtain ⟨aq, cq, hvq⟩ := h3.q.slice
    subst hvi
    subst hvq
    obtain ⟨e0, e2, e3, e4, e5, e6, e7, e8, e9⟩ := gate_cells h3.blk
    have e10 : ∀ j, w3.frozen? ⟨b, j, none⟩ = false := fun j => h3.blk.frozen j
    have hbl := h3.blk.lt
    go_wp2
    refine wp_region_text (by kernel_rfl) (by kernel_rfl) ?_
    go_wp2
    refine ⟨by kernel_rfl, ?_⟩
    have h4 := h3.drew
    by_cases hcr : 64 ≤ s.inside.length + s.queue.length
    · have hp := submit_crowd hnid HN2.out hcr
      have HP := Lib.hid hp
      clear hp hnid
      go_wp2
      refine leaves_cons (f := 37) (args := #[.pointer (some ⟨b, 0, none⟩)]) (by simp) (by simp [go_sem]) ?_
      refine (unlock_deferred Try.muLib ⟨b, 0, none⟩ .returning _ (h4.blk.cell 0) (h4.blk.frozen 0)).mono ?_
      rintro e u' w'' ⟨rfl, rfl, rfl⟩
      exact ⟨_, results_tmp2 rfl _ _ _, _, rfl, by rw [HP.out]; rfl, by rw [HP.out]; exact gatePost_refl (h4.setLock 0) (hTT.drew.setCell (.inl (by simp [foot])) _)⟩
    · have hp := submit_ok hnid HN2.out hcr
      have HP := Lib.hid hp
      clear hp hnid
      have fs0 := hf.stamp0
      have fs1 := hf.stamp1
      have h5 : GateIs (w3.setCell ⟨b, 4, none⟩ (.int .i64 (s.stamp + 1))).drew b (.slice aq s.queue.length cq) (.slice ai s.inside.length ci) vt { s with stamp := s.stamp + 1 } 1 :=
        GateIs.drew ⟨h3.blk.set 4 (.int .i64 (s.stamp + 1)), h3.q.other h3.bq _, h3.i.other h3.bi _, h3.t.other h3.bt _, h3.bq, h3.bi, h3.bt, h3.qi, h3.qt, h3.it⟩
      have hT5 : Tch (foot b (.slice aq s.queue.length cq) (.slice ai s.inside.length ci) vt) w (w3.setCell ⟨b, 4, none⟩ (.int .i64 (s.stamp + 1))).drew := (hTT.setCell (.inl (by simp [foot])) _).drew
      have hbox5 : (w3.setCell ⟨b, 4, none⟩ (.int .i64 (s.stamp + 1))).drew.cell? ⟨w.heap.size, 0, none⟩ = some (.int .i64 id) := by
        show (w3.setCell ⟨b, 4, none⟩ (.int .i64 (s.stamp + 1))).cell? ⟨w.heap.size, 0, none⟩ = some (.int .i64 id)
        rw [World.cell?_setCell_other _ _ _ _ (by intro h; exact hnb (congrArg Addr.block h).symm)]
        exact hbox3
      go_wp2
      clear h3 h4 hTT hbox3 e0 e2 e3 e4 e5 e6 e7 e8 e9 e10
      generalize (w3.setCell ⟨b, 4, none⟩ (.int .i64 (s.stamp + 1))).drew = w5 at *
      obtain ⟨e0, e2, e3, e4, e5, e6, e7, e8, e9⟩ := gate_cells h5.blk
      have e10 : ∀ j, w5.frozen? ⟨b, j, none⟩ = false := fun j => h5.blk.frozen j
      have hbx := World.block_lt_of_cell? _ _ hbox5
      have hbl5 := h5.blk.lt
      refine wp_region_text (by kernel_rfl) (by kernel_rfl) ?_
      go_wp2_with (at_builtin; refine wpList_append_tab (v := .slice aq s.queue.length cq) guestAt' rfl _ _ rfl rfl ((h5.q.alloc _).drew) _ _ _ [⟨id, s.stamp + 1, 0⟩] rfl rfl (by exact news_one GuestK ⟨id, s.stamp + 1, 0⟩ (Blk.last _ _ _ rfl).drew) (by simp [maxLen]; omega) (by simp; omega) ?_; intro v' w6 ht6 hg6 hfr6; obtain ⟨a6, cap6, hv6⟩ := ht6.slice; rw [show (s.queue ++ [(⟨id, s.stamp + 1, 0⟩ : G)]).length = s.queue.length + 1 from by simp] at hv6; subst hv6; have hb6 := ((h5.blk.alloc _).drew).grown hg6 (Ne.symm h5.bq); obtain ⟨j0, j2, j3, j4, j5, j6, j7, j8, j9⟩ := gate_cells hb6; have j10 : ∀ j, w6.frozen? ⟨b, j, none⟩ = false := fun j => hb6.frozen j)
      refine ⟨by kernel_rfl, ?_⟩
      have hT6 := ((Tch.refl ((Value.slice aq s.queue.length cq).ownBlock.toList) w5).alloc (.cells #[.int .i64 id, .int .i64 (s.stamp + 1), .int .i64 0] 62)).drew.grown hg6 (fun k hk => .inl (by rw [hk]; simp))
      have hnew : NewOr w5 (.slice aq s.queue.length cq) (.slice a6 (s.queue.length + 1) cap6) := hfr6.newOr (by simp)
      have hqb : (Value.slice a6 (s.queue.length + 1) cap6).ownBlock ≠ some b := fun h => by
        rcases hnew b h with h1 | h1
        · exact h5.bq h1
        · omega
      have hT7 := hT5.trans hT6 (fun x hx => .inl (by simp only [foot, List.mem_cons, List.mem_append]; exact .inr (.inl hx)))
      have h7 : GateIs (w6.setCell ⟨b, 6, none⟩ (.slice a6 (s.queue.length + 1) cap6)) b (.slice a6 (s.queue.length + 1) cap6) (.slice ai s.inside.length ci) vt { s with stamp := s.stamp + 1, queue := s.queue ++ [⟨id, s.stamp + 1, 0⟩] } 1 := by
        refine ⟨hb6.set 6 _, ht6.other (p := ⟨b, 6, none⟩) hqb _, (h5.i.touch hT6 (fun k hk hm => h5.qi k (by simpa using hm) hk)).other h5.bi _, (h5.t.touch hT6 (fun k hk hm => h5.qt k (by simpa using hm) hk)).other h5.bt _, hqb, h5.bi, h5.bt, fun k hk hv => ?_, fun k hk hv => ?_, h5.it⟩
        · rcases hnew k hk with h1 | h1
          · exact h5.qi k h1 hv
          · have := h5.i.block_lt hv; omega
        · rcases hnew k hk with h1 | h1
          · exact h5.qt k h1 hv
          · have := h5.t.block_lt hv; omega
      have hT8 := hT7.setCell (p := ⟨b, 6, none⟩) (.inl (by simp [foot])) (.slice a6 (s.queue.length + 1) cap6)
      have hF8 : ∀ k ∈ foot b (.slice a6 (s.queue.length + 1) cap6) (.slice ai s.inside.length ci) vt, k ∈ foot b (.slice aq s.queue.length cq) (.slice ai s.inside.length ci) vt ∨ w.heap.size ≤ k := fun k hk => by
        simp only [foot, List.mem_cons, List.mem_append, Option.mem_toList] at hk ⊢
        rcases hk with hk | hk | hk | hk
        · exact .inl (.inl hk)
        · rcases hnew k hk with h1 | h1
          · exact .inl (.inr (.inl h1))
          · exact .inr (by have := hT5.size; omega)
        · exact .inl (.inr (.inr (.inl hk)))
        · exact .inl (.inr (.inr (.inr hk)))
      clear j0 j2 j3 j4 j5 j6 j7 j8 j9 j10 e0 e2 e3 e4 e5 e6 e7 e8 e9 e10 h5 hT5 hbox5 hb6 ht6 hg6 hT6 hnew hT7 hfr6
      generalize w6.setCell ⟨b, 6, none⟩ (.slice a6 (s.queue.length + 1) cap6) = w7 at *
      obtain ⟨e0, e2, e3, e4, e5, e6, e7, e8, e9⟩ := gate_cells h7.blk
      go_wp2
      refine leaves_cons (f := 37) (args := #[.pointer (some ⟨b, 0, none⟩)]) (by simp) (by simp [go_sem]) ?_
      refine (unlock_deferred Try.muLib ⟨b, 0, none⟩ .returning _ (h7.blk.cell 0) (h7.blk.frozen 0)).mono ?_
      rintro e u' w'' ⟨rfl, rfl, rfl⟩
      exact ⟨_, results_tmp2 rfl _ _ _, _, rfl, by rw [HP.out]; rfl, _, ⟨_, _, _, by rw [HP.out]; exact h7.setLock 0, rfl⟩, hT8.setCell (.inl (by simp [foot])) _, hF8⟩

theorem submit_any (b : Nat) (F : List Nat) (s : Gate) (id : Int) (w : World) (hg : GateAt w b F s) (hf : Fits s) :
    Rets Try.prog 28 #[.pointer (some ⟨b, 0, none⟩), .int .i64 id] w fun u w' => u = .tuple #[.int .i64 (s.submit id).1, .int .i64 (s.submit id).2.1] ∧ GatePost w b F (s.submit id).2.2 w' := by
  by_cases h : id < 1 ∨ 1073741824 < id
  · exact submit_no b F s id w hg h
  · exact submit_yes b F s id w hg hf (by omega) (by omega)
end Go.Proofs.Ytdmgbfkioghkeaa
