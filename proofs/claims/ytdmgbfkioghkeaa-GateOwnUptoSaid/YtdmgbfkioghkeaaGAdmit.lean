/-
  The gate's methods, walked: Admit.
-/
import Derived.Test.YtdmgbfkioghkeaaGSubmit
import Derived.Deep.LoopGhost
namespace Go.Proofs.Ytdmgbfkioghkeaa
open Go.RowKit Go.Ytdmgbfkioghkeaa Go.Ytdmgbfkioghkeaa.Gt Go.Ytdmgbfkioghkeaa.Reg Go.MuLone

theorem Fits.enter {s : Gate} (h : Fits s) (hm : s.may = true) : Fits s.enter := by
  unfold Gate.may at hm
  simp only [Bool.and_eq_true, decide_eq_true_eq] at hm
  have := h.queue; have := h.inside; have := h.turn; have := h.turn1; have := h.most1; have := h.turnEq
  cases hq : s.queue with
  | nil => rw [hq] at hm; simp at hm
  | cons q rest =>
    have he : s.enter = { s with queue := rest, inside := s.inside ++ [q.id], turn := rise (s.turn ++ [{ q with last := s.clock }]) s.turn.length } := by unfold Gate.enter; rw [hq]
    have h1 : rest.length ≤ 64 := by have h9 := h.queue; rw [hq] at h9; simp at h9; omega
    rw [he]
    exact ⟨h1, by simp; omega, by simp [rise_length]; omega, by simp [rise_length], h.stamp0, h.stamp1, h.clock0, h.clock1, h.logged0, h.logged1, h.most0, h.most1, h.units0, h.units1, by simp [rise_length]; omega⟩

theorem admit_stop {s : Gate} {out : List Int} (h : s.may = false) : s.admit out = (out, s) := by
  rw [Gate.admit]
  split
  · rfl
  · rw [if_neg (by rw [h]; simp)]
theorem admit_go {s : Gate} {out : List Int} {q : G} {rest : List G} (hq : s.queue = q :: rest) (h : s.may = true) : s.admit out = s.enter.admit (out ++ [q.id]) := by
  rw [Gate.admit]
  split
  · rename_i h0; rw [hq] at h0; cases h0
  · rename_i q' rest' h0
    rw [hq] at h0; cases h0
    rw [if_pos h]

/-- The round's head. -/
def AdmitRel (w0 : World) (b : Nat) (F : List Nat) (s0 : Gate) (g : Nat) (vo : Value) (wr : World) : Prop :=
  ∃ s out vq vi vt, s.queue.length = g ∧ GateIs wr b vq vi vt s 1 ∧ Tab IntK wr vo out ∧ (∀ k, vo.ownBlock = some k → k ∉ foot b vq vi vt ∧ w0.heap.size ≤ k) ∧ s.admit out = s0.admit [] ∧
    out.length + s.queue.length ≤ 64 ∧ Fits s ∧ Tch F w0 wr ∧ ∀ k ∈ foot b vq vi vt, k ∈ F ∨ w0.heap.size ≤ k

/-- What Admit hands back. -/
def AdmitPost (w : World) (b : Nat) (F : List Nat) (s : Gate) (v : Value) (w' : World) : Prop :=
  ∃ F', GateAt w' b F' (s.admit []).2 ∧ Tch F w w' ∧ (∀ k ∈ F', k ∈ F ∨ w.heap.size ≤ k) ∧ Tab IntK w' v (s.admit []).1 ∧ ∀ k, v.ownBlock = some k → k ∉ F' ∧ w.heap.size ≤ k

theorem deleteGuest_0 (g cap : Nat) (xs : List G) (w : World) (ht : Tab GuestK w (.slice (some ⟨g, 0, none⟩) xs.length cap) xs) (hi : 0 < xs.length) :
    Rets Try.prog 47 #[.slice (some ⟨g, 0, none⟩) xs.length cap, .int .i64 0, .int .i64 1] w fun u w' => u = .slice (some ⟨g, 0, none⟩) (xs.length - 1) cap ∧
      Tab GuestK w' (.slice (some ⟨g, 0, none⟩) (xs.length - 1) cap) (xs.eraseIdx 0) ∧ Tch [g] w w' := deleteGuest_at g cap 0 xs w ht hi

set_option maxRecDepth 100000 in
set_option maxHeartbeats 2000000 in
theorem admit_any (b : Nat) (F : List Nat) (s : Gate) (w : World) (hg : GateAt w b F s) (hf : Fits s) :
    Rets Try.prog 30 #[.pointer (some ⟨b, 0, none⟩)] w fun u w' => AdmitPost w b F s u w' := by
  obtain ⟨vq, vi, vt, hg, rfl⟩ := hg
  unfold Rets
  have h1 := hg.setLock 1
  have hT1 : Tch (foot b vq vi vt) w (w.setCell ⟨b, 0, none⟩ (.int .i32 1)) := Tch.relock (by simp [foot])
  obtain ⟨F, hF⟩ : ∃ F, F = foot b vq vi vt := ⟨_, rfl⟩
  have hstart : AdmitRel w b F s s.queue.length (.slice none 0 0) (w.setCell ⟨b, 0, none⟩ (.int .i32 1)) :=
    ⟨s, [], vq, vi, vt, rfl, h1, Tab.nil IntK _, fun k hk => by simp [Value.ownBlock] at hk, rfl, by simpa using hf.queue, hf, hF ▸ hT1, fun k hk => .inl (hF ▸ hk)⟩
  have hbF : b ∈ F := by rw [hF]; simp [foot]
  rw [← hF]
  have HS := Lib.hid hstart
  go_enter_defers Try.func30, Try.ntmps30
  go_wp2_with (go_at_call 36; refine (lock_free Try.muLib ⟨b, 0, none⟩ _ ?_ ?_).mono ?_; (exact hg.blk.cell 0); (exact hg.blk.frozen 0); rintro e w' ⟨rfl, rfl⟩)
  clear h1 hT1 hstart hg hF
  generalize w.setCell ⟨b, 0, none⟩ (.int .i32 1) = w1 at *
  go_loopg [3] s.queue.length (fun g vo wr => AdmitRel w b F s g vo wr)
  case atStart => exact HS.out
  case round =>
    obtain ⟨s1, out, vq1, vi1, vt1, hgk, h1, hto, hdis, hadm, hb2, hf1, hT1, hF1⟩ := hrel
    subst hgk
    have HADM := Lib.hid hadm
    have HDIS := Lib.hid hdis
    have HF1 := Lib.hid hF1
    clear hadm hdis hF1 HS
    obtain ⟨ai, ci, hvi⟩ := h1.i.slice
    obtain ⟨aq, cq, hvq⟩ := h1.q.slice
    obtain ⟨ao, co, hvo⟩ := hto.slice
    subst hvi
    subst hvq
    subst hvo
    obtain ⟨e0, e2, e3, e4, e5, e6, e7, e8, e9⟩ := gate_cells h1.blk
    have e10 : ∀ j, wr.frozen? ⟨b, j, none⟩ = false := fun j => h1.blk.frozen j
    have b1 := hf1.inside
    have b2 := hf1.logged0
    have b3 := hf1.logged1
    cases hmay : s1.may with
    | false =>
      have HP := Lib.hid ((admit_stop (out := out) hmay).symm.trans HADM.out)
      have h2 := h1.drew
      have fin : AdmitPost w b F s (.slice ao out.length co) (wr.drew.setCell ⟨b, 0, none⟩ (.int .i32 0)) :=
        ⟨_, ⟨_, _, _, by rw [← HP.out]; exact h2.setLock 0, rfl⟩, hT1.drew.setCell (.inl hbF) _, HF1.out, by
          rw [← HP.out]; exact hto.drew.other (fun h => (HDIS.out b h).1 (by simp [foot])) _, HDIS.out⟩
      by_cases q1 : 0 < s1.queue.length
      · by_cases q2 : (s1.inside.length : Int) < s1.most
        · have q3 : ¬ (s1.logged + s1.inside.length < s1.units) := fun q3 => by
            unfold Gate.may at hmay; simp [q1, q2, q3] at hmay
          have d1 : decide ((0 : Int) < (s1.queue.length : Int)) = true := by simp; omega
          have d2 : decide ((s1.inside.length : Int) < s1.most) = true := by simpa using q2
          have d3 : decide (s1.logged + (s1.inside.length : Int) < s1.units) = false := by simpa using q3
          clear hmay
          go_wp2
          refine wp_region_text (by kernel_rfl) (by kernel_rfl) ?_
          go_wp2
          refine ⟨by kernel_rfl, ?_⟩
          go_wp2
          refine leaves_cons (f := 37) (args := #[.pointer (some ⟨b, 0, none⟩)]) (by simp) (by simp [go_sem]) ?_
          refine (unlock_deferred Try.muLib ⟨b, 0, none⟩ .returning _ (h2.blk.cell 0) (h2.blk.frozen 0)).mono ?_
          rintro e u' w'' ⟨rfl, rfl, rfl⟩
          refine ⟨_, results_tmp rfl _ _ _, _, rfl, ?_⟩
          exact fin
        · have d1 : decide ((0 : Int) < (s1.queue.length : Int)) = true := by simp; omega
          have d2 : decide ((s1.inside.length : Int) < s1.most) = false := by simpa using q2
          clear hmay
          go_wp2
          refine wp_region_text (by kernel_rfl) (by kernel_rfl) ?_
          go_wp2
          refine ⟨by kernel_rfl, ?_⟩
          go_wp2
          refine leaves_cons (f := 37) (args := #[.pointer (some ⟨b, 0, none⟩)]) (by simp) (by simp [go_sem]) ?_
          refine (unlock_deferred Try.muLib ⟨b, 0, none⟩ .returning _ (h2.blk.cell 0) (h2.blk.frozen 0)).mono ?_
          rintro e u' w'' ⟨rfl, rfl, rfl⟩
          refine ⟨_, results_tmp rfl _ _ _, _, rfl, ?_⟩
          exact fin
      · obtain q0 : s1.queue.length = 0 := by omega
        have d1 : decide ((0 : Int) < (s1.queue.length : Int)) = false := by rw [q0]; decide
        clear q0
        clear hmay
        go_wp2
        refine wp_region_text (by kernel_rfl) (by kernel_rfl) ?_
        go_wp2
        refine ⟨by kernel_rfl, ?_⟩
        go_wp2
        refine leaves_cons (f := 37) (args := #[.pointer (some ⟨b, 0, none⟩)]) (by simp) (by simp [go_sem]) ?_
        refine (unlock_deferred Try.muLib ⟨b, 0, none⟩ .returning _ (h2.blk.cell 0) (h2.blk.frozen 0)).mono ?_
        rintro e u' w'' ⟨rfl, rfl, rfl⟩
        refine ⟨_, results_tmp rfl _ _ _, _, rfl, ?_⟩
        exact fin
    | true =>
      have hen := hf1.enter hmay
      obtain ⟨q, rest, hqr⟩ : ∃ q rest, s1.queue = q :: rest := by
        cases hq : s1.queue with
        | nil => unfold Gate.may at hmay; rw [hq] at hmay; simp at hmay
        | cons q rest => exact ⟨q, rest, rfl⟩
      have HG := Lib.hid ((admit_go (out := out) hqr hmay).symm.trans HADM.out)
      have HEN := Lib.hid (by unfold Gate.enter; rw [hqr] : s1.enter = { s1 with queue := rest, inside := s1.inside ++ [q.id], turn := rise (s1.turn ++ [{ q with last := s1.clock }]) s1.turn.length })
      have hnq : s1.queue.length = rest.length + 1 := by rw [hqr]; rfl
      have HNQ := Lib.hid hnq
      have hq0 : s1.queue[0]? = some q := by rw [hqr]; rfl
      have HER := Lib.hid (by rw [hqr]; rfl : s1.queue.eraseIdx 0 = rest)
      unfold Gate.may at hmay
      simp only [Bool.and_eq_true, decide_eq_true_eq] at hmay
      obtain ⟨m1, m2, m3⟩ := hmay
      have d1 : decide ((0 : Int) < (s1.queue.length : Int)) = true := by simp; omega
      have d2 : decide ((s1.inside.length : Int) < s1.most) = true := by simpa using m2
      have d3 : decide (s1.logged + (s1.inside.length : Int) < s1.units) = true := by simpa using m3
      rcases h1.q.form with ⟨h, h0⟩ | ⟨gq, cap, hv, hcap, _, hgl⟩
      · rw [hqr] at h0; cases h0
      cases hv
      obtain ⟨k0, k1, k2⟩ := guest_cells h1.q hq0
      rw [Nat.zero_mul] at k0 k1 k2
      rw [Nat.zero_add] at k1 k2
      have hgb : gq ≠ b := fun h => h1.bq (by rw [h]; rfl)
      have hbl := h1.blk.lt
      clear hq0 hqr hnq
      go_wp2
      refine wp_region_text (by kernel_rfl) (by kernel_rfl) ?_
      go_wp2
      refine ⟨by kernel_rfl, ?_⟩
      go_wp2_with fail
      have hnf : wr.heap.size ∉ foot b (.slice (some ⟨gq, 0, none⟩) s1.queue.length cq) (.slice ai s1.inside.length ci) vt1 := fun h => by have := h1.mem _ h; omega
      have hno : (Value.slice ao out.length co).ownBlock ≠ some wr.heap.size := fun h => by have := hto.block_lt h; omega
      have h2 := (h1.alloc (.cells #[.int .i64 q.id, .int .i64 q.stamp, .int .i64 q.last] 62)).drew
      have hto2 := (hto.alloc (.cells #[.int .i64 q.id, .int .i64 q.stamp, .int .i64 q.last] 62)).drew
      have hbox := (Blk.new wr #[.int .i64 q.id, .int .i64 q.stamp, .int .i64 q.last] 62).drew
      have hT2 := (hT1.alloc (.cells #[.int .i64 q.id, .int .i64 q.stamp, .int .i64 q.last] 62)).drew
      have hws : w.heap.size ≤ wr.heap.size := hT1.size
      clear k0 k1 k2 e0 e2 e3 e4 e5 e6 e7 e8 e9 e10 hto hT1 h1 hgl
      generalize hnb : wr.heap.size = nb at *
      generalize (wr.alloc (.cells #[.int .i64 q.id, .int .i64 q.stamp, .int .i64 q.last] 62)).drew = w2 at *
      clear hnb
      have hgqF : gq ∈ foot b (.slice (some ⟨gq, 0, none⟩) s1.queue.length cq) (.slice ai s1.inside.length ci) vt1 := by simp [foot, Value.ownBlock]
      refine (deleteGuest_0 gq cq s1.queue _ h2.q m1).use ?_
      rintro _ w3 ⟨rfl, ht3, hT3⟩
      rw [HER.out] at ht3
      have hng : nb ≠ gq := fun h => hnf (h ▸ hgqF)
      have hnbb : nb ≠ b := fun h => hnf (by rw [h]; simp [foot])
      have hb3 := h2.blk.touch hT3 (by simpa using Ne.symm hgb)
      have hi3 := h2.i.touch hT3 (fun k h => by have := h2.qi gq rfl; simp; rintro rfl; exact this h)
      have hv3 := h2.t.touch hT3 (fun k h => by have := h2.qt gq rfl; simp; rintro rfl; exact this h)
      have hto3 := hto2.touch hT3 (fun k h hm => (HDIS.out k h).1 (by simp at hm; rw [hm]; exact hgqF))
      have hbox3 := hbox.touch hT3 (by simpa using hng)
      obtain ⟨e0, e2, e3, e4, e5, e6, e7, e8, e9⟩ := gate_cells hb3
      have e10 : ∀ j, w3.frozen? ⟨b, j, none⟩ = false := fun j => hb3.frozen j
      have k0 : w3.cell? ⟨nb, 0, none⟩ = some (.int .i64 q.id) := hbox3.cell 0
      have k1 : w3.cell? ⟨nb, 1, none⟩ = some (.int .i64 q.stamp) := hbox3.cell 1
      have k2 : w3.cell? ⟨nb, 2, none⟩ = some (.int .i64 q.last) := hbox3.cell 2
      have k3 : ∀ j, w3.frozen? ⟨nb, j, none⟩ = false := fun j => hbox3.frozen j
      go_wp2_with fail
      have h4 : GateIs ((w3.setCell ⟨b, 6, none⟩ (.slice (some ⟨gq, 0, none⟩) (s1.queue.length - 1) cq)).setCell ⟨nb, 2, none⟩ (.int .i64 s1.clock)) b (.slice (some ⟨gq, 0, none⟩) (s1.queue.length - 1) cq) (.slice ai s1.inside.length ci) vt1 { s1 with queue := rest } 1 :=
        ⟨(hb3.set 6 (.slice (some ⟨gq, 0, none⟩) (s1.queue.length - 1) cq)).other (p := ⟨nb, 2, none⟩) (Ne.symm hnbb) _, (ht3.other (p := ⟨b, 6, none⟩) h2.bq _).other (p := ⟨nb, 2, none⟩) (by simpa [Value.ownBlock] using Ne.symm hng) _,
          (hi3.other (p := ⟨b, 6, none⟩) h2.bi _).other (p := ⟨nb, 2, none⟩) (fun h => hnf (by simp [foot, h])) _, (hv3.other (p := ⟨b, 6, none⟩) h2.bt _).other (p := ⟨nb, 2, none⟩) (fun h => hnf (by simp [foot, h])) _, h2.bq, h2.bi, h2.bt, h2.qi, h2.qt, h2.it⟩
      have hto4 := (hto3.other (p := ⟨b, 6, none⟩) (fun h => (HDIS.out b h).1 (by simp [foot])) (.slice (some ⟨gq, 0, none⟩) (s1.queue.length - 1) cq)).other (p := ⟨nb, 2, none⟩) hno (.int .i64 s1.clock)
      have hbox4 := (hbox3.other (p := ⟨b, 6, none⟩) hnbb (.slice (some ⟨gq, 0, none⟩) (s1.queue.length - 1) cq)).set 2 (.int .i64 s1.clock)
      have hT4 := ((hT2.trans hT3 (fun x hx => by simp at hx; rw [hx]; exact HF1.out _ hgqF)).setCell (p := ⟨b, 6, none⟩) (.inl hbF) (.slice (some ⟨gq, 0, none⟩) (s1.queue.length - 1) cq)).setCell (p := ⟨nb, 2, none⟩) (.inr hws) (.int .i64 s1.clock)
      clear e0 e2 e3 e4 e5 e6 e7 e8 e9 e10 k0 k1 k2 k3 hb3 hi3 hv3 hto3 hbox3 ht3 hT3 h2 hto2 hbox hT2
      generalize (w3.setCell ⟨b, 6, none⟩ (.slice (some ⟨gq, 0, none⟩) (s1.queue.length - 1) cq)).setCell ⟨nb, 2, none⟩ (.int .i64 s1.clock) = w4 at *
      obtain ⟨e0, e2, e3, e4, e5, e6, e7, e8, e9⟩ := gate_cells h4.blk
      have e10 : ∀ j, w4.frozen? ⟨b, j, none⟩ = false := fun j => h4.blk.frozen j
      have k0 : w4.cell? ⟨nb, 0, none⟩ = some (.int .i64 q.id) := hbox4.cell 0
      have hbl4 := h4.blk.lt
      have hbn4 := hbox4.lt
      refine wp_region_text (by kernel_rfl) (by kernel_rfl) ?_
      go_wp2_with (at_builtin; refine wpList_append_tab (v := .slice ai s1.inside.length ci) intAt rfl _ _ rfl rfl ((h4.i.alloc _).drew) _ _ _ [q.id] rfl rfl (by exact news_one IntK q.id (Blk.last _ _ _ rfl).drew) (by simp [maxLen]; omega) (by simp; omega) ?_; intro v' w5 ht5 hg5 hfr5; obtain ⟨a5, cap5, hv5⟩ := ht5.slice; rw [show (s1.inside ++ [q.id]).length = s1.inside.length + 1 from by simp] at hv5; subst hv5; have hb5 := ((h4.blk.alloc _).drew).grown hg5 (Ne.symm h4.bi); obtain ⟨j0, j2, j3, j4, j5, j6, j7, j8, j9⟩ := gate_cells hb5; have j10 : ∀ j, w5.frozen? ⟨b, j, none⟩ = false := fun j => hb5.frozen j)
      refine ⟨by kernel_rfl, ?_⟩
      go_wp2_with fail
      have hT5 := ((Tch.refl ((Value.slice ai s1.inside.length ci).ownBlock.toList) w4).alloc (.cells #[.int .i64 q.id] 3)).drew.grown hg5 (fun k hk => .inl (by rw [hk]; simp))
      have hnew5 : NewOr w4 (.slice ai s1.inside.length ci) (.slice a5 (s1.inside.length + 1) cap5) := hfr5.newOr (by simp)
      have hib : (Value.slice a5 (s1.inside.length + 1) cap5).ownBlock ≠ some b := fun h => by
        rcases hnew5 b h with h1 | h1
        · exact h4.bi h1
        · omega
      have h6 : GateIs (w5.setCell ⟨b, 7, none⟩ (.slice a5 (s1.inside.length + 1) cap5)) b (.slice (some ⟨gq, 0, none⟩) (s1.queue.length - 1) cq) (.slice a5 (s1.inside.length + 1) cap5) vt1 { s1 with queue := rest, inside := s1.inside ++ [q.id] } 1 := by
        refine ⟨hb5.set 7 _, (h4.q.touch hT5 (fun k hk hm => h4.qi k hk (by simpa using hm))).other h4.bq _, ht5.other (p := ⟨b, 7, none⟩) hib _, (h4.t.touch hT5 (fun k hk hm => h4.it k (by simpa using hm) hk)).other h4.bt _, h4.bq, hib, h4.bt, fun k hk hv => ?_, h4.qt, fun k hk hv => ?_⟩
        · rcases hnew5 k hv with h1 | h1
          · exact h4.qi k hk h1
          · have := h4.q.block_lt hk; omega
        · rcases hnew5 k hk with h1 | h1
          · exact h4.it k h1 hv
          · have := h4.t.block_lt hv; omega
      have hto6 := (hto4.touch hT5 (fun k hk hm => (HDIS.out k hk).1 (by simp only [foot, List.mem_cons, List.mem_append]; exact .inr (.inr (.inl hm))))).other (p := ⟨b, 7, none⟩) (fun h => (HDIS.out b h).1 (by simp [foot])) (.slice a5 (s1.inside.length + 1) cap5)
      have hbox6 := (hbox4.touch hT5 (fun hm => hnf (by simp only [foot, List.mem_cons, List.mem_append]; exact .inr (.inr (.inl hm))))).other (p := ⟨b, 7, none⟩) hnbb (.slice a5 (s1.inside.length + 1) cap5)
      have hT6 := (hT4.trans hT5 (fun x hx => HF1.out x (by simp only [foot, List.mem_cons, List.mem_append]; exact .inr (.inr (.inl hx))))).setCell (p := ⟨b, 7, none⟩) (.inl hbF) (.slice a5 (s1.inside.length + 1) cap5)
      have hsz4 : w.heap.size ≤ w4.heap.size := hT4.size
      have hF6 : ∀ k ∈ foot b (.slice (some ⟨gq, 0, none⟩) (s1.queue.length - 1) cq) (.slice a5 (s1.inside.length + 1) cap5) vt1, k ∈ foot b (.slice (some ⟨gq, 0, none⟩) s1.queue.length cq) (.slice ai s1.inside.length ci) vt1 ∨ w4.heap.size ≤ k := fun k hk => by
        simp only [foot, List.mem_cons, List.mem_append, Option.mem_toList] at hk ⊢
        rcases hk with hk | hk | hk | hk
        · exact .inl (.inl hk)
        · exact .inl (.inr (.inl hk))
        · rcases hnew5 k hk with h1 | h1
          · exact .inl (.inr (.inr (.inl h1)))
          · exact .inr h1
        · exact .inl (.inr (.inr (.inr hk)))
      have hs67 : w4.heap.size ≤ (w5.setCell ⟨b, 7, none⟩ (.slice a5 (s1.inside.length + 1) cap5)).heap.size := by have := hT5.size; simpa [World.setCell] using this
      have hvo4 : ∀ k, (Value.slice ao out.length co).ownBlock = some k → k < w4.heap.size := fun k hk => hto4.block_lt hk
      clear j0 j2 j3 j4 j5 j6 j7 j8 j9 j10 e0 e2 e3 e4 e5 e6 e7 e8 e9 e10 k0 h4 hT4 hb5 ht5 hg5 hfr5 hT5 hnew5 hto4 hbox4
      generalize w5.setCell ⟨b, 7, none⟩ (.slice a5 (s1.inside.length + 1) cap5) = w6 at *
      obtain ⟨e0, e2, e3, e4, e5, e6, e7, e8, e9⟩ := gate_cells h6.blk
      have k0 : w6.cell? ⟨nb, 0, none⟩ = some (.int .i64 q.id) := hbox6.cell 0
      have k1 : w6.cell? ⟨nb, 1, none⟩ = some (.int .i64 q.stamp) := hbox6.cell 1
      have k2 : w6.cell? ⟨nb, 2, none⟩ = some (.int .i64 s1.clock) := hbox6.cell 2
      have htl := hf1.turn
      refine wp_region_text (by kernel_rfl) (by kernel_rfl) ?_
      go_wp2_with fail
      refine (push_any b 8 _ 73 vt1 s1.turn { q with last := s1.clock } _ h6.drew.blk rfl h6.drew.t h6.bt (by omega)).use ?_
      rintro _ w7 ⟨rfl, hsp⟩
      go_wp2_with fail
      refine ⟨by kernel_rfl, ?_⟩
      have htch := hsp
      obtain ⟨vt7, h7, hT7, hF7⟩ := h6.drew.slotTurn hsp
      have hT7' : Tch (b :: vt1.ownBlock.toList) w6.drew w7 := by obtain ⟨_, _, _, _, h⟩ := htch; exact h
      have hbox7 := hbox6.drew.touch hT7' (fun hm => hnf (by simp only [List.mem_cons] at hm; simp only [foot, List.mem_cons, List.mem_append]; exact hm.imp id fun h => .inr (.inr h)))
      have hto7 := hto6.drew.touch hT7' (fun k hk hm => (HDIS.out k hk).1 (by simp only [List.mem_cons] at hm; simp only [foot, List.mem_cons, List.mem_append]; exact hm.imp id fun h => .inr (.inr h)))
      have hT8 : Tch F w w7 := hT6.drew.trans hT7' (fun x hx => HF1.out x (by simp only [List.mem_cons] at hx; simp only [foot, List.mem_cons, List.mem_append]; exact hx.imp id fun h => .inr (.inr h)))
      have hs7 : w4.heap.size ≤ w7.heap.size := Nat.le_trans hs67 hT7'.size
      have hF8 : ∀ k ∈ foot b (.slice (some ⟨gq, 0, none⟩) (s1.queue.length - 1) cq) (.slice a5 (s1.inside.length + 1) cap5) vt7, k ∈ foot b (.slice (some ⟨gq, 0, none⟩) s1.queue.length cq) (.slice ai s1.inside.length ci) vt1 ∨ w4.heap.size ≤ k := fun k hk => by
        rcases hF7 k hk with h | h
        · exact hF6 k h
        · exact .inr (Nat.le_trans hs67 h)
      clear hsp htch e0 e2 e3 e4 e5 e6 e7 e8 e9 k0 k1 k2 h6 hT6 hto6 hbox6 hT7 hT7' hF7 hF6
      have k0 : w7.cell? ⟨nb, 0, none⟩ = some (.int .i64 q.id) := hbox7.cell 0
      have hol : out.length < 64 := by omega
      go_wp2_with (at_builtin; refine wpList_append_tab (v := .slice ao out.length co) intAt rfl _ _ rfl rfl (hto7.alloc _) _ _ _ [q.id] rfl rfl (by exact news_one IntK q.id (Blk.last _ _ _ rfl)) (by simp [maxLen]; omega) (by simp; omega) ?_; intro v9 w9 ht9 hg9 hfr9)
      have hT9 := ((Tch.refl ((Value.slice ao out.length co).ownBlock.toList) w7).alloc (.cells #[.int .i64 q.id] 3)).grown hg9 (fun k hk => .inl (by rw [hk]; simp))
      have hvoF : ∀ k, (Value.slice ao out.length co).ownBlock = some k → k ∉ foot b (.slice (some ⟨gq, 0, none⟩) (s1.queue.length - 1) cq) (.slice a5 (s1.inside.length + 1) cap5) vt7 := fun k hk hm => by
        rcases hF8 k hm with h | h
        · exact (HDIS.out k hk).1 h
        · have := hvo4 k hk; omega
      have h9 := h7.kept hT9 (fun k hk hm => hvoF k (by simpa using hm) hk)
      go_roundg rest.length
      case measure => have := HNQ.out; omega
      case rel =>
        refine ⟨s1.enter, out ++ [q.id], _, _, vt7, by rw [HEN.out], by rw [HEN.out]; exact h9, ht9, fun k hk => ?_, HG.out, by rw [HEN.out]; have := HNQ.out; simp; omega, hen,
          hT8.trans hT9 (fun x hx => .inr (HDIS.out x (by simpa using hx)).2), fun k hk => ?_⟩
        · rcases hfr9 k hk with h | h
          · exact ⟨hvoF k h, (HDIS.out k h).2⟩
          · refine ⟨fun hm => ?_, ?_⟩
            · have := h7.mem k hm; simp at h; omega
            · have := hT8.size; simp at h; omega
        · rcases hF8 k hk with h | h
          · exact HF1.out k h
          · exact .inr (by omega)
end Go.Proofs.Ytdmgbfkioghkeaa
