/-
  The document's gate, walked: Admit and Next.
-/
import Derived.Test.YtdmgbfkioghkeaaRSubmit
namespace Go.Proofs.Ytdmgbfkioghkeaa
open Go.RowKit Go.Ytdmgbfkioghkeaa Go.Ytdmgbfkioghkeaa.Gt Go.Ytdmgbfkioghkeaa.Reg

theorem RFits.enter {r : RGate} (h : RFits r) (hm : r.may = true) : RFits r.enter := by
  unfold RGate.may at hm
  simp only [Bool.and_eq_true, decide_eq_true_eq] at hm
  have := h.queue; have := h.inside; have := h.most1
  cases hq : r.queue with
  | nil => rw [hq] at hm; simp at hm
  | cons q rest =>
    have he : r.enter = { r with queue := rest, inside := r.inside ++ [{ q with last := r.clock }] } := by unfold RGate.enter; rw [hq]
    have h1 : rest.length ≤ 64 := by have h9 := h.queue; rw [hq] at h9; simp at h9; omega
    rw [he]
    exact ⟨h1, by simp; omega, h.stamp0, h.stamp1, h.clock0, h.clock1, h.logged0, h.logged1, h.most1⟩

theorem radmit_stop {r : RGate} {out : List Int} (h : r.may = false) : r.admit out = (out, r) := by
  rw [RGate.admit]
  split
  · rfl
  · rw [if_neg (by rw [h]; simp)]
theorem radmit_go {r : RGate} {out : List Int} {q : G} {rest : List G} (hq : r.queue = q :: rest) (h : r.may = true) : r.admit out = r.enter.admit (out ++ [q.id]) := by
  rw [RGate.admit]
  split
  · rename_i h0; rw [hq] at h0; cases h0
  · rename_i q' rest' h0
    rw [hq] at h0; cases h0
    rw [if_pos h]

/-- The round's head. -/
def RAdmitRel (w0 : World) (b : Nat) (F : List Nat) (r0 : RGate) (g : Nat) (vo : Value) (wr : World) : Prop :=
  ∃ r out vq vi, r.queue.length = g ∧ RefIs wr b vq vi r ∧ Tab IntK wr vo out ∧ (∀ k, vo.ownBlock = some k → k ∉ rfoot b vq vi ∧ w0.heap.size ≤ k) ∧ r.admit out = r0.admit [] ∧
    out.length + r.queue.length ≤ 64 ∧ RFits r ∧ Tch F w0 wr ∧ ∀ k ∈ rfoot b vq vi, k ∈ F ∨ w0.heap.size ≤ k

/-- What Admit hands back. -/
def RAdmitPost (w : World) (b : Nat) (F : List Nat) (r : RGate) (v : Value) (w' : World) : Prop :=
  ∃ F', RefAt w' b F' (r.admit []).2 ∧ Tch F w w' ∧ (∀ k ∈ F', k ∈ F ∨ w.heap.size ≤ k) ∧ Tab IntK w' v (r.admit []).1 ∧ ∀ k, v.ownBlock = some k → k ∉ F' ∧ w.heap.size ≤ k

set_option maxRecDepth 100000 in
set_option maxHeartbeats 2000000 in
theorem radmit_any (b : Nat) (F : List Nat) (r : RGate) (w : World) (hg : RefAt w b F r) (hf : RFits r) :
    Rets Try.prog 31 #[.pointer (some ⟨b, 0, none⟩)] w fun u w' => RAdmitPost w b F r u w' := by
  obtain ⟨vq, vi, hg, rfl⟩ := hg
  unfold Rets
  obtain ⟨F, hF⟩ : ∃ F, F = rfoot b vq vi := ⟨_, rfl⟩
  have hstart : RAdmitRel w b F r r.queue.length (.slice none 0 0) w :=
    ⟨r, [], vq, vi, rfl, hg, Tab.nil IntK _, fun k hk => by simp [Value.ownBlock] at hk, rfl, by simpa using hf.queue, hf, Tch.refl _ _, fun k hk => .inl (hF ▸ hk)⟩
  have hbF : b ∈ F := by rw [hF]; simp [rfoot]
  rw [← hF]
  have HS := Lib.hid hstart
  clear hstart hg hF
  go_enter Try.func31, Try.ntmps31
  go_wp2
  go_loopg [3] r.queue.length (fun g vo wr => RAdmitRel w b F r g vo wr)
  case atStart => exact HS.out
  case round =>
    obtain ⟨s1, out, vq1, vi1, hgk, h1, hto, hdis, hadm, hb2, hf1, hT1, hF1⟩ := hrel
    subst hgk
    have HADM := Lib.hid hadm
    have HDIS := Lib.hid hdis
    have HF1 := Lib.hid hF1
    clear hadm hdis hF1 HS
    obtain ⟨ai, ci, hvi⟩ := h1.i.slice
    obtain ⟨aq, cq, hvq⟩ := h1.q.slice
    obtain ⟨ao, co, hvo⟩ := hto.slice
    subst hvi
    subst hvq
    subst hvo
    obtain ⟨e0, e1, e2, e3, e4, e5, e6, e7⟩ := ref_cells h1.blk
    have e10 : ∀ j, wr.frozen? ⟨b, j, none⟩ = false := fun j => h1.blk.frozen j
    have b1 := hf1.inside
    have b2 := hf1.logged0
    have b3 := hf1.logged1
    have b4 := hf1.queue
    cases hmay : s1.may with
    | false =>
      have HP := Lib.hid ((radmit_stop (out := out) hmay).symm.trans HADM.out)
      have h2 := h1.drew
      have fin : RAdmitPost w b F r (.slice ao out.length co) wr.drew :=
        ⟨_, ⟨_, _, by rw [← HP.out]; exact h2, rfl⟩, hT1.drew, HF1.out, by
          rw [← HP.out]; exact hto.drew, HDIS.out⟩
      by_cases q1 : 0 < s1.queue.length
      · by_cases q2 : (s1.inside.length : Int) < s1.most
        · have q3 : ¬ (s1.logged + s1.inside.length < s1.units) := fun q3 => by
            unfold RGate.may at hmay; simp [q1, q2, q3] at hmay
          have d1 : decide ((0 : Int) < (s1.queue.length : Int)) = true := by simp; omega
          have d2 : decide ((s1.inside.length : Int) < s1.most) = true := by simpa using q2
          have d3 : decide (s1.logged + (s1.inside.length : Int) < s1.units) = false := by simpa using q3
          clear hmay
          go_wp2
          refine wp_region_text (by kernel_rfl) (by kernel_rfl) ?_
          go_wp2
          refine ⟨by kernel_rfl, ?_⟩
          go_wp2
          go_ret
          exact ⟨_, rfl, fin⟩
        · have d1 : decide ((0 : Int) < (s1.queue.length : Int)) = true := by simp; omega
          have d2 : decide ((s1.inside.length : Int) < s1.most) = false := by simpa using q2
          clear hmay
          go_wp2
          refine wp_region_text (by kernel_rfl) (by kernel_rfl) ?_
          go_wp2
          refine ⟨by kernel_rfl, ?_⟩
          go_wp2
          go_ret
          exact ⟨_, rfl, fin⟩
      · obtain q0 : s1.queue.length = 0 := by omega
        have d1 : decide ((0 : Int) < (s1.queue.length : Int)) = false := by rw [q0]; decide
        clear q0
        clear hmay
        go_wp2
        refine wp_region_text (by kernel_rfl) (by kernel_rfl) ?_
        go_wp2
        refine ⟨by kernel_rfl, ?_⟩
        go_wp2
        go_ret
        exact ⟨_, rfl, fin⟩
    | true =>
      have hen := hf1.enter hmay
      obtain ⟨q, rest, hqr⟩ : ∃ q rest, s1.queue = q :: rest := by
        cases hq : s1.queue with
        | nil => unfold RGate.may at hmay; rw [hq] at hmay; simp at hmay
        | cons q rest => exact ⟨q, rest, rfl⟩
      have HG := Lib.hid ((radmit_go (out := out) hqr hmay).symm.trans HADM.out)
      have HEN := Lib.hid (by unfold RGate.enter; rw [hqr] : s1.enter = { s1 with queue := rest, inside := s1.inside ++ [{ q with last := s1.clock }] })
      have hnq : s1.queue.length = rest.length + 1 := by rw [hqr]; rfl
      have HNQ := Lib.hid hnq
      have hq0 : s1.queue[0]? = some q := by rw [hqr]; rfl
      have HER := Lib.hid (by rw [hqr]; rfl : s1.queue.eraseIdx 0 = rest)
      unfold RGate.may at hmay
      simp only [Bool.and_eq_true, decide_eq_true_eq] at hmay
      obtain ⟨m1, m2, m3⟩ := hmay
      have d1 : decide ((0 : Int) < (s1.queue.length : Int)) = true := by simp; omega
      have d2 : decide ((s1.inside.length : Int) < s1.most) = true := by simpa using m2
      have d3 : decide (s1.logged + (s1.inside.length : Int) < s1.units) = true := by simpa using m3
      rcases h1.q.form with ⟨h, h0⟩ | ⟨gq, cap, hv, hcap, _, hgl⟩
      · rw [hqr] at h0; cases h0
      cases hv
      obtain ⟨k0, k1, k2⟩ := one_cells h1.q hq0
      rw [Nat.zero_mul] at k0 k1 k2
      rw [Nat.zero_add] at k1 k2
      have hbl := h1.blk.lt
      clear hq0 hqr hnq
      go_wp2
      refine wp_region_text (by kernel_rfl) (by kernel_rfl) ?_
      go_wp2
      refine ⟨by kernel_rfl, ?_⟩
      go_wp2_with fail
      have hnf : wr.heap.size ∉ rfoot b (.slice (some ⟨gq, 0, none⟩) s1.queue.length cq) (.slice ai s1.inside.length ci) := fun h => by have := h1.mem _ h; omega
      have hno : (Value.slice ao out.length co).ownBlock ≠ some wr.heap.size := fun h => by have := hto.block_lt h; omega
      have hnbb : wr.heap.size ≠ b := fun h => hnf (by rw [h]; simp [rfoot])
      have h2 := (h1.alloc (.cells #[.int .i64 q.id, .int .i64 q.stamp, .int .i64 s1.clock] 88)).drew
      have hto2 := (hto.alloc (.cells #[.int .i64 q.id, .int .i64 q.stamp, .int .i64 s1.clock] 88)).drew
      have hbox := (Blk.new wr #[.int .i64 q.id, .int .i64 q.stamp, .int .i64 s1.clock] 88).drew
      have hT2 := (hT1.alloc (.cells #[.int .i64 q.id, .int .i64 q.stamp, .int .i64 s1.clock] 88)).drew
      have hws : w.heap.size ≤ wr.heap.size := hT1.size
      have hwl : wr.heap.size < (wr.alloc (.cells #[.int .i64 q.id, .int .i64 q.stamp, .int .i64 s1.clock] 88)).drew.heap.size := hbox.lt
      have hvo2 : ∀ k, (Value.slice ao out.length co).ownBlock = some k → k < wr.heap.size := fun k hk => hto.block_lt hk
      clear k0 k1 k2 e0 e1 e2 e3 e4 e5 e6 e7 e10 hto hT1 h1 hgl
      generalize hnb : wr.heap.size = nb at *
      generalize (wr.alloc (.cells #[.int .i64 q.id, .int .i64 q.stamp, .int .i64 s1.clock] 88)).drew = w2 at *
      clear hnb
      refine (without_any _ s1.queue 0 0 rfl _ h2.q (by omega)).use ?_
      rintro u w3 hn3
      rw [HER.out] at hn3
      obtain ⟨au, cu, hu⟩ := hn3.1.slice
      subst hu
      have hb3 := h2.blk.touch hn3.2.1 (by simp)
      have hi3 := h2.i.touch hn3.2.1 (by simp)
      have hto3 := hto2.touch hn3.2.1 (by simp)
      have hbox3 := hbox.touch hn3.2.1 (by simp)
      have hub : (Value.slice au rest.length cu).ownBlock ≠ some b := fun h => by have := hn3.2.2 b h; have := h2.blk.lt; omega
      have hunb : (Value.slice au rest.length cu).ownBlock ≠ some nb := fun h => by have := hn3.2.2 nb h; omega
      obtain ⟨e0, e1, e2, e3, e4, e5, e6, e7⟩ := ref_cells hb3
      have e10 : ∀ j, w3.frozen? ⟨b, j, none⟩ = false := fun j => hb3.frozen j
      have k0 : w3.cell? ⟨nb, 0, none⟩ = some (.int .i64 q.id) := hbox3.cell 0
      have k1 : w3.cell? ⟨nb, 1, none⟩ = some (.int .i64 q.stamp) := hbox3.cell 1
      have k2 : w3.cell? ⟨nb, 2, none⟩ = some (.int .i64 s1.clock) := hbox3.cell 2
      go_wp2_with fail
      have h4 : RefIs (w3.setCell ⟨b, 6, none⟩ (.slice au rest.length cu)) b (.slice au rest.length cu) (.slice ai s1.inside.length ci) { s1 with queue := rest } :=
        ⟨hb3.set 6 (.slice au rest.length cu), hn3.1.other hub _, hi3.other h2.bi _, hub, h2.bi, fun k hk hv => by have := hn3.2.2 k hk; have := h2.i.block_lt hv; omega⟩
      have hto4 := hto3.other (p := ⟨b, 6, none⟩) (fun h => (HDIS.out b h).1 (by simp [rfoot])) (.slice au rest.length cu)
      have hbox4 := hbox3.other (p := ⟨b, 6, none⟩) hnbb (.slice au rest.length cu)
      have hT4 := (hT2.trans hn3.2.1 (by simp)).setCell (p := ⟨b, 6, none⟩) (.inl hbF) (.slice au rest.length cu)
      have hun : ∀ k, (Value.slice au rest.length cu).ownBlock = some k → nb < k ∧ w2.heap.size ≤ k := fun k hk => ⟨by have := hn3.2.2 k hk; omega, hn3.2.2 k hk⟩
      have hin : (Value.slice ai s1.inside.length ci).ownBlock ≠ some nb := fun h => hnf (by simp [rfoot, h])
      clear e0 e1 e2 e3 e4 e5 e6 e7 e10 k0 k1 k2 hb3 hi3 hto3 hbox3 hn3 h2 hto2 hbox hT2
      generalize w3.setCell ⟨b, 6, none⟩ (.slice au rest.length cu) = w4 at *
      obtain ⟨e0, e1, e2, e3, e4, e5, e6, e7⟩ := ref_cells h4.blk
      have e10 : ∀ j, w4.frozen? ⟨b, j, none⟩ = false := fun j => h4.blk.frozen j
      have k0 : w4.cell? ⟨nb, 0, none⟩ = some (.int .i64 q.id) := hbox4.cell 0
      have k1 : w4.cell? ⟨nb, 1, none⟩ = some (.int .i64 q.stamp) := hbox4.cell 1
      have k2 : w4.cell? ⟨nb, 2, none⟩ = some (.int .i64 s1.clock) := hbox4.cell 2
      have hbl4 := h4.blk.lt
      have hbn4 := hbox4.lt
      have hvo4 : ∀ k, (Value.slice ao out.length co).ownBlock = some k → k < w4.heap.size := fun k hk => hto4.block_lt hk
      refine wp_region_text (by kernel_rfl) (by kernel_rfl) ?_
      go_wp2_with (at_builtin; refine wpList_append_tab (v := .slice ai s1.inside.length ci) oneAt rfl _ _ rfl rfl ((h4.i.alloc _).drew) _ _ _ [{ q with last := s1.clock }] rfl rfl (by exact news_one OneK { q with last := s1.clock } (Blk.last _ _ _ rfl).drew) (by simp [maxLen]; omega) (by simp; omega) ?_; intro v' w5 ht5 hg5 hfr5; obtain ⟨a5, cap5, hv5⟩ := ht5.slice; rw [show (s1.inside ++ [({ q with last := s1.clock } : G)]).length = s1.inside.length + 1 from by simp] at hv5; subst hv5; have hb5 := ((h4.blk.alloc _).drew).grown hg5 (Ne.symm h4.bi); obtain ⟨j0, j1, j2, j3, j4, j5, j6, j7⟩ := ref_cells hb5; have j10 : ∀ j, w5.frozen? ⟨b, j, none⟩ = false := fun j => hb5.frozen j)
      refine ⟨by kernel_rfl, ?_⟩
      have hT5 := ((Tch.refl ((Value.slice ai s1.inside.length ci).ownBlock.toList) w4).alloc _).drew.grown hg5 (fun k hk => .inl (by rw [hk]; simp))
      have hbox5 := hbox4.touch hT5 (fun hm => hnf (by simp only [rfoot, List.mem_cons, List.mem_append]; exact .inr (.inr hm)))
      have j11 : w5.cell? ⟨nb, 0, none⟩ = some (.int .i64 q.id) := hbox5.cell 0
      have hnew5 : NewOr w4 (.slice ai s1.inside.length ci) (.slice a5 (s1.inside.length + 1) cap5) := hfr5.newOr (by simp)
      have hib : (Value.slice a5 (s1.inside.length + 1) cap5).ownBlock ≠ some b := fun h => by
        rcases hnew5 b h with h1 | h1
        · exact h4.bi h1
        · omega
      have h6 : RefIs (w5.setCell ⟨b, 7, none⟩ (.slice a5 (s1.inside.length + 1) cap5)) b (.slice au rest.length cu) (.slice a5 (s1.inside.length + 1) cap5) { s1 with queue := rest, inside := s1.inside ++ [{ q with last := s1.clock }] } := by
        refine ⟨hb5.set 7 _, (h4.q.touch hT5 (fun k hk hm => h4.qi k hk (by simpa using hm))).other h4.bq _, ht5.other (p := ⟨b, 7, none⟩) hib _, h4.bq, hib, fun k hk hv => ?_⟩
        rcases hnew5 k hv with h1 | h1
        · exact h4.qi k hk h1
        · have := h4.q.block_lt hk; omega
      have hto6 := (hto4.touch hT5 (fun k hk hm => (HDIS.out k hk).1 (by simp only [rfoot, List.mem_cons, List.mem_append]; exact .inr (.inr hm)))).other (p := ⟨b, 7, none⟩) (fun h => (HDIS.out b h).1 (by simp [rfoot])) (.slice a5 (s1.inside.length + 1) cap5)
      have hbox6 := hbox5.other (p := ⟨b, 7, none⟩) hnbb (.slice a5 (s1.inside.length + 1) cap5)
      have hT6 := (hT4.trans hT5 (fun x hx => HF1.out x (by simp only [rfoot, List.mem_cons, List.mem_append]; exact .inr (.inr hx)))).setCell (p := ⟨b, 7, none⟩) (.inl hbF) (.slice a5 (s1.inside.length + 1) cap5)
      have hsz4 : w.heap.size ≤ w4.heap.size := hT4.size
      have hF6 : ∀ k ∈ rfoot b (.slice au rest.length cu) (.slice a5 (s1.inside.length + 1) cap5), k ∈ rfoot b (.slice (some ⟨gq, 0, none⟩) s1.queue.length cq) (.slice ai s1.inside.length ci) ∨ nb < k := fun k hk => by
        simp only [rfoot, List.mem_cons, List.mem_append, Option.mem_toList] at hk ⊢
        rcases hk with hk | hk | hk
        · exact .inl (.inl hk)
        · exact .inr (hun k hk).1
        · rcases hnew5 k hk with h1 | h1
          · exact .inl (.inr (.inr h1))
          · exact .inr (by omega)
      clear e0 e1 e2 e3 e4 e5 e6 e7 e10 k0 k1 k2 h4 hT4 hb5 ht5 hg5 hfr5 hT5 hnew5 hto4 hbox4
      have hol : out.length < 64 := by omega
      go_wp2_with (at_builtin; refine wpList_append_tab (v := .slice ao out.length co) intAt rfl _ _ rfl rfl (hto6.alloc _) _ _ _ [q.id] rfl rfl (by exact news_one IntK q.id (Blk.last _ _ _ (by simp [World.setCell]))) (by simp [maxLen]; omega) (by simp; omega) ?_; intro v9 w9 ht9 hg9 hfr9)
      have hT9 := ((Tch.refl ((Value.slice ao out.length co).ownBlock.toList) _).alloc (.cells #[.int .i64 q.id] 3)).grown hg9 (fun k hk => .inl (by rw [hk]; simp))
      have hvoF : ∀ k, (Value.slice ao out.length co).ownBlock = some k → k ∉ rfoot b (.slice au rest.length cu) (.slice a5 (s1.inside.length + 1) cap5) := fun k hk hm => by
        rcases hF6 k hm with h | h
        · exact (HDIS.out k hk).1 h
        · have := hvo2 k hk; omega
      have h9 := h6.kept hT9 (fun k hk hm => hvoF k (by simpa using hm) hk)
      go_roundg rest.length
      case measure => have := HNQ.out; omega
      case rel =>
        refine ⟨s1.enter, out ++ [q.id], _, _, by rw [HEN.out], by rw [HEN.out]; exact h9, ht9, fun k hk => ?_, HG.out, by rw [HEN.out]; have := HNQ.out; simp; omega, hen,
          hT6.trans hT9 (fun x hx => .inr (HDIS.out x (by simpa using hx)).2), fun k hk => ?_⟩
        · rcases hfr9 k hk with h | h
          · exact ⟨hvoF k h, (HDIS.out k h).2⟩
          · refine ⟨fun hm => ?_, ?_⟩
            · have := h6.mem k hm; simp at this h; omega
            · have := hT6.size; simp at this h; omega
        · rcases hF6 k hk with h | h
          · exact HF1.out k h
          · exact .inr (by omega)
end Go.Proofs.Ytdmgbfkioghkeaa
