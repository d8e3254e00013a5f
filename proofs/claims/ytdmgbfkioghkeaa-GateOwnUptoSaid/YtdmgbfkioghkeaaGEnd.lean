/-
  The gate's methods, walked: End.
-/
import Derived.Test.YtdmgbfkioghkeaaGPick
namespace Go.Proofs.Ytdmgbfkioghkeaa
open Go.RowKit Go.Ytdmgbfkioghkeaa Go.Ytdmgbfkioghkeaa.Gt Go.Ytdmgbfkioghkeaa.Reg Go.MuLone

theorem idx_lt {xs : List Int} {id : Int} {i : Nat} (h : xs.findIdx? (· == id) = some i) : i < xs.length ∧ xs[i]? = some id := by
  obtain ⟨h1, h2, _⟩ := List.findIdx?_eq_some_iff_getElem.1 h
  exact ⟨h1, by rw [List.getElem?_eq_getElem h1, beq_iff_eq.1 h2]⟩

theorem GateIs.slotTurn {w w' : World} {b : Nat} {vq vi vt : Value} {s : Gate} {l : Int} {ys : List G} (h : GateIs w b vq vi vt s l) (hp : SlotPost w b 8 (gateCells s l vq vi vt) 73 vt ys w') :
    ∃ vt', GateIs w' b vq vi vt' { s with turn := ys } l ∧ Tch (foot b vq vi vt) w w' ∧ ∀ k ∈ foot b vq vi vt', k ∈ foot b vq vi vt ∨ w.heap.size ≤ k := by
  obtain ⟨vt', h1, h2, h3, h4⟩ := hp
  have hT : Tch (foot b vq vi vt) w w' := h4.mono fun x hx => .inl (by simp only [foot, List.mem_cons, List.mem_append] at hx ⊢; rcases hx with h | h <;> simp [h])
  have hq : ∀ g, vq.ownBlock = some g → g ∉ b :: vt.ownBlock.toList := fun g hg hm => by
    simp only [List.mem_cons, Option.mem_toList] at hm
    rcases hm with rfl | hm
    · exact h.bq hg
    · exact h.qt g hg hm
  have hi : ∀ g, vi.ownBlock = some g → g ∉ b :: vt.ownBlock.toList := fun g hg hm => by
    simp only [List.mem_cons, Option.mem_toList] at hm
    rcases hm with rfl | hm
    · exact h.bi hg
    · exact h.it g hg hm
  have new : ∀ g, vt'.ownBlock = some g → vt.ownBlock = some g ∨ w.heap.size ≤ g := h3
  refine ⟨vt', ⟨h1, h.q.touch h4 hq, h.i.touch h4 hi, h2, h.bq, h.bi, fun hb => ?_, h.qi, fun k hk hv => ?_, fun k hk hv => ?_⟩, hT, fun k hk => ?_⟩
  · rcases new b hb with h5 | h5
    · exact h.bt h5
    · have := h.blk.lt; omega
  · rcases new k hv with h5 | h5
    · exact h.qt k hk h5
    · have := h.q.block_lt hk; omega
  · rcases new k hv with h5 | h5
    · exact h.it k hk h5
    · have := h.i.block_lt hk; omega
  · simp only [foot, List.mem_cons, List.mem_append, Option.mem_toList] at hk ⊢
    rcases hk with hk | hk | hk | hk
    · exact .inl (.inl hk)
    · exact .inl (.inr (.inl hk))
    · exact .inl (.inr (.inr (.inl hk)))
    · rcases new k hk with h5 | h5
      · exact .inl (.inr (.inr (.inr h5)))
      · exact .inr h5

set_option maxRecDepth 100000 in
set_option maxHeartbeats 1000000 in
theorem end_any (b : Nat) (F : List Nat) (s : Gate) (id : Int) (lg : Bool) (w : World) (hg : GateAt w b F s) (hf : Fits s) (hin : ∀ x ∈ s.inside, ∃ j, atId s.turn x = some j) :
    Rets Try.prog 26 #[.pointer (some ⟨b, 0, none⟩), .int .i64 id, .bool lg] w fun u w' => u = .int .i64 (s.fin id lg).1 ∧ GatePost w b F (s.fin id lg).2 w' := by
  obtain ⟨vq, vi, vt, hg, rfl⟩ := hg
  unfold Rets
  obtain ⟨c0, c2, c3, c4, c5, c6, c7, c8, c9⟩ := gate_cells hg.blk
  have f0 : ∀ j, w.frozen? ⟨b, j, none⟩ = false := fun j => hg.blk.frozen j
  have hbl := hg.blk.lt
  have h1 := hg.setLock 1
  have b1 := hf.logged0
  have b2 := hf.logged1
  cases hat : s.inside.findIdx? (· == id) with
  | none =>
    have hp : s.fin id lg = (152, s) := by unfold Gate.fin; rw [hat]
    have HP := Lib.hid hp
    have HA := Lib.hid hat
    clear hp hat
    go_enter_defers Try.func26, Try.ntmps26
    go_wp2_with (first
      | (go_at_call 36; refine (lock_free Try.muLib ⟨b, 0, none⟩ _ c0 (f0 0)).mono ?_; rintro e w' ⟨rfl, rfl⟩)
      | (go_at_call 41; refine (index_any _ s.inside id _ h1.i).use ?_; rintro _ w1 ⟨rfl, hT1⟩; rw [HA.out]; dsimp only [ix]))
    have h2 := h1.kept hT1 (by simp)
    refine leaves_cons (f := 37) (args := #[.pointer (some ⟨b, 0, none⟩)]) (by simp) (by simp [go_sem]) ?_
    refine (unlock_deferred Try.muLib ⟨b, 0, none⟩ .returning _ (h2.blk.cell 0) (h2.blk.frozen 0)).mono ?_
    rintro e u' w'' ⟨rfl, rfl, rfl⟩
    exact ⟨_, results_tmp rfl _ _ _, _, rfl, by rw [HP.out]; rfl, _, ⟨_, _, _, by rw [HP.out]; exact h2.setLock 0, rfl⟩, ((Tch.relock (by simp [foot])).trans hT1 (by simp)).setCell (.inl (by simp [foot])) _, fun k hk => .inl hk⟩
  | some i =>
    obtain ⟨hil, hiv⟩ := idx_lt hat
    obtain ⟨j, hj⟩ := hin id (List.mem_of_getElem? hiv)
    have hjl := atId_lt hj
    have hp : s.fin id lg = (0, { s with inside := s.inside.eraseIdx i, turn := remove s.turn j, logged := if lg then s.logged + 1 else s.logged }) := by unfold Gate.fin; rw [hat]; simp only [hj]
    have HP := Lib.hid hp
    have HA := Lib.hid hat
    have HJ := Lib.hid hj
    clear hp hat hj hiv hin
    rcases h1.i.form with ⟨_, h0⟩ | ⟨g, cap, hv, hcap, _, hgl⟩
    · rw [h0] at hil; simp at hil
    subst hv
    have hgb : g ≠ b := fun h => hg.bi (by rw [h]; rfl)
    have hlt100 := hf.turn
    have hins := hf.inside
    go_enter_defers Try.func26, Try.ntmps26
    go_wp2_with (first
      | (go_at_call 36; refine (lock_free Try.muLib ⟨b, 0, none⟩ _ c0 (f0 0)).mono ?_; rintro e w' ⟨rfl, rfl⟩)
      | (go_at_call 41; refine (index_any _ s.inside id _ h1.i).use ?_; rintro _ w1 ⟨rfl, hT1⟩; rw [HA.out]; dsimp only [ix]; obtain ⟨e0, e2, e3, e4, e5, e6, e7, e8, e9⟩ := gate_cells (h1.kept hT1 (by simp)).blk; have e10 : ∀ j, w1.frozen? ⟨b, j, none⟩ = false := fun j => (h1.kept hT1 (by simp)).blk.frozen j)
      | (go_at_call 42; refine (deleteInt_at g cap i s.inside _ (h1.kept hT1 (by simp)).i hil).use ?_; rintro _ w2 ⟨rfl, ht2, hT2⟩; have hb2 := (h1.kept hT1 (by simp)).blk.touch hT2 (by simpa using Ne.symm hgb); clear e0 e2 e3 e4 e5 e6 e7 e8 e9 e10; obtain ⟨e0, e2, e3, e4, e5, e6, e7, e8, e9⟩ := gate_cells hb2; have e10 : ∀ j, w2.frozen? ⟨b, j, none⟩ = false := fun j => hb2.frozen j))
    have h3 : GateIs (w2.setCell ⟨b, 7, none⟩ (.slice (some ⟨g, 0, none⟩) (s.inside.length - 1) cap)) b vq (.slice (some ⟨g, 0, none⟩) (s.inside.length - 1) cap) vt { s with inside := s.inside.eraseIdx i } 1 := by
      have hk := h1.kept hT1 (by simp)
      exact ⟨hb2.set 7 (.slice (some ⟨g, 0, none⟩) (s.inside.length - 1) cap), (hk.q.touch hT2 (fun k h => by have := hk.qi k h; simp [Value.ownBlock] at this; simpa using Ne.symm this)).other hk.bq _, ht2.other (p := ⟨b, 7, none⟩) hk.bi _,
        (hk.t.touch hT2 (fun k h => by have := hk.it g rfl; simp; rintro rfl; exact this h)).other hk.bt _, hk.bq, hk.bi, hk.bt, hk.qi, hk.qt, hk.it⟩
    have hT3 : Tch (foot b vq (.slice (some ⟨g, 0, none⟩) s.inside.length cap) vt) w (w2.setCell ⟨b, 7, none⟩ (.slice (some ⟨g, 0, none⟩) (s.inside.length - 1) cap)) :=
      (((Tch.relock (by simp [foot])).trans hT1 (by simp)).trans hT2 (by simp [foot, Value.ownBlock])).setCell (.inl (by simp [foot])) _
    have hsz : w.heap.size ≤ (w2.setCell ⟨b, 7, none⟩ (.slice (some ⟨g, 0, none⟩) (s.inside.length - 1) cap)).heap.size := hT3.size
    clear e0 e2 e3 e4 e5 e6 e7 e8 e9 h1 hT1 ht2 hT2 hb2
    generalize w2.setCell ⟨b, 7, none⟩ (.slice (some ⟨g, 0, none⟩) (s.inside.length - 1) cap) = w3 at *
    obtain ⟨e0, e2, e3, e4, e5, e6, e7, e8, e9⟩ := gate_cells h3.blk
    refine wp_region_text (by kernel_rfl) (by kernel_rfl) ?_
    go_wp2_with (first
      | (go_at_call 38; refine (at_any _ s.turn id _ h3.drew.t).use ?_; rintro _ w4 ⟨rfl, hT4⟩; rw [HJ.out]; dsimp only [ix])
      | (go_at_call 43; refine (remove_any b 8 j _ 73 vt s.turn _ (h3.drew.kept hT4 (by simp)).blk rfl (h3.drew.kept hT4 (by simp)).t h3.bt (by omega) hjl).use ?_; rintro _ w5 ⟨rfl, hsp⟩))
    refine ⟨by kernel_rfl, ?_⟩
    obtain ⟨vt', h5, hT5, hF5⟩ := (h3.drew.kept hT4 (by simp)).slotTurn hsp
    have hT6 : Tch (foot b vq (.slice (some ⟨g, 0, none⟩) s.inside.length cap) vt) w w5 := ((hT3.drew).trans hT4 (by simp)).trans hT5 (fun x hx => .inl (by simpa [foot, Value.ownBlock] using hx))
    have hF6 : ∀ k ∈ foot b vq (.slice (some ⟨g, 0, none⟩) (s.inside.length - 1) cap) vt', k ∈ foot b vq (.slice (some ⟨g, 0, none⟩) s.inside.length cap) vt ∨ w.heap.size ≤ k := fun k hk => by
      rcases hF5 k hk with h | h
      · exact .inl (by simpa [foot, Value.ownBlock] using h)
      · exact .inr (by have := hT4.size; simp at this; omega)
    clear e0 e2 e3 e4 e5 e6 e7 e8 e9 hsp hT5 hF5 hT4 h3 hT3
    obtain ⟨e0, e2, e3, e4, e5, e6, e7, e8, e9⟩ := gate_cells h5.blk
    have e10 : ∀ j, w5.frozen? ⟨b, j, none⟩ = false := fun j => h5.blk.frozen j
    cases lg with
    | false =>
      go_wp2
      refine leaves_cons (f := 37) (args := #[.pointer (some ⟨b, 0, none⟩)]) (by simp) (by simp [go_sem]) ?_
      refine (unlock_deferred Try.muLib ⟨b, 0, none⟩ .returning _ (h5.blk.cell 0) (h5.blk.frozen 0)).mono ?_
      rintro e u' w'' ⟨rfl, rfl, rfl⟩
      exact ⟨_, results_tmp rfl _ _ _, _, rfl, by rw [HP.out]; rfl, _, ⟨_, _, _, by rw [HP.out]; exact h5.setLock 0, rfl⟩, hT6.setCell (.inl (by simp [foot])) _, hF6⟩
    | true =>
      have h6 : GateIs (w5.setCell ⟨b, 9, none⟩ (.int .i64 (s.logged + 1))) b vq (.slice (some ⟨g, 0, none⟩) (s.inside.length - 1) cap) vt' { s with inside := s.inside.eraseIdx i, turn := remove s.turn j, logged := s.logged + 1 } 1 :=
        ⟨h5.blk.set 9 (.int .i64 (s.logged + 1)), h5.q.other h5.bq _, h5.i.other h5.bi _, h5.t.other h5.bt _, h5.bq, h5.bi, h5.bt, h5.qi, h5.qt, h5.it⟩
      go_wp2
      refine leaves_cons (f := 37) (args := #[.pointer (some ⟨b, 0, none⟩)]) (by simp) (by simp [go_sem]) ?_
      refine (unlock_deferred Try.muLib ⟨b, 0, none⟩ .returning _ (h6.blk.cell 0) (h6.blk.frozen 0)).mono ?_
      rintro e u' w'' ⟨rfl, rfl, rfl⟩
      exact ⟨_, results_tmp rfl _ _ _, _, rfl, by rw [HP.out]; rfl, _, ⟨_, _, _, by rw [HP.out]; exact h6.setLock 0, rfl⟩, (hT6.setCell (.inl (by simp [foot])) _).setCell (.inl (by simp [foot])) _, hF6⟩
end Go.Proofs.Ytdmgbfkioghkeaa
