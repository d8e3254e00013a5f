/-
  The gate's methods, walked: Picked, End.
-/
import Derived.Test.YtdmgbfkioghkeaaGGate
namespace Go.Proofs.Ytdmgbfkioghkeaa
open Go.RowKit Go.Ytdmgbfkioghkeaa Go.Ytdmgbfkioghkeaa.Gt Go.Ytdmgbfkioghkeaa.Reg Go.MuLone

theorem atId_lt {xs : List G} {id : Int} {i : Nat} (h : atId xs id = some i) : i < xs.length := (List.findIdx?_eq_some_iff_getElem.1 h).1

set_option maxRecDepth 100000 in
set_option maxHeartbeats 1000000 in
theorem picked_any (b : Nat) (F : List Nat) (s : Gate) (id : Int) (w : World) (hg : GateAt w b F s) (hf : Fits s) :
    Rets Try.prog 25 #[.pointer (some ⟨b, 0, none⟩), .int .i64 id] w fun u w' => u = .int .i64 (s.picked id).1 ∧ GatePost w b F (s.picked id).2 w' := by
  obtain ⟨vq, vi, vt, hg, rfl⟩ := hg
  unfold Rets
  obtain ⟨c0, c2, c3, c4, c5, c6, c7, c8, c9⟩ := gate_cells hg.blk
  have f0 : ∀ j, w.frozen? ⟨b, j, none⟩ = false := fun j => hg.blk.frozen j
  have hbl := hg.blk.lt
  have h1 := hg.setLock 1
  have b1 := hf.clock0
  have b2 := hf.clock1
  cases hat : atId s.turn id with
  | none =>
    have hp : s.picked id = (152, s) := by unfold Gate.picked; rw [hat]
    have HP := Lib.hid hp
    have HA := Lib.hid hat
    clear hp hat
    go_enter_defers Try.func25, Try.ntmps25
    go_wp2_with (first
      | (go_at_call 36; refine (lock_free Try.muLib ⟨b, 0, none⟩ _ c0 (f0 0)).mono ?_; rintro e w' ⟨rfl, rfl⟩)
      | (go_at_call 38; refine (at_any _ s.turn id _ h1.t).use ?_; rintro _ w1 ⟨rfl, hT1⟩; rw [HA.out]; dsimp only [ix]))
    have h2 := h1.kept hT1 (by simp)
    refine leaves_cons (f := 37) (args := #[.pointer (some ⟨b, 0, none⟩)]) (by simp) (by simp [go_sem]) ?_
    refine (unlock_deferred Try.muLib ⟨b, 0, none⟩ .returning _ (h2.blk.cell 0) (h2.blk.frozen 0)).mono ?_
    rintro e u' w'' ⟨rfl, rfl, rfl⟩
    exact ⟨_, results_tmp rfl _ _ _, _, rfl, by rw [HP.out]; rfl, _, ⟨_, _, _, by rw [HP.out]; exact h2.setLock 0, rfl⟩, ((Tch.relock (by simp [foot])).trans hT1 (by simp)).setCell (.inl (by simp [foot])) _, fun k hk => .inl hk⟩
  | some i =>
    have hil := atId_lt hat
    have hp : s.picked id = (0, { s with clock := s.clock + 1, turn := sink (rise (s.turn.modify i fun x => { x with last := s.clock + 1 }) i) i }) := by unfold Gate.picked; rw [hat]
    have HP := Lib.hid hp
    have HA := Lib.hid hat
    clear hp hat
    rcases h1.t.form with ⟨_, h0⟩ | ⟨g, cap, hv, hcap, _, hgl⟩
    · rw [h0] at hil; simp at hil
    subst hv
    have hgb : g ≠ b := fun h => hg.bt (by rw [h]; rfl)
    have hlt100 := hf.turn
    go_enter_defers Try.func25, Try.ntmps25
    go_wp2_with (first
      | (go_at_call 36; refine (lock_free Try.muLib ⟨b, 0, none⟩ _ c0 (f0 0)).mono ?_; rintro e w' ⟨rfl, rfl⟩)
      | (go_at_call 38; refine (at_any _ s.turn id _ h1.t).use ?_; rintro _ w1 ⟨rfl, hT1⟩; rw [HA.out]; dsimp only [ix]; obtain ⟨e0, e2, e3, e4, e5, e6, e7, e8, e9⟩ := gate_cells (h1.kept hT1 (by simp)).blk; have e10 : ∀ j, w1.frozen? ⟨b, j, none⟩ = false := fun j => (h1.kept hT1 (by simp)).blk.frozen j))
    have h2 := h1.kept hT1 (by simp)
    have h3 : GateIs (w1.setCell ⟨b, 5, none⟩ (.int .i64 (s.clock + 1))) b vq vi (.slice (some ⟨g, 0, none⟩) s.turn.length cap) { s with clock := s.clock + 1 } 1 :=
      ⟨h2.blk.set 5 (.int .i64 (s.clock + 1)), h2.q.other h2.bq _, h2.i.other h2.bi _, h2.t.other h2.bt _, h2.bq, h2.bi, h2.bt, h2.qi, h2.qt, h2.it⟩
    have hT3 : Tch (foot b vq vi (.slice (some ⟨g, 0, none⟩) s.turn.length cap)) w (w1.setCell ⟨b, 5, none⟩ (.int .i64 (s.clock + 1))) :=
      ((Tch.relock (by simp [foot])).trans hT1 (by simp)).setCell (.inl (by simp [foot])) _
    clear e0 e2 e3 e4 e5 e6 e7 e8 e9 h2 h1 hT1
    generalize w1.setCell ⟨b, 5, none⟩ (.int .i64 (s.clock + 1)) = w2 at *
    obtain ⟨e0, e2, e3, e4, e5, e6, e7, e8, e9⟩ := gate_cells h3.blk
    have e10 : ∀ j, w2.frozen? ⟨b, j, none⟩ = false := fun j => h3.blk.frozen j
    obtain ⟨x, hx⟩ : ∃ x, s.turn[i]? = some x := ⟨_, List.getElem?_eq_getElem hil⟩
    obtain ⟨d0, d1, d2⟩ := guest_cells h3.t hx
    have fz : ∀ j, w2.frozen? ⟨g, j, none⟩ = false := fun j => h3.t.frozen j
    have HX := Lib.hid hx
    clear hx
    refine wp_region_text (by kernel_rfl) (by kernel_rfl) ?_
    go_wp2
    refine ⟨by kernel_rfl, ?_⟩
    have hmod : s.turn.modify i (fun x => { x with last := s.clock + 1 }) = s.turn.set i { x with last := s.clock + 1 } := by
      apply List.ext_getElem?
      intro j
      rw [List.getElem?_modify, List.getElem?_set]
      by_cases hij : i = j
      · subst hij; rw [if_pos rfl, if_pos hil]; simp [HX.out]
      · rw [if_neg hij]; simp [hij]
    have ht4 := (h3.t.put (f := 2) { x with last := s.clock + 1 } (.int .i64 (s.clock + 1)) HX.out (by decide) rfl).drew
    rw [show i * GuestK.sz + 2 = i * 3 + 2 from rfl, ← hmod] at ht4
    have hT4 : Tch [g] w2 (w2.setCell ⟨g, i * 3 + 2, none⟩ (.int .i64 (s.clock + 1))).drew := ((Tch.refl [g] w2).setCell (.inl (by simp)) _).drew
    have hb4 := h3.blk.touch hT4 (by simpa using Ne.symm hgb)
    clear d0 d1 d2 fz e0 e2 e3 e4 e5 e6 e7 e8 e9 e10 HX hmod
    generalize (w2.setCell ⟨g, i * 3 + 2, none⟩ (.int .i64 (s.clock + 1))).drew = w4 at *
    obtain ⟨e0, e2, e3, e4, e5, e6, e7, e8, e9⟩ := gate_cells hb4
    generalize hts : s.turn.modify i (fun x => { x with last := s.clock + 1 }) = ts at *
    have htl : ts.length = s.turn.length := by rw [← hts]; simp
    have HTL := Lib.hid htl
    clear hts htl
    go_wp2_with fail
    refine (rise_any g _ cap i ts _ ht4 (by rw [HTL.out]; exact hil)).use ?_
    rintro _ w5 ⟨rfl, ht5, hT5⟩
    have hb5 := hb4.touch hT5 (by simpa using Ne.symm hgb)
    clear e0 e2 e3 e4 e5 e6 e7 e8 e9
    obtain ⟨e0, e2, e3, e4, e5, e6, e7, e8, e9⟩ := gate_cells hb5
    go_wp2_with fail
    refine (sink_any g _ cap i _ _ ht5 (by rw [rise_length, HTL.out]; exact hil) (by rw [rise_length, HTL.out]; omega)).use ?_
    rintro _ w6 ⟨rfl, ht6, hT6⟩
    have hT7 := (hT4.trans' hT5).trans' hT6
    have hne : ∀ k, k ∈ foot b vq vi (.slice (some ⟨g, 0, none⟩) s.turn.length cap) → k ∈ foot b vq vi (.slice (some ⟨g, 0, none⟩) s.turn.length cap) := fun _ h => h
    have h6 : GateIs w6 b vq vi (.slice (some ⟨g, 0, none⟩) s.turn.length cap) { s with clock := s.clock + 1, turn := sink (rise ts i) i } 1 :=
      ⟨hb5.touch hT6 (by simpa using Ne.symm hgb), h3.q.touch hT7 (fun k hk => by have := h3.qt k hk; simp [Value.ownBlock] at this; simpa using Ne.symm this),
        h3.i.touch hT7 (fun k hk => by have := h3.it k hk; simp [Value.ownBlock] at this; simpa using Ne.symm this), ht6, h3.bq, h3.bi, h3.bt, h3.qi, h3.qt, h3.it⟩
    go_wp2
    refine leaves_cons (f := 37) (args := #[.pointer (some ⟨b, 0, none⟩)]) (by simp) (by simp [go_sem]) ?_
    refine (unlock_deferred Try.muLib ⟨b, 0, none⟩ .returning _ (h6.blk.cell 0) (h6.blk.frozen 0)).mono ?_
    rintro e u' w'' ⟨rfl, rfl, rfl⟩
    exact ⟨_, results_tmp rfl _ _ _, _, rfl, by rw [HP.out]; rfl, _, ⟨_, _, _, by rw [HP.out]; exact h6.setLock 0, rfl⟩, (hT3.trans hT7 (by simp [foot, Value.ownBlock])).setCell (.inl (by simp [foot])) _, fun k hk => .inl hk⟩
end Go.Proofs.Ytdmgbfkioghkeaa
