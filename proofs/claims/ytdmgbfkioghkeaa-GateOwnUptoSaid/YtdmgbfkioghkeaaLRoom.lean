/-
  The law GateRoom holds: never more inside than may be, never more than the log has room for; no condition.
-/
import Derived.Test.YtdmgbfkioghkeaaLDo
namespace Go.Proofs.Ytdmgbfkioghkeaa
open Go.ChangeShapes Go.WideShapes Go.ChangeAt Go.RowKit Go.Ytdmgbfkioghkeaa Go.Ytdmgbfkioghkeaa.Gt Go.Ytdmgbfkioghkeaa.Reg

/-- The round's head. -/
def RoomRel (w0 : World) (b : Nat) (most units : Int) (k : Nat) (vl vi : Value) (wr : World) : Prop :=
  ∃ F s r, vl = .int .i64 s.logged ∧ vi = .int .i64 (s.inside.length : Int) ∧ GateAt wr b F s ∧ Sim s r (1 + k) ∧ Room s ∧ s.most = most ∧ s.units = units ∧ Tch [] w0 wr ∧ ∀ k ∈ F, w0.heap.size ≤ k

theorem step_lims {s : Gate} (o : Deed) : (s.step o).most = s.most ∧ (s.step o).units = s.units := by
  unfold Gate.step
  by_cases h1 : o.kind = 1
  · rw [if_pos h1]; exact ⟨(submit_same s o.id).2.2.1, (submit_same s o.id).2.2.2⟩
  rw [if_neg h1]
  by_cases h2 : o.kind = 2
  · rw [if_pos h2]; exact ⟨(admits s []).most, (admits s []).units⟩
  rw [if_neg h2]
  by_cases h3 : o.kind = 3
  · rw [if_pos h3]
    rcases fin_does s o.id o.yes with ⟨_, he⟩ | ⟨_, _, _, hm, hu, _⟩
    · rw [he]; exact ⟨rfl, rfl⟩
    · exact ⟨hm, hu⟩
  rw [if_neg h3]
  by_cases h4 : o.kind = 4
  · rw [if_pos h4]; exact ⟨rfl, rfl⟩
  rw [if_neg h4]
  by_cases h6 : o.kind = 6
  · rw [if_pos h6]; exact ⟨(picked_same s o.id).2.2.1, (picked_same s o.id).2.2.2.1⟩
  rw [if_neg h6]
  exact ⟨rfl, rfl⟩

/-- Behind a call of do: how many came in. -/
theorem outs_len (s : Gate) (o : Deed) (h3 : o.kind ≠ 3) : (s.step o).inside.length = s.inside.length + (s.outs o).length ∧ (o.kind ≠ 4 → (s.step o).logged = s.logged) := by
  unfold Gate.step Gate.outs
  by_cases h1 : o.kind = 1
  · have h2 : o.kind ≠ 2 := by omega
    rw [if_pos h1, if_neg h2]; exact ⟨by rw [(submit_same s o.id).1]; rfl, fun _ => (submit_same s o.id).2.1⟩
  rw [if_neg h1]
  by_cases h2 : o.kind = 2
  · rw [if_pos h2, if_pos h2]
    obtain ⟨more, e1, e2⟩ := (admits s []).inside
    exact ⟨by rw [e1, e2]; simp, fun _ => (admits s []).logged⟩
  rw [if_neg h2, if_neg h2, if_neg h3]
  by_cases h4 : o.kind = 4
  · rw [if_pos h4]; exact ⟨rfl, fun h => absurd h4 h⟩
  rw [if_neg h4]
  by_cases h6 : o.kind = 6
  · rw [if_pos h6]; exact ⟨by rw [(picked_same s o.id).1]; rfl, fun _ => (picked_same s o.id).2.1⟩
  rw [if_neg h6]
  exact ⟨rfl, fun _ => rfl⟩

set_option maxRecDepth 100000 in
set_option maxHeartbeats 4000000 in
theorem gateRoom_any (most units : Int) (v : Value) (os : List Deed) (w : World) (hs : Script w v os) :
    Rets Try.prog 13 #[.int .i64 most, .int .i64 units, v] w fun u w' => u = .bool true ∧ Tch [] w w' := by
  unfold Rets
  by_cases h : 1 ≤ most ∧ most ≤ 16 ∧ 1 ≤ units ∧ units ≤ 64
  · obtain ⟨h1, h2, h3, h4⟩ := h
    have hs0 := hs
    obtain ⟨a, cap, rfl, hl, _⟩ := hs0
    have hfb : Fits (Gate.begun most units) := sim_fits (sim_begun h1 h2 h3 h4) (by omega)
    have HBI := Lib.hid (begun_admit h1 h3).2.2.2.1
    have HBL := Lib.hid (begun_admit h1 h3).2.2.2.2.1
    have HBM := Lib.hid (begun_admit h1 h3).2.2.2.2.2.1
    have HBU := Lib.hid (begun_admit h1 h3).2.2.2.2.2.2
    have dm : (most != most) = false := by simp
    have du : (units != units) = false := by simp
    go_enter Try.func13, Try.ntmps13
    go_wp2_with (first
      | (go_at_call 21; refine (fits_yes most units _ h1 h2 h3 h4).use ?_; rintro _ w1 ⟨rfl, hw1⟩; have hw2 := hw1.symm; subst hw2)
      | (go_at_call 22; refine (begun_any most units _ h1 h2 h3 h4).use ?_; rintro _ w2 hp; obtain ⟨b, F, rfl, hg, hT, hF⟩ := hp)
      | (go_at_call 19; refine (stat_any b F _ _ hg hfb).use ?_; rintro _ w3 hS; obtain ⟨vI, vQ, rfl, hg3, hT3, hI3, hQ3, _⟩ := hS; obtain ⟨aI, cI, hvI⟩ := hI3.slice; subst hvI; obtain ⟨aQ, cQ, hvQ⟩ := hQ3.slice; subst hvQ; unfold statCells; rw [HBM.out, HBU.out]))
    have hT4 : Tch [] w w3 := hT.trans hT3 (fun k hk => .inr (hF k hk))
    have hstart : RoomRel w b most units 0 (.int .i64 0) (.int .i64 1) (w3.alloc (.cells #[.slice aI (Gate.begun most units).inside.length cI, .slice aQ ((Gate.begun most units).queue.map (·.id)).length cQ, .int .i64 (Gate.begun most units).logged, .int .i64 units, .int .i64 most] 33)) :=
      ⟨F, Gate.begun most units, RGate.begun most units, by rw [HBL.out], by rw [HBI.out]; rfl, hg3.kept ((Tch.refl [] _).alloc _) (by simp), by simpa using sim_begun h1 h2 h3 h4, room_begun h1 h3, HBM.out, HBU.out, hT4.alloc _, hF⟩
    have HS := Lib.hid hstart
    clear hstart hg hT hg3 hT3 hI3 hQ3 hT4 hF HBI HBL HBM HBU
    go_loopw [11, 12, 13] (fun vl vi j wr => ∃ k : Nat, k ≤ os.length ∧ j = .int .i64 k ∧ RoomRel w b most units k vl vi wr) (fun _ _ j _ => os.length - (intOf j).toNat)
    case atStart => exact ⟨0, Nat.zero_le _, rfl, by simpa using HS.out⟩
    case round =>
      obtain ⟨k, hk, rfl, F, s, r, rfl, rfl, hg, hsim, hroom, hm, hu, hT, hF⟩ := hrel
      by_cases hlt : k < os.length
      · obtain ⟨o, ho⟩ : ∃ o, os[k]? = some o := ⟨_, List.getElem?_eq_getElem hlt⟩
        -- case_split_marker
        obtain ⟨a', cap', hv, _, hc⟩ := hs.kept hT
        cases hv
        obtain ⟨bs, off, ha, c0, c1, c2⟩ := hc k o ho
        subst ha
        have c1' : wr.cell? ⟨bs, off + k * 3 + 1, none⟩ = some (.int .i64 o.id) := by rw [Nat.add_assoc]; exact c1
        have c2' : wr.cell? ⟨bs, off + k * 3 + 2, none⟩ = some (.bool o.yes) := by rw [Nat.add_assoc]; exact c2
        have hfit := sim_fits hsim (by omega)
        have hin := sim_hin hsim
        have hsim' := sim_step hsim (by omega) o
        have hfit' := sim_fits hsim' (by omega)
        have hroom' := room_step hroom o
        have hlim' : (s.step o).most = most ∧ (s.step o).units = units := ⟨(step_lims o).1.trans hm, (step_lims o).2.trans hu⟩
        have hnF : wr.heap.size ∉ F := fun h => by have := hg.mem _ h; omega
        have hws := hT.size
        have b1 := hfit.inside
        have b2 := hfit.logged0
        have b3 := hfit.logged1
        have b4 := hfit'.inside
        have b5 := hfit'.queue
        have f3 : decide (((s.step o).inside.length : Int) < 0) = false := by simp
        have f4 : decide (most < ((s.step o).inside.length : Int)) = false := by have := hroom'.most; simp; omega
        have f5 : decide (units < ((s.step o).inside.length : Int) + (s.step o).logged) = false := by have := hroom'.units; simp; omega
        rw [show (1 : Int) + (k : Int) + 1 = 1 + ((k + 1 : Nat) : Int) by omega] at hsim'
        have HO := Lib.hid ho
        have HSIM := Lib.hid hsim'
        have HROOM := Lib.hid hroom'
        have HLIM := Lib.hid hlim'
        have HF := Lib.hid hF
        clear ho hc hsim' hroom' hlim' hF hs
        obtain ⟨kd, id, yes⟩ := o
        simp only at c0 c1 c2 c1' c2'
        by_cases h3 : kd = 3
        · subst h3
          have eS : s.step ⟨3, id, yes⟩ = (s.fin id yes).2 := rfl
          rw [eS] at hfit' b4 b5 f3 f4 f5 HSIM HROOM HLIM
          rcases fin_does s id yes with ⟨e1, e2⟩ | ⟨e1, e2, e3, _⟩
          · rw [e2] at hfit' b4 b5 f3 f4 f5 HSIM HROOM HLIM
            have HE1 := Lib.hid e1
            have HE2 := Lib.hid e2
            clear e1 e2 eS
            go_wp2_with (first
              | (go_at_call 26; refine (end_any b F s id yes _ (hg.kept ((Tch.refl [] _).alloc _) (by simp)) hfit hin).use ?_; rintro _ w4 ⟨rfl, hp⟩; rw [HE1.out]; rw [HE2.out] at hp; obtain ⟨F4, hg4, hT4, hF4⟩ := hp; have hbox4 := (Blk.new wr #[.int .i64 3, .int .i64 id, .bool yes] 40).touch hT4 hnF; have k0 : w4.cell? ⟨wr.heap.size, 0, none⟩ = some (.int .i64 3) := hbox4.cell 0; have k1 : w4.cell? ⟨wr.heap.size, 1, none⟩ = some (.int .i64 id) := hbox4.cell 1; have k2 : w4.cell? ⟨wr.heap.size, 2, none⟩ = some (.bool yes) := hbox4.cell 2; have hn4 : wr.heap.size ∉ F4 := (fun h => (hF4 _ h).elim hnF (fun h => by simp at h; omega)))
              | (go_at_call 19; refine (stat_any b F4 _ _ hg4 hfit).use ?_; rintro _ w5 hS; obtain ⟨vI, vQ, rfl, hg5, hT5, hI5, hQ5, _⟩ := hS; obtain ⟨aI, cI, hvI⟩ := hI5.slice; subst hvI; obtain ⟨aQ, cQ, hvQ⟩ := hQ5.slice; subst hvQ; unfold statCells; have hbox5 := hbox4.touch hT5 hn4; have j0 : w5.cell? ⟨wr.heap.size, 0, none⟩ = some (.int .i64 3) := hbox5.cell 0; have jl := hbox5.lt))
            have hFF : ∀ x ∈ F4, w.heap.size ≤ x := fun x hx => by
              rcases hF4 x hx with h | h
              · exact HF.out x h
              · have := hws; simp at h; omega
            go_roundw
            case rel =>
              refine ⟨k + 1, by omega, by go_num, F4, _, _, rfl, rfl, hg5.kept ((Tch.refl [] _).alloc _) (by simp), HSIM.out, HROOM.out, HLIM.out.1, HLIM.out.2, (((hT.alloc _).trans hT4 (fun x hx => .inr (HF.out x hx))).trans hT5 (fun x hx => .inr (hFF x hx))).alloc _, hFF⟩
            case measure => simp [intOf]; omega
          · have e4 : ((s.inside.length : Nat) : Int) - 1 = ((s.fin id yes).2.inside.length : Int) := by omega
            have hp1 : 1 ≤ s.inside.length := by omega
            have HE1 := Lib.hid e1
            clear e1 e2 eS
            cases yes with
            | true =>
              have e5 : (s.fin id true).2.logged = s.logged + 1 := by rw [e3]; simp
              rw [e5] at f5
              clear e3
              go_wp2_with (first
                | (go_at_call 26; refine (end_any b F s id true _ (hg.kept ((Tch.refl [] _).alloc _) (by simp)) hfit hin).use ?_; rintro _ w4 ⟨rfl, hp⟩; rw [HE1.out]; obtain ⟨F4, hg4, hT4, hF4⟩ := hp; have hbox4 := (Blk.new wr #[.int .i64 3, .int .i64 id, .bool true] 40).touch hT4 hnF; have k0 : w4.cell? ⟨wr.heap.size, 0, none⟩ = some (.int .i64 3) := hbox4.cell 0; have k1 : w4.cell? ⟨wr.heap.size, 1, none⟩ = some (.int .i64 id) := hbox4.cell 1; have k2 : w4.cell? ⟨wr.heap.size, 2, none⟩ = some (.bool true) := hbox4.cell 2; have hn4 : wr.heap.size ∉ F4 := (fun h => (hF4 _ h).elim hnF (fun h => by simp at h; omega)))
                | (go_at_call 19; refine (stat_any b F4 _ _ hg4 hfit').use ?_; rintro _ w5 hS; obtain ⟨vI, vQ, rfl, hg5, hT5, hI5, hQ5, _⟩ := hS; obtain ⟨aI, cI, hvI⟩ := hI5.slice; subst hvI; obtain ⟨aQ, cQ, hvQ⟩ := hQ5.slice; subst hvQ; unfold statCells; have hbox5 := hbox4.touch hT5 hn4; have j0 : w5.cell? ⟨wr.heap.size, 0, none⟩ = some (.int .i64 3) := hbox5.cell 0; have jl := hbox5.lt))
              have hFF : ∀ x ∈ F4, w.heap.size ≤ x := fun x hx => by
                rcases hF4 x hx with h | h
                · exact HF.out x h
                · have := hws; simp at h; omega
              go_roundw
              case rel =>
                refine ⟨k + 1, by omega, by go_num, F4, _, _, by rw [e5], rfl, hg5.kept ((Tch.refl [] _).alloc _) (by simp), HSIM.out, HROOM.out, HLIM.out.1, HLIM.out.2, (((hT.alloc _).trans hT4 (fun x hx => .inr (HF.out x hx))).trans hT5 (fun x hx => .inr (hFF x hx))).alloc _, hFF⟩
              case measure => simp [intOf]; omega
            | false =>
              have e5 : (s.fin id false).2.logged = s.logged := by rw [e3]; simp
              rw [e5] at f5
              clear e3
              go_wp2_with (first
                | (go_at_call 26; refine (end_any b F s id false _ (hg.kept ((Tch.refl [] _).alloc _) (by simp)) hfit hin).use ?_; rintro _ w4 ⟨rfl, hp⟩; rw [HE1.out]; obtain ⟨F4, hg4, hT4, hF4⟩ := hp; have hbox4 := (Blk.new wr #[.int .i64 3, .int .i64 id, .bool false] 40).touch hT4 hnF; have k0 : w4.cell? ⟨wr.heap.size, 0, none⟩ = some (.int .i64 3) := hbox4.cell 0; have k1 : w4.cell? ⟨wr.heap.size, 1, none⟩ = some (.int .i64 id) := hbox4.cell 1; have k2 : w4.cell? ⟨wr.heap.size, 2, none⟩ = some (.bool false) := hbox4.cell 2; have hn4 : wr.heap.size ∉ F4 := (fun h => (hF4 _ h).elim hnF (fun h => by simp at h; omega)))
                | (go_at_call 19; refine (stat_any b F4 _ _ hg4 hfit').use ?_; rintro _ w5 hS; obtain ⟨vI, vQ, rfl, hg5, hT5, hI5, hQ5, _⟩ := hS; obtain ⟨aI, cI, hvI⟩ := hI5.slice; subst hvI; obtain ⟨aQ, cQ, hvQ⟩ := hQ5.slice; subst hvQ; unfold statCells; have hbox5 := hbox4.touch hT5 hn4; have j0 : w5.cell? ⟨wr.heap.size, 0, none⟩ = some (.int .i64 3) := hbox5.cell 0; have jl := hbox5.lt))
              have hFF : ∀ x ∈ F4, w.heap.size ≤ x := fun x hx => by
                rcases hF4 x hx with h | h
                · exact HF.out x h
                · have := hws; simp at h; omega
              go_roundw
              case rel =>
                refine ⟨k + 1, by omega, by go_num, F4, _, _, by rw [e5], rfl, hg5.kept ((Tch.refl [] _).alloc _) (by simp), HSIM.out, HROOM.out, HLIM.out.1, HLIM.out.2, (((hT.alloc _).trans hT4 (fun x hx => .inr (HF.out x hx))).trans hT5 (fun x hx => .inr (hFF x hx))).alloc _, hFF⟩
              case measure => simp [intOf]; omega
        have d3 : (kd == 3) = false := by simpa using h3
        obtain ⟨ol1, ol2⟩ := outs_len s ⟨kd, id, yes⟩ h3
        by_cases h4 : kd = 4
        · subst h4
          have e0 : s.outs ⟨4, id, yes⟩ = [] := rfl
          have e4 : (s.step ⟨4, id, yes⟩).inside.length = s.inside.length := by rw [ol1, e0]; rfl
          have e5 : (s.step ⟨4, id, yes⟩).logged = 0 := rfl
          rw [e4] at f3 f4 f5 b4
          rw [e5, Int.add_zero] at f5
          have HE0 := Lib.hid e0
          clear ol1 ol2 e0 d3
          go_wp2_with (first
            | (go_at_call 23; refine (do_any b F s ⟨4, id, yes⟩ _ (hg.kept ((Tch.refl [] _).alloc _) (by simp)) hfit hin).use ?_; rintro va w4 hp; obtain ⟨F4, hg4, hT4, hF4, hva, _⟩ := hp; rw [HE0.out] at hva; obtain ⟨av, cv, hvv⟩ := hva.slice; subst hvv; have hbox4 := (Blk.new wr #[.int .i64 4, .int .i64 id, .bool yes] 40).touch hT4 hnF; have k0 : w4.cell? ⟨wr.heap.size, 0, none⟩ = some (.int .i64 4) := hbox4.cell 0; have k1 : w4.cell? ⟨wr.heap.size, 1, none⟩ = some (.int .i64 id) := hbox4.cell 1; have k2 : w4.cell? ⟨wr.heap.size, 2, none⟩ = some (.bool yes) := hbox4.cell 2; have hn4 : wr.heap.size ∉ F4 := (fun h => (hF4 _ h).elim hnF (fun h => by simp at h; omega)))
            | (go_at_call 19; refine (stat_any b F4 _ _ hg4 hfit').use ?_; rintro _ w5 hS; obtain ⟨vI, vQ, rfl, hg5, hT5, hI5, hQ5, _⟩ := hS; obtain ⟨aI, cI, hvI⟩ := hI5.slice; subst hvI; obtain ⟨aQ, cQ, hvQ⟩ := hQ5.slice; subst hvQ; unfold statCells; have hbox5 := hbox4.touch hT5 hn4; have j0 : w5.cell? ⟨wr.heap.size, 0, none⟩ = some (.int .i64 4) := hbox5.cell 0; have jl := hbox5.lt))
          have hFF : ∀ x ∈ F4, w.heap.size ≤ x := fun x hx => by
            rcases hF4 x hx with h | h
            · exact HF.out x h
            · have := hws; simp at h; omega
          go_roundw
          case rel =>
            refine ⟨k + 1, by omega, by go_num, F4, _, _, by rw [e5], by rw [e4], hg5.kept ((Tch.refl [] _).alloc _) (by simp), HSIM.out, HROOM.out, HLIM.out.1, HLIM.out.2, (((hT.alloc _).trans hT4 (fun x hx => .inr (HF.out x hx))).trans hT5 (fun x hx => .inr (hFF x hx))).alloc _, hFF⟩
          case measure => simp [intOf]; omega
        have d4 : (kd == 4) = false := by simpa using h4
        have ol3 := ol2 h4
        by_cases h2' : kd = 2
        · subst h2'
          have e4 : ((s.inside.length : Nat) : Int) + ((s.outs ⟨2, id, yes⟩).length : Int) = ((s.step ⟨2, id, yes⟩).inside.length : Int) := by rw [ol1]; simp
          have e5 : (s.step ⟨2, id, yes⟩).logged = s.logged := ol3
          have ol4 : (s.outs ⟨2, id, yes⟩).length ≤ 64 := by omega
          have hmay : (s.step ⟨2, id, yes⟩).may = false := (admits s []).may
          have hm' := HLIM.out.1
          have hu' := HLIM.out.2
          unfold Gate.may at hmay
          rw [hm', hu', e5] at hmay
          rw [e5] at f5
          clear ol1 ol2 ol3 d3 d4 h3 h4 hm' hu'
          by_cases q1 : 0 < (s.step ⟨2, id, yes⟩).queue.length
          · have g1 : decide ((0 : Int) < ((s.step ⟨2, id, yes⟩).queue.length : Int)) = true := decide_eq_true (by omega)
            by_cases q2 : ((s.step ⟨2, id, yes⟩).inside.length : Int) < most
            · have g2 : decide (((s.step ⟨2, id, yes⟩).inside.length : Int) < most) = true := by simpa using q2
              have g3 : decide (((s.step ⟨2, id, yes⟩).inside.length : Int) + s.logged < units) = false := by simp [q1, q2] at hmay; simp; omega
              clear hmay
              go_wp2_with (first
                | (go_at_call 23; refine (do_any b F s ⟨2, id, yes⟩ _ (hg.kept ((Tch.refl [] _).alloc _) (by simp)) hfit hin).use ?_; rintro va w4 hp; obtain ⟨F4, hg4, hT4, hF4, hva, _⟩ := hp; obtain ⟨av, cv, hvv⟩ := hva.slice; subst hvv; have hbox4 := (Blk.new wr #[.int .i64 2, .int .i64 id, .bool yes] 40).touch hT4 hnF; have k0 : w4.cell? ⟨wr.heap.size, 0, none⟩ = some (.int .i64 2) := hbox4.cell 0; have k1 : w4.cell? ⟨wr.heap.size, 1, none⟩ = some (.int .i64 id) := hbox4.cell 1; have k2 : w4.cell? ⟨wr.heap.size, 2, none⟩ = some (.bool yes) := hbox4.cell 2; have hn4 : wr.heap.size ∉ F4 := (fun h => (hF4 _ h).elim hnF (fun h => by simp at h; omega)))
                | (go_at_call 19; refine (stat_any b F4 _ _ hg4 hfit').use ?_; rintro _ w5 hS; obtain ⟨vI, vQ, rfl, hg5, hT5, hI5, hQ5, _⟩ := hS; obtain ⟨aI, cI, hvI⟩ := hI5.slice; subst hvI; obtain ⟨aQ, cQ, hvQ⟩ := hQ5.slice; subst hvQ; unfold statCells; have hbox5 := hbox4.touch hT5 hn4; have j0 : w5.cell? ⟨wr.heap.size, 0, none⟩ = some (.int .i64 2) := hbox5.cell 0; have jl := hbox5.lt))
              have hFF : ∀ x ∈ F4, w.heap.size ≤ x := fun x hx => by
                rcases hF4 x hx with h | h
                · exact HF.out x h
                · have := hws; simp at h; omega
              go_roundw
              case rel =>
                refine ⟨k + 1, by omega, by go_num, F4, _, _, by rw [e5], rfl, hg5.kept ((Tch.refl [] _).alloc _) (by simp), HSIM.out, HROOM.out, HLIM.out.1, HLIM.out.2, (((hT.alloc _).trans hT4 (fun x hx => .inr (HF.out x hx))).trans hT5 (fun x hx => .inr (hFF x hx))).alloc _, hFF⟩
              case measure => simp [intOf]; omega
            · have g2 : decide (((s.step ⟨2, id, yes⟩).inside.length : Int) < most) = false := by simpa using q2
              clear hmay
              go_wp2_with (first
                | (go_at_call 23; refine (do_any b F s ⟨2, id, yes⟩ _ (hg.kept ((Tch.refl [] _).alloc _) (by simp)) hfit hin).use ?_; rintro va w4 hp; obtain ⟨F4, hg4, hT4, hF4, hva, _⟩ := hp; obtain ⟨av, cv, hvv⟩ := hva.slice; subst hvv; have hbox4 := (Blk.new wr #[.int .i64 2, .int .i64 id, .bool yes] 40).touch hT4 hnF; have k0 : w4.cell? ⟨wr.heap.size, 0, none⟩ = some (.int .i64 2) := hbox4.cell 0; have k1 : w4.cell? ⟨wr.heap.size, 1, none⟩ = some (.int .i64 id) := hbox4.cell 1; have k2 : w4.cell? ⟨wr.heap.size, 2, none⟩ = some (.bool yes) := hbox4.cell 2; have hn4 : wr.heap.size ∉ F4 := (fun h => (hF4 _ h).elim hnF (fun h => by simp at h; omega)))
                | (go_at_call 19; refine (stat_any b F4 _ _ hg4 hfit').use ?_; rintro _ w5 hS; obtain ⟨vI, vQ, rfl, hg5, hT5, hI5, hQ5, _⟩ := hS; obtain ⟨aI, cI, hvI⟩ := hI5.slice; subst hvI; obtain ⟨aQ, cQ, hvQ⟩ := hQ5.slice; subst hvQ; unfold statCells; have hbox5 := hbox4.touch hT5 hn4; have j0 : w5.cell? ⟨wr.heap.size, 0, none⟩ = some (.int .i64 2) := hbox5.cell 0; have jl := hbox5.lt))
              have hFF : ∀ x ∈ F4, w.heap.size ≤ x := fun x hx => by
                rcases hF4 x hx with h | h
                · exact HF.out x h
                · have := hws; simp at h; omega
              go_roundw
              case rel =>
                refine ⟨k + 1, by omega, by go_num, F4, _, _, by rw [e5], rfl, hg5.kept ((Tch.refl [] _).alloc _) (by simp), HSIM.out, HROOM.out, HLIM.out.1, HLIM.out.2, (((hT.alloc _).trans hT4 (fun x hx => .inr (HF.out x hx))).trans hT5 (fun x hx => .inr (hFF x hx))).alloc _, hFF⟩
              case measure => simp [intOf]; omega
          · have g1 : decide ((0 : Int) < ((s.step ⟨2, id, yes⟩).queue.length : Int)) = false := decide_eq_false (by omega)
            clear hmay
            go_wp2_with (first
              | (go_at_call 23; refine (do_any b F s ⟨2, id, yes⟩ _ (hg.kept ((Tch.refl [] _).alloc _) (by simp)) hfit hin).use ?_; rintro va w4 hp; obtain ⟨F4, hg4, hT4, hF4, hva, _⟩ := hp; obtain ⟨av, cv, hvv⟩ := hva.slice; subst hvv; have hbox4 := (Blk.new wr #[.int .i64 2, .int .i64 id, .bool yes] 40).touch hT4 hnF; have k0 : w4.cell? ⟨wr.heap.size, 0, none⟩ = some (.int .i64 2) := hbox4.cell 0; have k1 : w4.cell? ⟨wr.heap.size, 1, none⟩ = some (.int .i64 id) := hbox4.cell 1; have k2 : w4.cell? ⟨wr.heap.size, 2, none⟩ = some (.bool yes) := hbox4.cell 2; have hn4 : wr.heap.size ∉ F4 := (fun h => (hF4 _ h).elim hnF (fun h => by simp at h; omega)))
              | (go_at_call 19; refine (stat_any b F4 _ _ hg4 hfit').use ?_; rintro _ w5 hS; obtain ⟨vI, vQ, rfl, hg5, hT5, hI5, hQ5, _⟩ := hS; obtain ⟨aI, cI, hvI⟩ := hI5.slice; subst hvI; obtain ⟨aQ, cQ, hvQ⟩ := hQ5.slice; subst hvQ; unfold statCells; have hbox5 := hbox4.touch hT5 hn4; have j0 : w5.cell? ⟨wr.heap.size, 0, none⟩ = some (.int .i64 2) := hbox5.cell 0; have jl := hbox5.lt))
            have hFF : ∀ x ∈ F4, w.heap.size ≤ x := fun x hx => by
              rcases hF4 x hx with h | h
              · exact HF.out x h
              · have := hws; simp at h; omega
            go_roundw
            case rel =>
              refine ⟨k + 1, by omega, by go_num, F4, _, _, by rw [e5], rfl, hg5.kept ((Tch.refl [] _).alloc _) (by simp), HSIM.out, HROOM.out, HLIM.out.1, HLIM.out.2, (((hT.alloc _).trans hT4 (fun x hx => .inr (HF.out x hx))).trans hT5 (fun x hx => .inr (hFF x hx))).alloc _, hFF⟩
            case measure => simp [intOf]; omega
        have d2 : (kd == 2) = false := by simpa using h2'
        have e0 : s.outs ⟨kd, id, yes⟩ = [] := by unfold Gate.outs; rw [if_neg h2']
        have e4 : (s.step ⟨kd, id, yes⟩).inside.length = s.inside.length := by rw [ol1, e0]; rfl
        have e5 : (s.step ⟨kd, id, yes⟩).logged = s.logged := ol3
        rw [e4] at f3 f4 f5 b4
        rw [e5] at f5
        have HE0 := Lib.hid e0
        clear ol1 ol2 ol3 e0 h3 h4 h2'
        go_wp2_with (first
          | (go_at_call 23; refine (do_any b F s ⟨kd, id, yes⟩ _ (hg.kept ((Tch.refl [] _).alloc _) (by simp)) hfit hin).use ?_; rintro va w4 hp; obtain ⟨F4, hg4, hT4, hF4, hva, _⟩ := hp; rw [HE0.out] at hva; obtain ⟨av, cv, hvv⟩ := hva.slice; subst hvv; have hbox4 := (Blk.new wr #[.int .i64 kd, .int .i64 id, .bool yes] 40).touch hT4 hnF; have k0 : w4.cell? ⟨wr.heap.size, 0, none⟩ = some (.int .i64 kd) := hbox4.cell 0; have k1 : w4.cell? ⟨wr.heap.size, 1, none⟩ = some (.int .i64 id) := hbox4.cell 1; have k2 : w4.cell? ⟨wr.heap.size, 2, none⟩ = some (.bool yes) := hbox4.cell 2; have hn4 : wr.heap.size ∉ F4 := (fun h => (hF4 _ h).elim hnF (fun h => by simp at h; omega)))
          | (go_at_call 19; refine (stat_any b F4 _ _ hg4 hfit').use ?_; rintro _ w5 hS; obtain ⟨vI, vQ, rfl, hg5, hT5, hI5, hQ5, _⟩ := hS; obtain ⟨aI, cI, hvI⟩ := hI5.slice; subst hvI; obtain ⟨aQ, cQ, hvQ⟩ := hQ5.slice; subst hvQ; unfold statCells; have hbox5 := hbox4.touch hT5 hn4; have j0 : w5.cell? ⟨wr.heap.size, 0, none⟩ = some (.int .i64 kd) := hbox5.cell 0; have jl := hbox5.lt))
        have hFF : ∀ x ∈ F4, w.heap.size ≤ x := fun x hx => by
          rcases hF4 x hx with h | h
          · exact HF.out x h
          · have := hws; simp at h; omega
        go_roundw
        case rel =>
          refine ⟨k + 1, by omega, by go_num, F4, _, _, by rw [e5], by rw [e4], hg5.kept ((Tch.refl [] _).alloc _) (by simp), HSIM.out, HROOM.out, HLIM.out.1, HLIM.out.2, (((hT.alloc _).trans hT4 (fun x hx => .inr (HF.out x hx))).trans hT5 (fun x hx => .inr (hFF x hx))).alloc _, hFF⟩
        case measure => simp [intOf]; omega
      · go_wp2
        go_ret
        exact ⟨_, rfl, rfl, hT⟩
  · have hn : most < 1 ∨ 16 < most ∨ units < 1 ∨ 64 < units := by omega
    go_enter Try.func13, Try.ntmps13
    go_wp2_with (first
      | (go_at_call 21; refine (fits_no most units _ hn).use ?_; rintro _ w1 ⟨rfl, rfl⟩)
      | (go_at_call 16; refine (new_no most units _ hn).use ?_; rintro _ w1 ⟨rfl, hT⟩))
    go_ret
    exact ⟨_, rfl, rfl, hT⟩
end Go.Proofs.Ytdmgbfkioghkeaa
