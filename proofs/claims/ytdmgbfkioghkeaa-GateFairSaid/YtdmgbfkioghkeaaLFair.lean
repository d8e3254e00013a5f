/-
  The law GateFair, walked: nobody sees more than most turns go by without its own; no condition.
-/
import Derived.Test.YtdmgbfkioghkeaaLGone
import Derived.Test.YtdmgbfkioghkeaaLRoom
import Derived.Test.YtdmgbfkioghkeaaPWatch
namespace Go.Proofs.Ytdmgbfkioghkeaa
open Go.ChangeShapes Go.WideShapes Go.ChangeAt Go.RowKit Go.Ytdmgbfkioghkeaa Go.Ytdmgbfkioghkeaa.Gt Go.Ytdmgbfkioghkeaa.Reg

/-- The first script's head. -/
def HeadRel (w0 : World) (b : Nat) (most : Int) (n : Int) (wr : World) : Prop :=
  ∃ F s r, GateAt wr b F s ∧ Sim s r n ∧ Room s ∧ Lasts r ∧ s.most = most ∧ Tch [] w0 wr ∧ ∀ k ∈ F, w0.heap.size ≤ k
/-- The second one's. -/
def FairRel (w0 : World) (b : Nat) (most : Int) (n : Int) (va : Value) (wr : World) : Prop :=
  ∃ F s r A, GateAt wr b F s ∧ Watch s r n A ∧ s.most = most ∧ Tab TurnK wr va A ∧ (∀ x, va.ownBlock = some x → x ∉ F ∧ w0.heap.size ≤ x) ∧ Tch [] w0 wr ∧ ∀ k ∈ F, w0.heap.size ≤ k

/-- In the midst of a turn. -/
def midst (id : Int) (A : List (Int × Int)) (j : Nat) : List (Int × Int) := (A.take j).map (passed id) ++ A.drop j
theorem midst_at {id : Int} {A : List (Int × Int)} {j : Nat} {x : Int × Int} (hx : A[j]? = some x) : (midst id A j)[j]? = some x := by
  have hj : j < A.length := (List.getElem?_eq_some_iff.1 hx).1
  unfold midst
  rw [List.getElem?_append_right (by simp; omega), List.length_map, List.length_take, Nat.min_eq_left (by omega), Nat.sub_self, List.getElem?_drop, Nat.add_zero]
  exact hx
theorem midst_set {id : Int} {A : List (Int × Int)} {j : Nat} {x : Int × Int} (hx : A[j]? = some x) : (midst id A j).set j (passed id x) = midst id A (j + 1) := by
  have hj : j < A.length := (List.getElem?_eq_some_iff.1 hx).1
  have hd : A.drop j = x :: A.drop (j + 1) := by rw [List.drop_eq_getElem_cons hj, (List.getElem?_eq_some_iff.1 hx).2]
  unfold midst
  rw [List.take_add_one, hx, hd, List.map_append, List.set_append_right _ _ (by simp; omega)]
  simp [Nat.min_eq_left (Nat.le_of_lt hj)]
theorem midst_len (id : Int) (A : List (Int × Int)) (j : Nat) : (midst id A j).length = A.length := by
  unfold midst
  simp
  omega
theorem midst_end (id : Int) (A : List (Int × Int)) : midst id A A.length = A.map (passed id) := by unfold midst; simp
theorem met_next {id : Int} {A : List (Int × Int)} {j : Nat} {x : Int × Int} (hx : A[j]? = some x) : ((A.take (j + 1)).any fun t => t.1 == id) = (((A.take j).any fun t => t.1 == id) || (x.1 == id)) := by
  rw [List.take_add_one, hx, List.any_append]
  simp

theorem turns_lit (w : World) : NewList TurnK w [(0, 0)] (.slice (some ⟨w.heap.size, 0, none⟩) 1 1) (w.alloc (.cells #[.int .i64 0, .int .i64 0] 44)) :=
  ⟨World.ownsRow_lit w #[.int .i64 0, .int .i64 0] 1 (Nat.zero_le _) (by decide) rfl, (Tch.refl [] w).alloc _, fun k hk => by simp [Value.ownBlock] at hk; omega⟩

theorem zeros_next {xs : List Int} {A : List (Int × Int)} {k : Nat} {x : Int} (hx : xs[k]? = some x) : A ++ ((xs.take (k + 1)).map fun x => (x, (0 : Int))) = (A ++ (xs.take k).map fun x => (x, (0 : Int))) ++ [(x, 0)] := by
  rw [List.take_add_one, hx]; simp
theorem zeros_len (xs : List Int) (A : List (Int × Int)) (k : Nat) : (A ++ (xs.take k).map fun x => (x, (0 : Int))).length ≤ A.length + k := by
  simp; omega

set_option maxRecDepth 100000 in
set_option maxHeartbeats 4000000 in
theorem gateFair_any (most units : Int) (v v2 : Value) (os ms : List Deed) (w : World) (hs : Script w v os) (hms : Script w v2 ms) :
    Rets Try.prog 11 #[.int .i64 most, .int .i64 units, v, v2] w fun u w' => u = .bool true ∧ Tch [] w w' := by
  unfold Rets
  by_cases h : 1 ≤ most ∧ most ≤ 16 ∧ 1 ≤ units ∧ units ≤ 64
  · obtain ⟨h1, h2, h3, h4⟩ := h
    have hs0 := hs
    obtain ⟨a, cap, rfl, hl, _⟩ := hs0
    have hms0 := hms
    obtain ⟨ma, mcap, rfl, hml, _⟩ := hms0
    have HSB := Lib.hid (sim_begun h1 h2 h3 h4)
    have HMB := Lib.hid (show (Gate.begun most units).most = most from (begun_admit h1 h3).2.2.2.2.2.1)
    have HRB := Lib.hid (room_begun h1 h3 (most := most) (units := units))
    have HLB := Lib.hid (lasts_begun h1 h2 h3 h4)
    go_enter Try.func11, Try.ntmps11
    go_wp2_with (first
      | (go_at_call 21; refine (fits_yes most units _ h1 h2 h3 h4).use ?_; rintro _ w1 ⟨rfl, hw1⟩; have hw2 := hw1.symm; subst hw2)
      | (go_at_call 22; refine (begun_any most units _ h1 h2 h3 h4).use ?_; rintro _ w2 hp; obtain ⟨b, F, rfl, hg, hT, hF⟩ := hp))
    have HS := Lib.hid (show HeadRel w b most (1 + ((0 : Nat) : Int)) w2 from
      ⟨F, Gate.begun most units, RGate.begun most units, hg, by simpa using HSB.out, HRB.out, HLB.out, HMB.out, hT, hF⟩)
    clear hg hT hF HSB HMB HRB HLB
    go_loopw [12] (fun j wr => ∃ k : Nat, k ≤ os.length ∧ j = .int .i64 k ∧ HeadRel w b most (1 + (k : Int)) wr) (fun j _ => os.length - (intOf j).toNat)
    case atStart => exact ⟨0, Nat.zero_le _, rfl, HS.out⟩
    case round =>
      obtain ⟨k, hk, rfl, F, s, r, hg, hsim, hroom, hlast, hm, hT, hF⟩ := hrel
      have hfit := sim_fits hsim (by omega)
      by_cases hlt : k < os.length
      · obtain ⟨o, ho⟩ : ∃ o, os[k]? = some o := ⟨_, List.getElem?_eq_getElem hlt⟩
        obtain ⟨a', cap', hv, _, hc⟩ := hs.kept hT
        cases hv
        obtain ⟨bs, off, ha, c0, c1, c2⟩ := hc k o ho
        subst ha
        have c1' : wr.cell? ⟨bs, off + k * 3 + 1, none⟩ = some (.int .i64 o.id) := by rw [Nat.add_assoc]; exact c1
        have c2' : wr.cell? ⟨bs, off + k * 3 + 2, none⟩ = some (.bool o.yes) := by rw [Nat.add_assoc]; exact c2
        have hin := sim_hin hsim
        have HSIM := Lib.hid (sim_step hsim (by omega) o)
        have HROOM := Lib.hid (room_step hroom o)
        have HLAST := Lib.hid (lasts_step hsim hlast o)
        have HM := Lib.hid ((step_lims (s := s) o).1.trans hm)
        have HF := Lib.hid hF
        clear ho hc hF hroom hlast hm hms
        obtain ⟨kd, id, yes⟩ := o
        simp only at c0 c1 c2 c1' c2'
        go_wp2_with (go_at_call 23; refine (do_any b F s ⟨kd, id, yes⟩ _ hg hfit hin).use ?_; rintro va w4 hp; obtain ⟨F4, hg4, hT4, hF4, hva, hvd⟩ := hp)
        have hFF : ∀ x ∈ F4, w.heap.size ≤ x := fun x hx => by
          rcases hF4 x hx with h | h
          · exact HF.out x h
          · have := hT.size; omega
        go_roundw
        case rel =>
          refine ⟨k + 1, by omega, by go_num, F4, _, _, hg4, ?_, HROOM.out, HLAST.out, HM.out, hT.trans hT4 (fun x hx => .inr (HF.out x hx)), hFF⟩
          have := HSIM.out
          rwa [show (1 : Int) + (k : Int) + 1 = 1 + ((k + 1 : Nat) : Int) by omega] at this
        case measure => simp [intOf]; omega
      · obtain rfl : k = os.length := by omega
        have hfld : ∀ (x0 x1 x2 x3 x4 : Value) (w : World), (Instr.field 33 (.agg #[x0, x1, x2, x3, x4]) 0).run Try.prog w = .ok x0 w := fun _ _ _ _ _ _ => by kernel_rfl
        have HF := Lib.hid hF
        have HM := Lib.hid hm
        have HW := Lib.hid (watch_begin hsim hroom hlast)
        have hil : s.inside.length ≤ 16 := by
          have e1 := hsim.inside
          have e2 := HW.out.len
          simp at e2
          omega
        clear hF hs hsim hroom hlast hm
        go_wp2_with (go_at_call 19; refine (stat_any b F s _ hg hfit).use ?_; rintro _ w5 hS; obtain ⟨vI, vQ, rfl, hg5, hT5, hI5, hQ5, _⟩ := hS; obtain ⟨aI, cI, hvI⟩ := hI5.slice; subst hvI; obtain ⟨aQ, cQ, hvQ⟩ := hQ5.slice; subst hvQ; unfold statCells)
        have HL0 := Lib.hid (turns_lit w5)
        have HT5 := Lib.hid (hT.trans hT5 (fun x hx => .inr (HF.out x hx)))
        clear hT hT5 hQ5 hg hfld hfit
        go_loopw [14, 15] (fun va vj wr => ∃ j : Nat, j ≤ s.inside.length ∧ vj = .int .i64 j ∧ NewList TurnK w5 ([(0, 0)] ++ (s.inside.take j).map fun x => (x, (0 : Int))) va wr) (fun _ vj _ => s.inside.length - (intOf vj).toNat)
        case atStart => exact ⟨0, Nat.zero_le _, rfl, HL0.out⟩
        case round =>
          obtain ⟨j, hj, rfl, hn⟩ := hrel
          obtain ⟨ao, co, hvo⟩ := hn.1.slice
          subst hvo
          by_cases hjl : j < s.inside.length
          · obtain ⟨x, hx⟩ : ∃ x, s.inside[j]? = some x := ⟨_, List.getElem?_eq_getElem hjl⟩
            have hI := hI5.touch hn.2.1 (by simp)
            rcases hI.form with ⟨_, h0⟩ | ⟨g, cap', hv, _⟩
            · rw [h0] at hjl; simp at hjl
            cases hv
            have q0 : wr.cell? ⟨g, j, none⟩ = some (.int .i64 x) := by have := hI.cell (f := 0) hx rfl; simpa [IntK] using this
            have HL := Lib.hid (zeros_next (A := [(0, 0)]) hx)
            have hol := zeros_len s.inside [(0, 0)] j
            clear hx
            generalize [((0 : Int), (0 : Int))] ++ (s.inside.take j).map (fun x => (x, (0 : Int))) = ys at *
            simp only [List.length_cons, List.length_nil] at hol
            go_wp2_with (at_builtin; refine wpList_append_tab (v := .slice ao ys.length co) turnAt rfl _ _ rfl rfl (hn.1.alloc _) _ _ _ [(x, 0)] rfl rfl (by exact news_one TurnK (x, 0) (Blk.last _ _ _ rfl)) (by simp [maxLen]; omega) (by simp; omega) ?_; intro v' w1 ht1 hg1 hfr1)
            go_roundw
            case rel => exact ⟨j + 1, by omega, by go_num, by rw [HL.out]; exact newList_append hn ((Tch.refl [] wr).alloc _) ht1 hg1 hfr1⟩
            case measure => simp [intOf]; omega
          · obtain rfl : j = s.inside.length := by omega
            have HST := Lib.hid (show FairRel w b most (1 + (os.length : Int) + ((0 : Nat) : Int)) (.slice ao ([((0 : Int), (0 : Int))] ++ (s.inside.take s.inside.length).map fun x => (x, (0 : Int))).length co) wr from by
              refine ⟨F, s, r, (0, 0) :: s.inside.map (fun x => (x, 0)), hg5.kept hn.2.1 (by simp), by simpa using HW.out, HM.out, ?_, fun x hx => ⟨fun hm => ?_, ?_⟩, HT5.out.trans hn.2.1 (by simp), HF.out⟩
              · have := hn.1
                rw [List.take_length] at this ⊢
                exact this
              · have := hn.2.2 x hx
                have := hg5.mem x hm
                omega
              · have := hn.2.2 x hx
                have := HT5.out.size
                omega)
            clear hn hj hg5 HL0 HW HF HT5
            go_wp2
            go_loopw [14, 16] (fun va vj wr => ∃ j : Nat, j ≤ ms.length ∧ vj = .int .i64 j ∧ FairRel w b most (1 + (os.length : Int) + (j : Int)) va wr) (fun _ vj _ => ms.length - (intOf vj).toNat)
            case atStart => exact ⟨0, Nat.zero_le _, rfl, HST.out⟩
            case round =>
              obtain ⟨k, hk, rfl, F, s, r, A, hg, hW, hm, htA, hdis, hT, hF⟩ := hrel
              obtain ⟨aA, cA, hvA⟩ := htA.slice
              subst hvA
              by_cases hlt : k < ms.length
              · obtain ⟨o, ho⟩ : ∃ o, ms[k]? = some o := ⟨_, List.getElem?_eq_getElem hlt⟩
                obtain ⟨a', cap', hv, _, hc⟩ := hms.kept hT
                cases hv
                obtain ⟨bs, off, ha, c0, c1, c2⟩ := hc k o ho
                subst ha
                have c1' : wr.cell? ⟨bs, off + k * 3 + 1, none⟩ = some (.int .i64 o.id) := by rw [Nat.add_assoc]; exact c1
                have c2' : wr.cell? ⟨bs, off + k * 3 + 2, none⟩ = some (.bool o.yes) := by rw [Nat.add_assoc]; exact c2
                have hfit := sim_fits hW.sim (by omega)
                have hin := sim_hin hW.sim
                have hlen := hW.len
                have hnF : wr.heap.size ∉ F := fun h => by have := hg.mem _ h; omega
                have hws := hT.size
                have HF := Lib.hid hF
                have HD := Lib.hid hdis
                have HW := Lib.hid hW
                have HM := Lib.hid hm
                clear ho hc hF hdis hW hm hms
                obtain ⟨kd, id, yes⟩ := o
                simp only at c0 c1 c2 c1' c2'
                by_cases h6 : kd = 6
                · subst h6
                  obtain ⟨t1, t2, t3, t4⟩ := watch_turn HW.out (by unfold maxStamp; omega)
                  have HT1 := Lib.hid t1
                  have HT2 := Lib.hid t2
                  have HT3 := Lib.hid t3
                  have HT4 := Lib.hid t4
                  have HPS := Lib.hid ((picked_same s s.next).2.2.1)
                  clear t1 t2 t3 t4
                  go_wp2_with (go_at_call 24; refine (next_any b F s _ (hg.kept ((Tch.refl [] _).alloc _) (by simp)) hfit).use ?_; rintro _ w4 ⟨rfl, hp⟩; obtain ⟨F4, hg4, hT4, hF4⟩ := hp; have htA4 := (htA.alloc (.cells #[.int .i64 6, .int .i64 id, .bool yes] 40)).touch hT4 (fun g' hg' => (HD.out g' hg').1))
                  generalize s.next = nx at *
                  have hFF : ∀ x ∈ F4, w.heap.size ≤ x := fun x hx => by
                    rcases hF4 x hx with h | h
                    · exact HF.out x h
                    · simp at h; omega
                  have hvF : ∀ x, (Value.slice aA A.length cA).ownBlock = some x → x ∉ F4 := fun x hx hm => by
                    rcases hF4 x hm with h | h
                    · exact (HD.out x hx).1 h
                    · have := htA.block_lt hx; simp at h; omega
                  have hT4' := (hT.alloc (.cells #[.int .i64 6, .int .i64 id, .bool yes] 40)).trans hT4 (fun x hx => .inr (HF.out x hx))
                  have HVF := Lib.hid hvF
                  have HFF := Lib.hid hFF
                  clear hvF hFF hT4 hF4 hT hg htA
                  go_loopw [19, 20] (fun vm vj wi => ∃ j : Nat, j ≤ A.length ∧ vj = .int .i64 j ∧ vm = .bool ((A.take j).any fun t => t.1 == nx) ∧ Tab TurnK wi (.slice aA A.length cA) (midst nx A j) ∧ Tch ((Value.slice aA A.length cA).ownBlock.toList) w4 wi) (fun _ vj _ => A.length - (intOf vj).toNat)
                  case atStart => exact ⟨0, Nat.zero_le _, rfl, rfl, by simpa [midst] using htA4, Tch.refl _ _⟩
                  case round =>
                    obtain ⟨j, hj, rfl, hvm, htm, hTi⟩ := hrel
                    by_cases hjl : j < A.length
                    · obtain ⟨x, hx⟩ : ∃ x, A[j]? = some x := ⟨_, List.getElem?_eq_getElem hjl⟩
                      have hml := midst_len nx A j
                      rcases htm.form with ⟨_, h0⟩ | ⟨g, cap', hv, _⟩
                      · rw [h0] at hml; simp at hml; omega
                      rw [hml] at hv
                      cases hv
                      obtain ⟨q0, q1⟩ := turn_cells htm (midst_at hx)
                      have qf : ∀ i, wr.frozen? ⟨g, i, none⟩ = false := fun i => htm.frozen i
                      have hxm : passed nx x ∈ A.map (passed nx) := List.mem_map_of_mem (List.mem_of_getElem? hx)
                      have hgm := HT4.out _ hxm
                      have HM0 := HM.out
                      have HX := Lib.hid hx
                      have HVM := Lib.hid hvm
                      by_cases hxi : x.1 = nx
                      · have hp : passed nx x = (x.1, 0) := by unfold passed; rw [if_pos hxi]
                        have hb : (x.1 == nx) = true := by simpa using hxi
                        have dm : decide (most < 0) = false := by simp; omega
                        have HY := Lib.hid (show TurnK.enc (passed nx x) = (TurnK.enc x).set 1 (.int .i64 0) from by rw [hp]; rfl)
                        clear hp hgm hxm hx hvm hxi HM0
                        go_wp2
                        go_roundw
                        case rel =>
                          refine ⟨j + 1, by omega, by go_num, ?_, ?_, hTi.setCell (.inl (by simp [Value.ownBlock])) _⟩
                          · rw [met_next HX.out, hb, Bool.or_true]
                          · have := htm.put (passed nx x) (.int .i64 0) (midst_at HX.out) (by decide) HY.out
                            rw [midst_set HX.out] at this
                            exact this
                        case measure => simp [intOf]; omega
                      · have hp : passed nx x = (x.1, x.2 + 1) := by unfold passed; rw [if_neg hxi]
                        have hb : (x.1 == nx) = false := by simpa using hxi
                        rw [hp] at hgm
                        simp only at hgm
                        have dm : decide (most < x.2 + 1) = false := by simp; omega
                        have b0 : 0 ≤ x.2 + 1 := hgm.1
                        have b1 : x.2 + 1 ≤ 16 := by omega
                        have HY := Lib.hid (show TurnK.enc (passed nx x) = (TurnK.enc x).set 1 (.int .i64 (x.2 + 1)) from by rw [hp]; rfl)
                        clear hp hgm hxm hx hvm hxi HM0
                        go_wp2
                        go_roundw
                        case rel =>
                          refine ⟨j + 1, by omega, by go_num, ?_, ?_, hTi.setCell (.inl (by simp [Value.ownBlock])) _⟩
                          · rw [met_next HX.out, hb, Bool.or_false]; exact HVM.out
                          · have := htm.put (passed nx x) (.int .i64 (x.2 + 1)) (midst_at HX.out) (by decide) HY.out
                            rw [midst_set HX.out] at this
                            exact this
                        case measure => simp [intOf]; omega
                    · obtain rfl : j = A.length := by omega
                      have hany : ((A.take A.length).any fun t => t.1 == nx) = true := by
                        rw [List.take_length, List.any_eq_true]
                        obtain ⟨t, ht, he⟩ := HT3.out
                        exact ⟨t, ht, by simpa using he⟩
                      rw [hany] at hvm
                      subst hvm
                      rw [midst_end] at htm
                      have HP := Lib.hid (show GateAt wr b F4 s from hg4.kept hTi (fun k hk hm => HVF.out k (by simpa using hm) hk))
                      have HTM := Lib.hid htm
                      clear hany htm hg4 htA4
                      go_wp2_with (go_at_call 25; refine (picked_any b F4 s nx _ HP.out hfit).use ?_; rintro _ w6 ⟨rfl, hp⟩; rw [HT1.out]; obtain ⟨F6, hg6, hT6, hF6⟩ := hp)
                      have hT6' := (hT4'.trans hTi (fun x hx => .inr (HD.out x (by simpa using hx)).2)).trans hT6 (fun x hx => .inr (HFF.out x hx))
                      have htA6 := HTM.out.touch hT6 (fun g' hg' => HVF.out g' hg')
                      have hsz := (hT4'.trans hTi (fun x hx => .inr (HD.out x (by simpa using hx)).2)).size
                      go_roundw
                      case rel =>
                        refine ⟨k + 1, by omega, by go_num, F6, (s.picked nx).2, (r.picked nx).2, A.map (passed nx), hg6, ?_, HPS.out.trans HM.out, htA6, fun x hx => ⟨fun hm => ?_, (HD.out x hx).2⟩, hT6', fun x hx => ?_⟩
                        · have := HT2.out
                          rwa [show (1 : Int) + (os.length : Int) + (k : Int) + 1 = 1 + (os.length : Int) + ((k + 1 : Nat) : Int) by omega] at this
                        · rcases hF6 x hm with h | h
                          · exact HVF.out x hx h
                          · have := HTM.out.block_lt hx; omega
                        · rcases hF6 x hx with h | h
                          · exact HFF.out x h
                          · omega
                      case measure => simp [intOf]; omega
                have d6 : (kd == 6) = false := by simpa using h6
                by_cases h3' : kd = 3
                · subst h3'
                  have HL := Lib.hid ((step_lims (s := s) ⟨3, id, yes⟩).1.trans HM.out)
                  rcases watch_end HW.out id yes with ⟨e1, e2⟩ | ⟨e1, e2⟩
                  · have HE1 := Lib.hid e1
                    have HE2 := Lib.hid e2
                    clear e1 e2 h6
                    go_wp2_with (first
                      | (go_at_call 26; refine (end_any b F s id yes _ (hg.kept ((Tch.refl [] _).alloc _) (by simp)) hfit hin).use ?_; rintro _ w4 ⟨rfl, hp⟩; rw [HE1.out]; obtain ⟨F4, hg4, hT4, hF4⟩ := hp; have hbox4 := (Blk.new wr #[.int .i64 3, .int .i64 id, .bool yes] 40).touch hT4 hnF; have k1 : w4.cell? ⟨wr.heap.size, 1, none⟩ = some (.int .i64 id) := hbox4.cell 1; have kl := hbox4.lt; have htA4 := (htA.alloc (.cells #[.int .i64 3, .int .i64 id, .bool yes] 40)).touch hT4 (fun g' hg' => (HD.out g' hg').1))
                      | (go_at_call 27; refine (gone_any _ A id _ htA4 (by omega)).use ?_; rintro vg w5 hn5; obtain ⟨a5, c5, hv5⟩ := hn5.1.slice; subst hv5))
                    have hFF : ∀ x ∈ F4, w.heap.size ≤ x := fun x hx => by
                      rcases hF4 x hx with h | h
                      · exact HF.out x h
                      · simp at h; omega
                    have hT4' := (hT.alloc (.cells #[.int .i64 3, .int .i64 id, .bool yes] 40)).trans hT4 (fun x hx => .inr (HF.out x hx))
                    go_roundw
                    case rel =>
                      refine ⟨k + 1, by omega, by go_num, F4, (s.fin id yes).2, (r.fin id yes).2, others A id, hg4.kept hn5.2.1 (by simp), ?_, HL.out, hn5.1, fun x hx => ⟨fun hm => ?_, ?_⟩, hT4'.trans hn5.2.1 (by simp), hFF⟩
                      · have := HE2.out
                        rwa [show (1 : Int) + (os.length : Int) + (k : Int) + 1 = 1 + (os.length : Int) + ((k + 1 : Nat) : Int) by omega] at this
                      · have := hn5.2.2 x hx
                        have := hg4.mem x hm
                        omega
                      · have := hn5.2.2 x hx
                        have := hT4'.size
                        omega
                    case measure => simp [intOf]; omega
                  · have d1 : ((s.fin id yes).1 == 0) = false := by rw [e1]; rfl
                    have HE1 := Lib.hid e1
                    have HE2 := Lib.hid e2
                    clear e1 e2 h6 d1
                    go_wp2_with (go_at_call 26; refine (end_any b F s id yes _ (hg.kept ((Tch.refl [] _).alloc _) (by simp)) hfit hin).use ?_; rintro _ w4 ⟨rfl, hp⟩; rw [HE1.out]; obtain ⟨F4, hg4, hT4, hF4⟩ := hp; have htA4 := (htA.alloc (.cells #[.int .i64 3, .int .i64 id, .bool yes] 40)).touch hT4 (fun g' hg' => (HD.out g' hg').1))
                    have hFF : ∀ x ∈ F4, w.heap.size ≤ x := fun x hx => by
                      rcases hF4 x hx with h | h
                      · exact HF.out x h
                      · simp at h; omega
                    have hvF : ∀ x, (Value.slice aA A.length cA).ownBlock = some x → x ∉ F4 := fun x hx hm => by
                      rcases hF4 x hm with h | h
                      · exact (HD.out x hx).1 h
                      · have := htA.block_lt hx; simp at h; omega
                    have hT4' := (hT.alloc (.cells #[.int .i64 3, .int .i64 id, .bool yes] 40)).trans hT4 (fun x hx => .inr (HF.out x hx))
                    go_roundw
                    case rel =>
                      refine ⟨k + 1, by omega, by go_num, F4, (s.fin id yes).2, (r.fin id yes).2, A, hg4, ?_, HL.out, htA4, fun x hx => ⟨hvF x hx, (HD.out x hx).2⟩, hT4', hFF⟩
                      have := HE2.out
                      rwa [show (1 : Int) + (os.length : Int) + (k : Int) + 1 = 1 + (os.length : Int) + ((k + 1 : Nat) : Int) by omega] at this
                    case measure => simp [intOf]; omega
                have d3 : (kd == 3) = false := by simpa using h3'
                have HWD := Lib.hid (watch_do HW.out (by omega) ⟨kd, id, yes⟩ h3' h6)
                have HL := Lib.hid ((step_lims (s := s) ⟨kd, id, yes⟩).1.trans HM.out)
                have hol := HWD.out.len
                rw [List.length_append, List.length_map] at hol
                clear h3' h6
                go_wp2_with (go_at_call 23; refine (do_any b F s ⟨kd, id, yes⟩ _ (hg.kept ((Tch.refl [] _).alloc _) (by simp)) hfit hin).use ?_; rintro va w4 hp; obtain ⟨F4, hg4, hT4, hF4, hva, hvd⟩ := hp; obtain ⟨av, cv, hvv⟩ := hva.slice; subst hvv; have htA4 := (htA.alloc (.cells #[.int .i64 kd, .int .i64 id, .bool yes] 40)).touch hT4 (fun g' hg' => (HD.out g' hg').1))
                have hFF : ∀ x ∈ F4, w.heap.size ≤ x := fun x hx => by
                  rcases hF4 x hx with h | h
                  · exact HF.out x h
                  · simp at h; omega
                have hvF : ∀ x, (Value.slice aA A.length cA).ownBlock = some x → x ∉ F4 := fun x hx hm => by
                  rcases hF4 x hm with h | h
                  · exact (HD.out x hx).1 h
                  · have := htA.block_lt hx; simp at h; omega
                have hT4' := (hT.alloc (.cells #[.int .i64 kd, .int .i64 id, .bool yes] 40)).trans hT4 (fun x hx => .inr (HF.out x hx))
                generalize hxs : s.outs ⟨kd, id, yes⟩ = outs at *
                have hap : ∀ x, (Value.slice av outs.length cv).ownBlock = some x → (Value.slice aA A.length cA).ownBlock ≠ some x := fun x hx hm => by
                  have e1 := (hvd x hx).2
                  have e2 := htA.block_lt hm
                  simp at e1
                  omega
                have HG4 := Lib.hid hg4
                have HVF := Lib.hid hvF
                have HFF := Lib.hid hFF
                have HAP := Lib.hid hap
                clear hg4 hvF hFF hap hT4 hF4 hvd hT hg htA hxs
                go_loopw [14, 22] (fun ve vj wi => ∃ j : Nat, j ≤ outs.length ∧ vj = .int .i64 j ∧ Tab TurnK wi ve (A ++ (outs.take j).map fun x => (x, (0 : Int))) ∧ NewOr w4 (.slice aA A.length cA) ve ∧ Tch ((Value.slice aA A.length cA).ownBlock.toList) w4 wi) (fun _ vj _ => outs.length - (intOf vj).toNat)
                case atStart => exact ⟨0, Nat.zero_le _, rfl, by simpa using htA4, NewOr.refl _ _, Tch.refl _ _⟩
                case round =>
                  obtain ⟨j, hj, rfl, hte, hne, hTi⟩ := hrel
                  obtain ⟨ao, co, hvo⟩ := hte.slice
                  subst hvo
                  by_cases hjl : j < outs.length
                  · obtain ⟨x, hx⟩ : ∃ x, outs[j]? = some x := ⟨_, List.getElem?_eq_getElem hjl⟩
                    have hva' := hva.touch hTi (fun g' hg' hm => HAP.out g' hg' (by simpa using hm))
                    rcases hva'.form with ⟨_, h0⟩ | ⟨gv, cap1, hv1, _⟩
                    · rw [h0] at hjl; simp at hjl
                    cases hv1
                    have q0 : wr.cell? ⟨gv, j, none⟩ = some (.int .i64 x) := by have := hva'.cell (f := 0) hx rfl; simpa [IntK] using this
                    have HL2 := Lib.hid (zeros_next (A := A) hx)
                    have hol2 := zeros_len outs A j
                    clear hx hva'
                    generalize A ++ (outs.take j).map (fun x => (x, (0 : Int))) = ys at *
                    go_wp2_with (at_builtin; refine wpList_append_tab (v := .slice ao ys.length co) turnAt rfl _ _ rfl rfl (hte.alloc _) _ _ _ [(x, 0)] rfl rfl (by exact news_one TurnK (x, 0) (Blk.last _ _ _ rfl)) (by simp [maxLen]; omega) (by simp; omega) ?_; intro v' w1 ht1 hg1 hfr1)
                    have hTs := hTi.size
                    go_roundw
                    case rel =>
                      refine ⟨j + 1, by omega, by go_num, by rw [HL2.out]; exact ht1, hne.trans (hfr1.newOr (w0 := w4) (by simp; omega)) (Nat.le_refl _), (hTi.alloc _).grown hg1 (fun k hk => ?_)⟩
                      rcases hne k hk with h | h
                      · exact .inl (by simpa using h)
                      · exact .inr h
                    case measure => simp [intOf]; omega
                  · obtain rfl : j = outs.length := by omega
                    have hTT := hT4'.trans hTi (fun x hx => .inr (HD.out x (by simpa using hx)).2)
                    have hsz4 := hT4'.size
                    go_wp2
                    go_roundw
                    case rel =>
                      refine ⟨k + 1, by omega, by go_num, F4, s.step ⟨kd, id, yes⟩, r.step ⟨kd, id, yes⟩, _, HG4.out.kept hTi (fun k hk hm => HVF.out k (by simpa using hm) hk), ?_, HL.out, hte, fun x hx => ?_, hTT, HFF.out⟩
                      · have := HWD.out
                        rw [List.take_length]
                        rwa [show (1 : Int) + (os.length : Int) + (k : Int) + 1 = 1 + (os.length : Int) + ((k + 1 : Nat) : Int) by omega] at this
                      · rcases hne x hx with h | h
                        · exact ⟨HVF.out x h, (HD.out x h).2⟩
                        · exact ⟨fun hm => by have := HG4.out.mem x hm; omega, by omega⟩
                    case measure => simp [intOf]; omega
              · go_wp2
                go_ret
                exact ⟨_, rfl, rfl, hT⟩
  · have hn : most < 1 ∨ 16 < most ∨ units < 1 ∨ 64 < units := by omega
    go_enter Try.func11, Try.ntmps11
    go_wp2_with (first
      | (go_at_call 21; refine (fits_no most units _ hn).use ?_; rintro _ w1 ⟨rfl, rfl⟩)
      | (go_at_call 16; refine (new_no most units _ hn).use ?_; rintro _ w1 ⟨rfl, hT⟩))
    go_ret
    exact ⟨_, rfl, rfl, hT⟩
end Go.Proofs.Ytdmgbfkioghkeaa
