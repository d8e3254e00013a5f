/-
  The law GateOrder holds: who enters, enters in the order of submission; no condition.
-/
import Derived.Test.YtdmgbfkioghkeaaLDo
namespace Go.Proofs.Ytdmgbfkioghkeaa
open Go.ChangeShapes Go.WideShapes Go.ChangeAt Go.RowKit Go.Ytdmgbfkioghkeaa Go.Ytdmgbfkioghkeaa.Gt Go.Ytdmgbfkioghkeaa.Reg

/-- v reads as xs, wherever it lies. -/
def Ints (w : World) (v : Value) (xs : List Int) : Prop :=
  ∃ a cap, v = .slice a xs.length cap ∧ xs.length ≤ 9223372036854775807 ∧ ∀ (i : Nat) (x : Int), xs[i]? = some x → ∃ b off, a = some ⟨b, off, none⟩ ∧ w.cell? ⟨b, off + i, none⟩ = some (.int .i64 x)

theorem Ints.kept {w w' : World} {v : Value} {xs : List Int} (h : Ints w v xs) (hT : Tch [] w w') : Ints w' v xs := by
  obtain ⟨a, cap, rfl, hl, hc⟩ := h
  refine ⟨a, cap, rfl, hl, fun i o ho => ?_⟩
  obtain ⟨b, off, rfl, h0⟩ := hc i o ho
  exact ⟨b, off, rfl, cell_kept hT h0⟩

theorem ints_tab {w : World} {v : Value} {xs : List Int} (h : Tab IntK w v xs) : Ints w v xs := by
  have hl : xs.length ≤ 9223372036854775807 := h.lenMax
  rcases h.form with ⟨rfl, rfl⟩ | ⟨g, cap, rfl, _⟩
  · exact ⟨none, 0, rfl, hl, by simp⟩
  · refine ⟨some ⟨g, 0, none⟩, cap, rfl, hl, fun i x hx => ⟨g, 0, rfl, ?_⟩⟩
    have := h.cell (f := 0) hx rfl
    rw [Nat.zero_add]; simpa [IntK] using this

set_option maxRecDepth 100000 in
theorem same_ints (va vb : Value) (xs : List Int) (w : World) (ha : Ints w va xs) (hb : Ints w vb xs) :
    Rets Try.prog 29 #[va, vb] w fun u w' => u = .bool true ∧ Tch [] w w' := by
  unfold Rets
  have ha0 := ha
  have hb0 := hb
  obtain ⟨aa, ca, rfl, hmax, _⟩ := ha0
  obtain ⟨ab, cb, rfl, _, _⟩ := hb0
  have d0 : ((xs.length : Int) != (xs.length : Int)) = false := by simp
  go_enter Try.func29, Try.ntmps29
  go_wp2
  go_loopw [5] (fun j wr => ∃ k : Nat, k ≤ xs.length ∧ j = .int .i64 k ∧ Tch [] w wr) (fun j _ => xs.length - (intOf j).toNat)
  case atStart => exact ⟨0, Nat.zero_le _, rfl, Tch.refl _ _⟩
  case round =>
    obtain ⟨k, hk, rfl, hT⟩ := hrel
    by_cases hlt : k < xs.length
    · obtain ⟨x, hx⟩ : ∃ x, xs[k]? = some x := ⟨_, List.getElem?_eq_getElem hlt⟩
      obtain ⟨_, _, e1, _, hc1⟩ := ha.kept hT
      obtain ⟨_, _, e2, _, hc2⟩ := hb.kept hT
      cases e1
      cases e2
      obtain ⟨g, o1, rfl, k0⟩ := hc1 k x hx
      obtain ⟨g2, o2, rfl, k1⟩ := hc2 k x hx
      have dx : (x != x) = false := by simp
      clear hx hc1 hc2
      go_wp2
      refine wp_region_text (by kernel_rfl) (by kernel_rfl) ?_
      go_wp2
      refine ⟨by kernel_rfl, ?_⟩
      go_wp2
      go_roundw
      case rel => exact ⟨k + 1, by omega, by go_num, hT.drew⟩
      case measure => simp [intOf]; omega
    · go_wp2
      go_ret
      exact ⟨_, rfl, rfl, hT⟩

theorem ints_drop {w : World} {g cc : Nat} {xs : List Int} (h : Tab IntK w (.slice (some ⟨g, 0, none⟩) xs.length cc) xs) {e : Nat} (_he : e ≤ xs.length) : Ints w (.slice (some ⟨g, e, none⟩) (xs.length - e) (cc - e)) (xs.drop e) := by
  have hl : xs.length ≤ 9223372036854775807 := h.lenMax
  refine ⟨some ⟨g, e, none⟩, cc - e, by rw [List.length_drop], by rw [List.length_drop]; omega, fun i x hx => ⟨g, e, rfl, ?_⟩⟩
  rw [List.getElem?_drop] at hx
  have := h.cell (f := 0) hx rfl
  simpa [IntK] using this

theorem ints_drop_if {w : World} {g cc : Nat} {xs : List Int} (h : Tab IntK w (.slice (some ⟨g, 0, none⟩) xs.length cc) xs) {e : Nat} (he : e ≤ xs.length) (hc : xs.length ≤ cc) :
    Ints w (.slice (if cc = e then some ⟨g, 0, none⟩ else some ⟨g, e, none⟩) (xs.length - e) (cc - e)) (xs.drop e) := by
  by_cases hce : cc = e
  · rw [if_pos hce, List.drop_of_length_le (by omega), show xs.length - e = 0 by omega]
    exact ⟨_, _, rfl, by simp, by simp⟩
  · rw [if_neg hce]; exact ints_drop h he

theorem GateAt.drew {w : World} {b : Nat} {F : List Nat} {s : Gate} (h : GateAt w b F s) : GateAt w.drew b F s := h.kept (Tch.refl [] _).drew (by simp)

/-- The round's head. -/
def OrderRel (w0 : World) (b : Nat) (k : Nat) (vc ve : Value) (wr : World) : Prop :=
  ∃ F s r came entered, ve = .int .i64 ((entered : Nat) : Int) ∧ GateAt wr b F s ∧ Sim s r (1 + k) ∧ Order s came entered ∧ Tab IntK wr vc came ∧ came.length ≤ k ∧
    (∀ x, vc.ownBlock = some x → x ∉ F ∧ w0.heap.size ≤ x) ∧ Tch [] w0 wr ∧ ∀ k ∈ F, w0.heap.size ≤ k

set_option maxRecDepth 100000 in
set_option maxHeartbeats 4000000 in
theorem gateOrder_any (most units : Int) (v : Value) (os : List Deed) (w : World) (hs : Script w v os) :
    Rets Try.prog 12 #[.int .i64 most, .int .i64 units, v] w fun u w' => u = .bool true ∧ Tch [] w w' := by
  unfold Rets
  by_cases h : 1 ≤ most ∧ most ≤ 16 ∧ 1 ≤ units ∧ units ≤ 64
  · obtain ⟨h1, h2, h3, h4⟩ := h
    have hs0 := hs
    obtain ⟨a, cap, rfl, hl, _⟩ := hs0
    have HB := Lib.hid (order_begun h1 h3)
    have HSB := Lib.hid (sim_begun h1 h2 h3 h4)
    go_enter Try.func12, Try.ntmps12
    go_wp2_with (first
      | (go_at_call 21; refine (fits_yes most units _ h1 h2 h3 h4).use ?_; rintro _ w1 ⟨rfl, hw1⟩; have hw2 := hw1.symm; subst hw2)
      | (go_at_call 22; refine (begun_any most units _ h1 h2 h3 h4).use ?_; rintro _ w2 hp; obtain ⟨b, F, rfl, hg, hT, hF⟩ := hp))
    have HS := Lib.hid (show OrderRel w b 0 (.slice none 0 0) (.int .i64 0) w2 from
      ⟨F, Gate.begun most units, RGate.begun most units, [], 0, rfl, hg, by simpa using HSB.out, HB.out, Tab.nil _ _, Nat.le_refl _, fun x hx => by simp [Value.ownBlock] at hx, hT, hF⟩)
    clear hg hT hF HB HSB
    go_loopw [10, 11, 12] (fun vc ve j wr => ∃ k : Nat, k ≤ os.length ∧ j = .int .i64 k ∧ OrderRel w b k vc ve wr) (fun _ _ j _ => os.length - (intOf j).toNat)
    case atStart => exact ⟨0, Nat.zero_le _, rfl, HS.out⟩
    case round =>
      obtain ⟨k, hk, rfl, F, s, r, came, entered, rfl, hg, hsim, hord, hcm, hck, hdis, hT, hF⟩ := hrel
      obtain ⟨ac, cc, hvc⟩ := hcm.slice
      subst hvc
      by_cases hlt : k < os.length
      · obtain ⟨o, ho⟩ : ∃ o, os[k]? = some o := ⟨_, List.getElem?_eq_getElem hlt⟩
        obtain ⟨a', cap', hv, _, hc⟩ := hs.kept hT
        cases hv
        obtain ⟨bs, off, ha, c0, c1, c2⟩ := hc k o ho
        subst ha
        have c1' : wr.cell? ⟨bs, off + k * 3 + 1, none⟩ = some (.int .i64 o.id) := by rw [Nat.add_assoc]; exact c1
        have c2' : wr.cell? ⟨bs, off + k * 3 + 2, none⟩ = some (.bool o.yes) := by rw [Nat.add_assoc]; exact c2
        have hfit := sim_fits hsim (by omega)
        have hin := sim_hin hsim
        have hsim' := sim_step hsim (by omega) o
        have hnF : wr.heap.size ∉ F := fun h => by have := hg.mem _ h; omega
        have hws := hT.size
        rw [show (1 : Int) + (k : Int) + 1 = 1 + ((k + 1 : Nat) : Int) by omega] at hsim'
        have HSIM := Lib.hid hsim'
        have HF := Lib.hid hF
        have HD := Lib.hid hdis
        clear ho hc hsim' hF hdis hs
        obtain ⟨kd, id, yes⟩ := o
        simp only at c0 c1 c2 c1' c2'
        by_cases h1' : kd = 1
        · subst h1'
          have eS : s.step ⟨1, id, yes⟩ = (s.submit id).2.2 := rfl
          rw [eS] at HSIM
          rcases order_submit hord id with ⟨e1, e2, e3⟩ | ⟨e1, e2, e3⟩
          · have e2' : (s.submit id).1 = (came.length : Int) + 1 + 1 := by rw [e2]; simp
            have HE1 := Lib.hid e1
            have HE2 := Lib.hid e2'
            have HE3 := Lib.hid e3
            clear e1 e2 e2' e3 eS
            go_wp2_with (first
              | (go_at_call 28; refine (submit_any b F s id _ (hg.kept ((Tch.refl [] _).alloc _) (by simp)) hfit).use ?_; rintro _ w4 ⟨rfl, hp⟩; rw [HE1.out, HE2.out]; obtain ⟨F4, hg4, hT4, hF4⟩ := hp; have hbox4 := (Blk.new wr #[.int .i64 1, .int .i64 id, .bool yes] 40).touch hT4 hnF; have k0 : w4.cell? ⟨wr.heap.size, 0, none⟩ = some (.int .i64 1) := hbox4.cell 0; have k1 : w4.cell? ⟨wr.heap.size, 1, none⟩ = some (.int .i64 id) := hbox4.cell 1; have k2 : w4.cell? ⟨wr.heap.size, 2, none⟩ = some (.bool yes) := hbox4.cell 2; have kl := hbox4.lt; have hcm4 := (hcm.alloc (.cells #[.int .i64 1, .int .i64 id, .bool yes] 40)).touch hT4 (fun g' hg' => (HD.out g' hg').1))
              | (at_builtin; refine wpList_append_tab (v := .slice ac came.length cc) intAt rfl _ _ rfl rfl (hcm4.alloc _) _ _ _ [id] rfl rfl (by exact news_one IntK id (Blk.last _ _ _ rfl)) (by simp [maxLen]; omega) (by simp; omega) ?_; intro v' w5 ht5 hg5 hfr5; obtain ⟨a5, c5, hv5⟩ := ht5.slice; rw [show (came ++ [id]).length = came.length + 1 from by simp] at hv5; subst hv5))
            have hFF : ∀ x ∈ F4, w.heap.size ≤ x := fun x hx => by
              rcases hF4 x hx with h | h
              · exact HF.out x h
              · simp at h; omega
            have hvF : ∀ x, (Value.slice ac came.length cc).ownBlock = some x → x ∉ F4 := fun x hx hm => by
              rcases hF4 x hm with h | h
              · exact (HD.out x hx).1 h
              · have := hcm.block_lt hx; simp at h; omega
            have hT4' := (hT.alloc (.cells #[.int .i64 1, .int .i64 id, .bool yes] 40)).trans hT4 (fun x hx => .inr (HF.out x hx))
            have hT5 := ((Tch.refl ((Value.slice ac came.length cc).ownBlock.toList) w4).alloc (.cells #[.int .i64 id] 3)).grown hg5 (fun x hx => .inl (by rw [hx]; simp))
            go_roundw
            case rel =>
              refine ⟨k + 1, by omega, by go_num, F4, _, _, came ++ [id], entered, rfl, hg4.kept hT5 (fun x hx hm => hvF x (by simpa using hm) hx), HSIM.out, HE3.out, ht5, by simp; omega, fun x hx => ?_, hT4'.trans hT5 (fun x hx => .inr (HD.out x (by simpa using hx)).2), hFF⟩
              rcases hfr5 x hx with h | h
              · exact ⟨hvF x h, (HD.out x h).2⟩
              · refine ⟨fun hm => ?_, ?_⟩
                · have := hg4.mem x hm; simp at h; omega
                · have := hT4'.size; simp at h; omega
            case measure => simp [intOf]; omega
          · have d1 : ((s.submit id).2.1 == 0) = false := by simpa using e1
            have HE2 := Lib.hid e2
            have HE3 := Lib.hid e3
            clear e1 e2 e3 eS
            go_wp2_with (go_at_call 28; refine (submit_any b F s id _ (hg.kept ((Tch.refl [] _).alloc _) (by simp)) hfit).use ?_; rintro _ w4 ⟨rfl, hp⟩; rw [HE2.out]; obtain ⟨F4, hg4, hT4, hF4⟩ := hp; have hbox4 := (Blk.new wr #[.int .i64 1, .int .i64 id, .bool yes] 40).touch hT4 hnF; have k0 : w4.cell? ⟨wr.heap.size, 0, none⟩ = some (.int .i64 1) := hbox4.cell 0; have k1 : w4.cell? ⟨wr.heap.size, 1, none⟩ = some (.int .i64 id) := hbox4.cell 1; have k2 : w4.cell? ⟨wr.heap.size, 2, none⟩ = some (.bool yes) := hbox4.cell 2; have kl := hbox4.lt; have hcm4 := (hcm.alloc (.cells #[.int .i64 1, .int .i64 id, .bool yes] 40)).touch hT4 (fun g' hg' => (HD.out g' hg').1))
            have hFF : ∀ x ∈ F4, w.heap.size ≤ x := fun x hx => by
              rcases hF4 x hx with h | h
              · exact HF.out x h
              · simp at h; omega
            have hvF : ∀ x, (Value.slice ac came.length cc).ownBlock = some x → x ∉ F4 := fun x hx hm => by
              rcases hF4 x hm with h | h
              · exact (HD.out x hx).1 h
              · have := hcm.block_lt hx; simp at h; omega
            have hT4' := (hT.alloc (.cells #[.int .i64 1, .int .i64 id, .bool yes] 40)).trans hT4 (fun x hx => .inr (HF.out x hx))
            go_roundw
            case rel => exact ⟨k + 1, by omega, by go_num, F4, _, _, came, entered, rfl, hg4, HSIM.out, HE3.out, hcm4, by omega, fun x hx => ⟨hvF x hx, (HD.out x hx).2⟩, hT4', hFF⟩
            case measure => simp [intOf]; omega
        have d1 : (kd == 1) = false := by simpa using h1'
        have HO := Lib.hid (step_order hord (o := ⟨kd, id, yes⟩) h1')
        clear h1'
        go_wp2_with (go_at_call 23; refine (do_any b F s ⟨kd, id, yes⟩ _ (hg.kept ((Tch.refl [] _).alloc _) (by simp)) hfit hin).use ?_; rintro va w4 hp; obtain ⟨F4, hg4, hT4, hF4, hva, hvd⟩ := hp; obtain ⟨av, cv, hvv⟩ := hva.slice; subst hvv; have hbox4 := (Blk.new wr #[.int .i64 kd, .int .i64 id, .bool yes] 40).touch hT4 hnF; have k0 : w4.cell? ⟨wr.heap.size, 0, none⟩ = some (.int .i64 kd) := hbox4.cell 0; have k1 : w4.cell? ⟨wr.heap.size, 1, none⟩ = some (.int .i64 id) := hbox4.cell 1; have k2 : w4.cell? ⟨wr.heap.size, 2, none⟩ = some (.bool yes) := hbox4.cell 2; have kl := hbox4.lt; have hcm4 := (hcm.alloc (.cells #[.int .i64 kd, .int .i64 id, .bool yes] 40)).touch hT4 (fun g' hg' => (HD.out g' hg').1))
        have hFF : ∀ x ∈ F4, w.heap.size ≤ x := fun x hx => by
          rcases hF4 x hx with h | h
          · exact HF.out x h
          · simp at h; omega
        have hvF : ∀ x, (Value.slice ac came.length cc).ownBlock = some x → x ∉ F4 := fun x hx hm => by
          rcases hF4 x hm with h | h
          · exact (HD.out x hx).1 h
          · have := hcm.block_lt hx; simp at h; omega
        have hT4' := (hT.alloc (.cells #[.int .i64 kd, .int .i64 id, .bool yes] 40)).trans hT4 (fun x hx => .inr (HF.out x hx))
        have hlen : entered + (s.outs ⟨kd, id, yes⟩).length ≤ came.length := HO.out.2.le
        have houts : ∀ (j : Nat) (x : Int), (s.outs ⟨kd, id, yes⟩)[j]? = some x → came[entered + j]? = some x := fun j x hx => by
          rw [← List.getElem?_drop, HO.out.1, List.getElem?_append_left (List.getElem?_eq_some_iff.1 hx).1]
          exact hx
        have HOU := Lib.hid houts
        have HG4 := Lib.hid hg4
        have HVF := Lib.hid hvF
        have HFF := Lib.hid hFF
        clear houts hg4 hvF hFF hT4 hF4 hvd k0 k1 k2 kl hbox4
        generalize hxs : s.outs ⟨kd, id, yes⟩ = outs at *
        have HXS := Lib.hid hxs
        clear hxs
        have hcl : came.length ≤ 10000000000000 := by omega
        go_loopw [11, 17] (fun ve vj wi => ∃ j : Nat, j ≤ outs.length ∧ vj = .int .i64 j ∧ ve = .int .i64 ((entered + j : Nat) : Int) ∧ Tch [] w4 wi) (fun _ vj _ => outs.length - (intOf vj).toNat)
        case atStart => exact ⟨0, Nat.zero_le _, rfl, rfl, Tch.refl _ _⟩
        case round =>
          obtain ⟨j, hj, rfl, rfl, hTi⟩ := hrel
          by_cases hjl : j < outs.length
          · obtain ⟨x, hx⟩ : ∃ x, outs[j]? = some x := ⟨_, List.getElem?_eq_getElem hjl⟩
            have hcx := HOU.out j x hx
            have hva' := hva.touch hTi (by simp)
            have hcm' := hcm4.touch hTi (by simp)
            have hml : entered + j < came.length := by omega
            generalize hm : entered + j = m at *
            have HM := Lib.hid hm
            clear hm
            rcases hva'.form with ⟨_, h0⟩ | ⟨gv, cap1, hv1, _⟩
            · rw [h0] at hjl; simp at hjl
            rcases hcm'.form with ⟨_, h0⟩ | ⟨gc, cap2, hv2, _⟩
            · rw [h0] at hml; simp at hml
            cases hv1
            cases hv2
            have q0 : wr.cell? ⟨gv, j, none⟩ = some (.int .i64 x) := by have := hva'.cell (f := 0) hx rfl; simpa [IntK] using this
            have q1 : wr.cell? ⟨gc, m, none⟩ = some (.int .i64 x) := by have := hcm'.cell (f := 0) hcx rfl; simpa [IntK] using this
            have dx : (x != x) = false := by simp
            have dm : decide ((came.length : Int) ≤ (m : Int)) = false := decide_eq_false (by omega)
            clear hx hcx
            go_wp2
            refine wp_region_text (by kernel_rfl) (by kernel_rfl) ?_
            go_wp2
            refine ⟨by kernel_rfl, ?_⟩
            go_wp2
            go_roundw
            case rel => exact ⟨j + 1, by omega, by go_num, by have := HM.out; congr 1; omega, hTi.drew⟩
            case measure => simp [intOf]; omega
          · obtain rfl : j = outs.length := by omega
            go_wp2
            go_roundw
            case rel => exact ⟨k + 1, by omega, by go_num, F4, _, _, came, entered + outs.length, rfl, HG4.out.kept hTi (by simp), HSIM.out, HO.out.2, hcm4.touch hTi (by simp), by omega, fun x hx => ⟨HVF.out x hx, (HD.out x hx).2⟩, hT4'.trans hTi (by simp), HFF.out⟩
            case measure => simp [intOf]; omega
      · have hle := hord.le
        have hfit := sim_fits hsim (by omega)
        have HQ := Lib.hid hord.queue
        have HD := Lib.hid hdis
        have HF := Lib.hid hF
        clear hdis hF
        have hcl := hcm.lenMax
        rcases hcm.form with ⟨hv, h0⟩ | ⟨g, cap', hv, hcap, hcap2, _⟩
        · subst h0
          obtain ⟨rfl, rfl⟩ : ac = none ∧ cc = 0 := by simpa using hv
          obtain rfl : entered = 0 := by simpa using hle
          have hq0 : s.queue.map (·.id) = [] := by rw [← HQ.out]; rfl
          have HQ0 := Lib.hid hq0
          clear hq0
          have hfld : ∀ (x0 x1 x2 x3 x4 : Value) (w : World), (Instr.field 33 (.agg #[x0, x1, x2, x3, x4]) 1).run Try.prog w = .ok x1 w := fun _ _ _ _ _ _ => by kernel_rfl
          go_wp2
          refine wp_region_text (by kernel_rfl) (by kernel_rfl) ?_
          go_wp2_with (first
            | (go_at_call 19; refine (stat_any b F _ _ hg.drew hfit).use ?_; rintro _ w5 hS; obtain ⟨vI, vQ, rfl, hg5, hT5, hI5, hQ5, _⟩ := hS; obtain ⟨aI, cI, hvI⟩ := hI5.slice; subst hvI; obtain ⟨aQ, cQ, hvQ⟩ := hQ5.slice; subst hvQ; rw [List.length_map] at hQ5; unfold statCells)
            | (go_at_call 29; refine (same_ints _ _ (s.queue.map (·.id)) _ (ints_tab hQ5) (by rw [HQ0.out]; exact ints_tab (Tab.nil _ _))).use ?_; rintro _ w6 ⟨rfl, hT6⟩))
          refine ⟨by kernel_rfl, ?_⟩
          go_wp2
          go_ret
          exact ⟨_, rfl, rfl, (hT.drew.trans hT5 (fun x hx => .inr (HF.out x hx))).trans hT6 (by simp)⟩
        · cases hv
          have hfld : ∀ (x0 x1 x2 x3 x4 : Value) (w : World), (Instr.field 33 (.agg #[x0, x1, x2, x3, x4]) 1).run Try.prog w = .ok x1 w := fun _ _ _ _ _ _ => by kernel_rfl
          go_wp2
          refine wp_region_text (by kernel_rfl) (by kernel_rfl) ?_
          go_wp2_with (first
            | (go_at_call 19; refine (stat_any b F _ _ hg.drew hfit).use ?_; rintro _ w5 hS; obtain ⟨vI, vQ, rfl, hg5, hT5, hI5, hQ5, _⟩ := hS; obtain ⟨aI, cI, hvI⟩ := hI5.slice; subst hvI; obtain ⟨aQ, cQ, hvQ⟩ := hQ5.slice; subst hvQ; rw [List.length_map] at hQ5; unfold statCells; have hcm5 := hcm.drew.touch hT5 (fun g' hg' => (HD.out g' hg').1))
            | (go_at_call 29; refine (same_ints _ _ (s.queue.map (·.id)) _ (ints_tab hQ5) (by rw [← HQ.out]; exact ints_drop_if hcm5 hle hcap)).use ?_; rintro _ w6 ⟨rfl, hT6⟩))
          all_goals (refine ⟨by kernel_rfl, ?_⟩)
          all_goals go_wp2
          all_goals go_ret
          all_goals exact ⟨_, rfl, rfl, (hT.drew.trans hT5 (fun x hx => .inr (HF.out x hx))).trans hT6 (by simp)⟩
  · have hn : most < 1 ∨ 16 < most ∨ units < 1 ∨ 64 < units := by omega
    go_enter Try.func12, Try.ntmps12
    go_wp2_with (first
      | (go_at_call 21; refine (fits_no most units _ hn).use ?_; rintro _ w1 ⟨rfl, rfl⟩)
      | (go_at_call 16; refine (new_no most units _ hn).use ?_; rintro _ w1 ⟨rfl, hT⟩))
    go_ret
    exact ⟨_, rfl, rfl, hT⟩
end Go.Proofs.Ytdmgbfkioghkeaa
