/-
  The law GateOwn, walked: what is handed out is the caller's; scripts of at most 1048576 calls.
-/
import Derived.Test.YtdmgbfkioghkeaaLOwnAt
import Derived.Test.YtdmgbfkioghkeaaLRoom
namespace Go.Proofs.Ytdmgbfkioghkeaa
open Go.ChangeShapes Go.WideShapes Go.ChangeAt Go.RowKit Go.Ytdmgbfkioghkeaa Go.Ytdmgbfkioghkeaa.Gt Go.Ytdmgbfkioghkeaa.Reg

theorem OwnAt.upto {w0 w : World} {b br : Nat} {F Fr : List Nat} {s : Gate} {r : RGate} {vb : Value} {n n' : Nat} {P : List (Value × List Int)} {X : List (Nat × Array Value)}
    (h : OwnAt w0 w b br F Fr s r vb n P X) (hn : n ≤ n') : OwnAt w0 w b br F Fr s r vb n' P X := by
  obtain ⟨K, B, k1, k2, k3⟩ := h.book
  exact ⟨h.gate, h.ref, h.apart, h.newF, h.newFr, h.tch, h.lists, h.boxes, h.nodup, h.away, K, B, k1, by omega, k3⟩

theorem own_box {w0 w : World} {b br : Nat} {F Fr : List Nat} {s : Gate} {r : RGate} {vb : Value} {n : Nat} {P : List (Value × List Int)} {X : List (Nat × Array Value)} {i : Nat} {c0 c1 c2 c3 c4 : Value}
    (h : OwnAt w0 w b br F Fr s r vb n P X) (hq : (i, #[c0, c1, c2, c3, c4]) ∈ X) :
    w.cell? ⟨i, 0, none⟩ = some c0 ∧ w.cell? ⟨i, 1, none⟩ = some c1 ∧ w.cell? ⟨i, 2, none⟩ = some c2 ∧ w.cell? ⟨i, 3, none⟩ = some c3 ∧ w.cell? ⟨i, 4, none⟩ = some c4 ∧ i < w.heap.size := by
  have hb := h.boxes _ hq
  exact ⟨hb.cell 0, hb.cell 1, hb.cell 2, hb.cell 3, hb.cell 4, hb.lt⟩

/-- The round's head. -/
def OwnRel (w0 : World) (b br : Nat) (k : Nat) (vb vm : Value) (wr : World) : Prop :=
  ∃ F Fr s r, vm = .int .i64 (-3 - 10 * (k : Int)) ∧ Sim s r (k : Int) ∧ OwnAt w0 wr b br F Fr s r vb (10 * k) [] []

theorem sim_lens {s : Gate} {r : RGate} {n : Int} (h : Sim s r n) : s.inside.length ≤ 100 ∧ (s.queue.map (·.id)).length ≤ 100 := by
  have h1 := h.live
  have h3 : s.inside.length = r.inside.length := by rw [h.inside, List.length_map]
  have h4 : s.queue.length = r.queue.length := by rw [h.queue]
  rw [List.length_map]
  omega

set_option maxRecDepth 100000 in
set_option maxHeartbeats 8000000 in
theorem gateOwn_any (most units : Int) (v : Value) (os : List Deed) (w : World) (hs : Script w v os) (hol : os.length ≤ 1048576) :
    Rets Try.prog 14 #[.int .i64 most, .int .i64 units, v] w fun u w' => u = .bool true ∧ Tch [] w w' := by
  unfold Rets
  by_cases h : 1 ≤ most ∧ most ≤ 16 ∧ 1 ≤ units ∧ units ≤ 64
  · obtain ⟨h1, h2, h3, h4⟩ := h
    have hs0 := hs
    obtain ⟨a, cap, rfl, hl, _⟩ := hs0
    have HN := Lib.hid (sim_new h1 h2 h3 h4)
    go_enter Try.func14, Try.ntmps14
    go_wp2_with (first
      | (go_at_call 16; refine (new_yes most units _ h1 h2 h3 h4).use ?_; rintro _ w1 hN; obtain ⟨b, F, rfl, hg, hT, hF⟩ := hN)
      | (go_at_call 17; refine (rnew_yes most units _ h1 h2 h3 h4).use ?_; rintro _ w2 hN2; obtain ⟨br, Fr, rfl, hr, hT2, hFr⟩ := hN2))
    have HS := Lib.hid (show OwnRel w b br 0 (.slice none 0 0) (.int .i64 (-3)) w2 from
      ⟨F, Fr, Gate.new most units, RGate.new most units, rfl, HN.out, hg.kept hT2 (by simp), hr, fun k hk h2 => by have := hg.mem k hk; have := hFr k h2; omega, hF, fun k hk => by have := hFr k hk; have := hT.size; omega,
        hT.trans hT2 (by simp), by simp, by simp, by simp [blocksOf], by simp [blocksOf], [], [], Tab.nil _ _, by simp, by simp, by simp, by simp [Value.ownBlock]⟩)
    clear hg hT hF hr hT2 hFr HN
    go_loopw [11, 12, 13] (fun vb vm vj wr => ∃ k : Nat, k ≤ os.length ∧ vj = .int .i64 k ∧ OwnRel w b br k vb vm wr) (fun _ _ vj _ => os.length - (intOf vj).toNat)
    case atStart => exact ⟨0, Nat.zero_le _, rfl, HS.out⟩
    case round =>
      obtain ⟨k, hk, rfl, F, Fr, s, r, rfl, hsim, ho⟩ := hrel
      by_cases hlt : k < os.length
      · obtain ⟨o, hoo⟩ : ∃ o, os[k]? = some o := ⟨_, List.getElem?_eq_getElem hlt⟩
        obtain ⟨a', cap', hv, _, hc⟩ := hs.kept ho.tch
        cases hv
        obtain ⟨bs, off, ha, c0, c1, c2⟩ := hc k o hoo
        subst ha
        have c1' : wr.cell? ⟨bs, off + k * 3 + 1, none⟩ = some (.int .i64 o.id) := by rw [Nat.add_assoc]; exact c1
        have c2' : wr.cell? ⟨bs, off + k * 3 + 2, none⟩ = some (.bool o.yes) := by rw [Nat.add_assoc]; exact c2
        have hsimB := sim_step hsim (by omega) o
        obtain ⟨hilA, hqlA⟩ := sim_lens hsimB
        have hfA := sim_fits hsimB (by omega)
        rw [show (k : Int) + 1 = ((k + 1 : Nat) : Int) by omega] at hsimB
        have HSA := Lib.hid hsimB
        have HSB := Lib.hid hsimB
        have HS0 := Lib.hid hsim
        have hfit := sim_fits hsim (by omega)
        have hrfit := sim_rfits hsim (by omega)
        clear hoo hc hs hsim hsimB
        obtain ⟨kd, id, yes⟩ := o
        simp only at c0 c1 c2 c1' c2'
        by_cases h2' : kd = 2
        · subst h2'
          have eS : s.step ⟨2, id, yes⟩ = (s.admit []).2 := rfl
          have eR : r.step ⟨2, id, yes⟩ = (r.admit []).2 := rfl
          have HE := Lib.hid (sim_admit _ [] rfl HS0.out).1
          have hout : (s.admit []).1.length ≤ 100 := by
            obtain ⟨more, e1, e2⟩ := (admits s []).inside
            rw [eS, e1] at hilA
            rw [e2]
            simp at hilA ⊢
            omega
          rw [eS] at hilA hqlA hfA HSA HSB
          rw [eR] at HSA HSB
          obtain ⟨sA, hsA⟩ : ∃ sA, sA = (s.admit []).2 := ⟨_, rfl⟩
          have HSAE := Lib.hid hsA
          rw [← hsA] at hilA hqlA hfA HSA HSB
          clear eS eR hsA
          go_wp2_with (first
            | (go_at_call 32; refine (own_keep _ hoK4 (by omega) hqlA (by omega) (by omega)).use ?_; rintro vbE wE hoE)
            | (go_at_call 32; refine (own_keep _ hoK3 (by omega) hilA (by omega) (by omega)).use ?_; rintro vb4 wK4 hoK4; obtain ⟨p0, p1, p2, p3, p4, pl⟩ := own_box hoK4 (List.mem_cons_self ..))
            | (go_at_call 32; refine (own_keep _ hoK2 (by omega) hqlA (by omega) (by omega)).use ?_; rintro vb3 wK3 hoK3; obtain ⟨p0, p1, p2, p3, p4, pl⟩ := own_box hoK3 (List.mem_cons_self ..))
            | (go_at_call 32; refine (own_keep _ hoK1 (by omega) hilA (by omega) (by omega)).use ?_; rintro vb2 wK2 hoK2; obtain ⟨p0, p1, p2, p3, p4, pl⟩ := own_box hoK2 (List.mem_cons_self ..); obtain ⟨q0, q1, q2, q3, q4, ql⟩ := own_box hoK2 (List.mem_cons_of_mem _ (List.mem_cons_self ..)))
            | (go_at_call 18; refine (own_stat_true (vI := .slice aI2 sA.inside.length cI2) (vQ := .slice aQ2 sA.queue.length cQ2) hoT HSA.out (by omega) (by simp) (by simp)).use ?_; rintro _ wT2 ⟨rfl, hoT2⟩; have hoK1 := hoT2.perm (List.perm_append_comm (l₁ := [_, _]) (l₂ := [_, _])); simp only [List.cons_append, List.nil_append] at hoK1; obtain ⟨p0, p1, p2, p3, p4, pl⟩ := own_box hoK1 (List.mem_cons_self ..); obtain ⟨q0, q1, q2, q3, q4, ql⟩ := own_box hoK1 (List.mem_cons_of_mem _ (List.mem_cons_self ..)))
            | (go_at_call 18; refine (own_stat_true (vI := .slice aI sA.inside.length cI) (vQ := .slice aQ sA.queue.length cQ) (hoS2.boxed _) HSA.out (by omega) (by simp) (by simp)).use ?_; rintro _ wT ⟨rfl, hoT⟩; obtain ⟨p0, p1, p2, p3, p4, pl⟩ := own_box hoT (List.mem_cons_self ..); obtain ⟨q0, q1, q2, q3, q4, ql⟩ := own_box hoT (List.mem_cons_of_mem _ (List.mem_cons_self ..)))
            | (go_at_call 19; refine (own_stat (hoS1.boxed _) hfA).use ?_; rintro _ wS2 ⟨vI2, vQ2, rfl, hoS2⟩; obtain ⟨aI2, cI2, hvI2⟩ := (hoS2.lists _ (List.mem_cons_self ..)).slice; obtain ⟨aQ2, cQ2, hvQ2⟩ := (hoS2.lists _ (List.mem_cons_of_mem _ (List.mem_cons_self ..))).slice; simp only [List.length_map] at hvI2 hvQ2; subst hvI2; subst hvQ2; unfold statCells; obtain ⟨q0, q1, q2, q3, q4, ql⟩ := own_box hoS2 (List.mem_cons_self ..))
            | (go_at_call 19; refine (own_stat hoA hfA).use ?_; rintro _ wS1 ⟨vI, vQ, rfl, hoS1⟩; obtain ⟨aI, cI, hvI⟩ := (hoS1.lists _ (List.mem_cons_self ..)).slice; obtain ⟨aQ, cQ, hvQ⟩ := (hoS1.lists _ (List.mem_cons_of_mem _ (List.mem_cons_self ..))).slice; simp only [List.length_map] at hvI hvQ; subst hvI; subst hvQ; unfold statCells)
            | (go_at_call 32; refine (own_keep _ ho6 (by omega) hout (by omega) (by omega)).use ?_; rintro vbA wA hoA0; have hoA := hoA0; rw [← HSAE.out] at hoA)
            | (go_at_call 29; refine (same_true va vr _ _ (ho5.lists _ (List.mem_cons_self ..)) (by rw [HE.out]; exact hvr)).use ?_; rintro _ w6 ⟨rfl, hT6⟩; have ho6 := ho5.calm hT6)
            | (go_at_call 31; refine (own_radmit ho4 hrfit).use ?_; rintro vr w5 ⟨hvr, Fr5, ho5⟩)
            | (go_at_call 30; refine (own_admit ho hfit).use ?_; rintro va w4 ⟨F4, ho4⟩))
          have hoF := (hoE.drop (List.Sublist.refl _) (List.nil_sublist _)).upto (n' := 10 * (k + 1)) (by omega)
          have HOF := Lib.hid hoF
          obtain ⟨K, B, k1, k2, k3, k4, k5⟩ := hoF.book
          obtain ⟨ab, cb, hvb⟩ := k1.slice
          subst hvb
          have HK3 := Lib.hid k3
          clear hoF hoE k3 k4 k5
          go_loopw [17] (fun vj wi => ∃ j : Nat, j ≤ K.length ∧ vj = .int .i64 j ∧ Tch [] wE wi) (fun vj _ => K.length - (intOf vj).toNat)
          case atStart => exact ⟨0, Nat.zero_le _, rfl, Tch.refl _ _⟩
          case round =>
            obtain ⟨j, hj, rfl, hTi⟩ := hrel
            have HREL := Lib.hid (show OwnRel w b br (k + 1) (.slice ab K.length cb) (.int .i64 (-3 - 10 * (k : Int) - 10)) wr from
              ⟨_, _, _, _, by congr 1; omega, HSB.out, HOF.out.calm hTi⟩)
            by_cases hjl : j < K.length
            · by_cases h60 : k < 60
              · have d60 : decide ((k : Int) < 60) = true := by simp; omega
                obtain ⟨e, he⟩ : ∃ e, K[j]? = some e := ⟨_, List.getElem?_eq_getElem hjl⟩
                obtain ⟨ys, hl1, hl2⟩ := HK3.out e (List.mem_of_getElem? he)
                have k1' := k1.touch hTi (by simp)
                have hl1' := hl1.1.touch hTi (by simp)
                have hl2' := hl2.1.touch hTi (by simp)
                rcases k1'.form with ⟨_, h0⟩ | ⟨g, cap', hv, _⟩
                · rw [h0] at hjl; simp at hjl
                cases hv
                have q0 : wr.cell? ⟨g, j * 2, none⟩ = some e.1.val := k1'.cell (f := 0) he rfl
                have q1 : wr.cell? ⟨g, j * 2 + 1, none⟩ = some e.2.val := k1'.cell (f := 1) he rfl
                clear he
                go_wp2
                refine wp_region_text (by kernel_rfl) (by kernel_rfl) ?_
                go_wp2_with (go_at_call 29; refine (same_true _ _ ys _ hl1'.drew hl2'.drew).use ?_; rintro _ w6 ⟨rfl, hT6⟩)
                refine ⟨by kernel_rfl, ?_⟩
                go_wp2
                go_roundw
                case rel => exact ⟨j + 1, by omega, by go_num, hTi.drew.trans hT6 (by simp)⟩
                case measure => simp [intOf]; omega
              · have d60 : decide ((k : Int) < 60) = false := by simp; omega
                go_wp2
                go_roundw
                case rel => exact ⟨k + 1, by omega, by go_num, HREL.out⟩
                case measure => simp [intOf]; omega
            · obtain rfl : j = K.length := by omega
              go_wp2
              go_roundw
              case rel => exact ⟨k + 1, by omega, by go_num, HREL.out⟩
              case measure => simp [intOf]; omega
        · have d2 : (kd == 2) = false := by simpa using h2'
          obtain ⟨sA, hsA⟩ : ∃ sA, sA = s.step ⟨kd, id, yes⟩ := ⟨_, rfl⟩
          have HSAE := Lib.hid hsA
          rw [← hsA] at hilA hqlA hfA HSA HSB
          clear hsA h2'
          go_wp2_with (first
            | (go_at_call 32; refine (own_keep _ hoK4 (by omega) hqlA (by omega) (by omega)).use ?_; rintro vbE wE hoE)
            | (go_at_call 32; refine (own_keep _ hoK3 (by omega) hilA (by omega) (by omega)).use ?_; rintro vb4 wK4 hoK4; obtain ⟨p0, p1, p2, p3, p4, pl⟩ := own_box hoK4 (List.mem_cons_self ..))
            | (go_at_call 32; refine (own_keep _ hoK2 (by omega) hqlA (by omega) (by omega)).use ?_; rintro vb3 wK3 hoK3; obtain ⟨p0, p1, p2, p3, p4, pl⟩ := own_box hoK3 (List.mem_cons_self ..))
            | (go_at_call 32; refine (own_keep _ hoK1 (by omega) hilA (by omega) (by omega)).use ?_; rintro vb2 wK2 hoK2; obtain ⟨p0, p1, p2, p3, p4, pl⟩ := own_box hoK2 (List.mem_cons_self ..); obtain ⟨q0, q1, q2, q3, q4, ql⟩ := own_box hoK2 (List.mem_cons_of_mem _ (List.mem_cons_self ..)))
            | (go_at_call 18; refine (own_stat_true (vI := .slice aI2 sA.inside.length cI2) (vQ := .slice aQ2 sA.queue.length cQ2) hoT HSA.out (by omega) (by simp) (by simp)).use ?_; rintro _ wT2 ⟨rfl, hoT2⟩; have hoK1 := hoT2.perm (List.perm_append_comm (l₁ := [_, _]) (l₂ := [_, _])); simp only [List.cons_append, List.nil_append] at hoK1; obtain ⟨p0, p1, p2, p3, p4, pl⟩ := own_box hoK1 (List.mem_cons_self ..); obtain ⟨q0, q1, q2, q3, q4, ql⟩ := own_box hoK1 (List.mem_cons_of_mem _ (List.mem_cons_self ..)))
            | (go_at_call 18; refine (own_stat_true (vI := .slice aI sA.inside.length cI) (vQ := .slice aQ sA.queue.length cQ) (hoS2.boxed _) HSA.out (by omega) (by simp) (by simp)).use ?_; rintro _ wT ⟨rfl, hoT⟩; obtain ⟨p0, p1, p2, p3, p4, pl⟩ := own_box hoT (List.mem_cons_self ..); obtain ⟨q0, q1, q2, q3, q4, ql⟩ := own_box hoT (List.mem_cons_of_mem _ (List.mem_cons_self ..)))
            | (go_at_call 19; refine (own_stat (hoS1.boxed _) hfA).use ?_; rintro _ wS2 ⟨vI2, vQ2, rfl, hoS2⟩; obtain ⟨aI2, cI2, hvI2⟩ := (hoS2.lists _ (List.mem_cons_self ..)).slice; obtain ⟨aQ2, cQ2, hvQ2⟩ := (hoS2.lists _ (List.mem_cons_of_mem _ (List.mem_cons_self ..))).slice; simp only [List.length_map] at hvI2 hvQ2; subst hvI2; subst hvQ2; unfold statCells; obtain ⟨q0, q1, q2, q3, q4, ql⟩ := own_box hoS2 (List.mem_cons_self ..))
            | (go_at_call 19; refine (own_stat hoA hfA).use ?_; rintro _ wS1 ⟨vI, vQ, rfl, hoS1⟩; obtain ⟨aI, cI, hvI⟩ := (hoS1.lists _ (List.mem_cons_self ..)).slice; obtain ⟨aQ, cQ, hvQ⟩ := (hoS1.lists _ (List.mem_cons_of_mem _ (List.mem_cons_self ..))).slice; simp only [List.length_map] at hvI hvQ; subst hvI; subst hvQ; unfold statCells)
            | (go_at_call 33; refine (own_plays ⟨kd, id, yes⟩ ho HS0.out (by omega)).use ?_; rintro _ wA ⟨rfl, FA, FrA, hoA0⟩; have hoA := hoA0; rw [← HSAE.out] at hoA))
          have hoF := (hoE.drop (List.Sublist.refl _) (List.nil_sublist _)).upto (n' := 10 * (k + 1)) (by omega)
          have HOF := Lib.hid hoF
          obtain ⟨K, B, k1, k2, k3, k4, k5⟩ := hoF.book
          obtain ⟨ab, cb, hvb⟩ := k1.slice
          subst hvb
          have HK3 := Lib.hid k3
          clear hoF hoE k3 k4 k5
          go_loopw [17] (fun vj wi => ∃ j : Nat, j ≤ K.length ∧ vj = .int .i64 j ∧ Tch [] wE wi) (fun vj _ => K.length - (intOf vj).toNat)
          case atStart => exact ⟨0, Nat.zero_le _, rfl, Tch.refl _ _⟩
          case round =>
            obtain ⟨j, hj, rfl, hTi⟩ := hrel
            have HREL := Lib.hid (show OwnRel w b br (k + 1) (.slice ab K.length cb) (.int .i64 (-3 - 10 * (k : Int) - 10)) wr from
              ⟨_, _, _, _, by congr 1; omega, HSB.out, HOF.out.calm hTi⟩)
            by_cases hjl : j < K.length
            · by_cases h60 : k < 60
              · have d60 : decide ((k : Int) < 60) = true := by simp; omega
                obtain ⟨e, he⟩ : ∃ e, K[j]? = some e := ⟨_, List.getElem?_eq_getElem hjl⟩
                obtain ⟨ys, hl1, hl2⟩ := HK3.out e (List.mem_of_getElem? he)
                have k1' := k1.touch hTi (by simp)
                have hl1' := hl1.1.touch hTi (by simp)
                have hl2' := hl2.1.touch hTi (by simp)
                rcases k1'.form with ⟨_, h0⟩ | ⟨g, cap', hv, _⟩
                · rw [h0] at hjl; simp at hjl
                cases hv
                have q0 : wr.cell? ⟨g, j * 2, none⟩ = some e.1.val := k1'.cell (f := 0) he rfl
                have q1 : wr.cell? ⟨g, j * 2 + 1, none⟩ = some e.2.val := k1'.cell (f := 1) he rfl
                clear he
                go_wp2
                refine wp_region_text (by kernel_rfl) (by kernel_rfl) ?_
                go_wp2_with (go_at_call 29; refine (same_true _ _ ys _ hl1'.drew hl2'.drew).use ?_; rintro _ w6 ⟨rfl, hT6⟩)
                refine ⟨by kernel_rfl, ?_⟩
                go_wp2
                go_roundw
                case rel => exact ⟨j + 1, by omega, by go_num, hTi.drew.trans hT6 (by simp)⟩
                case measure => simp [intOf]; omega
              · have d60 : decide ((k : Int) < 60) = false := by simp; omega
                go_wp2
                go_roundw
                case rel => exact ⟨k + 1, by omega, by go_num, HREL.out⟩
                case measure => simp [intOf]; omega
            · obtain rfl : j = K.length := by omega
              go_wp2
              go_roundw
              case rel => exact ⟨k + 1, by omega, by go_num, HREL.out⟩
              case measure => simp [intOf]; omega
      · have HSE := Lib.hid hsim
        have hfit := sim_fits hsim (by omega)
        obtain ⟨K, B, k1, k2, k3, k4, k5⟩ := ho.book
        obtain ⟨ab, cb, hvb⟩ := k1.slice
        subst hvb
        have HK3 := Lib.hid k3
        have HO := Lib.hid ho
        clear k3 k4 k5 hsim ho hs
        generalize wr = wE at *
        go_wp2
        go_loopw [18] (fun vj wi => ∃ j : Nat, j ≤ K.length ∧ vj = .int .i64 j ∧ Tch [] wE wi) (fun vj _ => K.length - (intOf vj).toNat)
        case atStart => exact ⟨0, Nat.zero_le _, rfl, Tch.refl _ _⟩
        case round =>
          obtain ⟨j, hj, rfl, hTi⟩ := hrel
          by_cases hjl : j < K.length
          · obtain ⟨e, he⟩ : ∃ e, K[j]? = some e := ⟨_, List.getElem?_eq_getElem hjl⟩
            obtain ⟨ys, hl1, hl2⟩ := HK3.out e (List.mem_of_getElem? he)
            have k1' := k1.touch hTi (by simp)
            have hl1' := hl1.1.touch hTi (by simp)
            have hl2' := hl2.1.touch hTi (by simp)
            rcases k1'.form with ⟨_, h0⟩ | ⟨g, cap', hv, _⟩
            · rw [h0] at hjl; simp at hjl
            cases hv
            have q0 : wr.cell? ⟨g, j * 2, none⟩ = some e.1.val := k1'.cell (f := 0) he rfl
            have q1 : wr.cell? ⟨g, j * 2 + 1, none⟩ = some e.2.val := k1'.cell (f := 1) he rfl
            clear he
            go_wp2
            refine wp_region_text (by kernel_rfl) (by kernel_rfl) ?_
            go_wp2_with (go_at_call 29; refine (same_true _ _ ys _ hl1'.drew hl2'.drew).use ?_; rintro _ w6 ⟨rfl, hT6⟩)
            refine ⟨by kernel_rfl, ?_⟩
            go_wp2
            go_roundw
            case rel => exact ⟨j + 1, by omega, by go_num, hTi.drew.trans hT6 (by simp)⟩
            case measure => simp [intOf]; omega
          · have hoE := HO.out.calm hTi
            go_wp2_with (first
              | (go_at_call 19; refine (own_stat hoE hfit).use ?_; rintro _ w5 ⟨vI, vQ, rfl, ho5⟩)
              | (go_at_call 18; refine (own_stat_true ho5 HSE.out (by omega) (by simp) (by simp)).use ?_; rintro _ w6 ⟨rfl, ho6⟩))
            go_ret
            exact ⟨_, rfl, rfl, ho6.tch⟩
  · have hn : most < 1 ∨ 16 < most ∨ units < 1 ∨ 64 < units := by omega
    go_enter Try.func14, Try.ntmps14
    go_wp2_with (first
      | (go_at_call 16; refine (new_no most units _ hn).use ?_; rintro _ w1 ⟨rfl, hT⟩)
      | (go_at_call 17; refine (rnew_no most units _ hn).use ?_; rintro _ w2 ⟨rfl, hT2⟩))
    go_ret
    exact ⟨_, rfl, rfl, hT.trans hT2 (by simp)⟩
end Go.Proofs.Ytdmgbfkioghkeaa
