/-
  The law's fits, do and begun, walked.
-/
import Derived.Test.YtdmgbfkioghkeaaPFair
import Derived.Test.YtdmgbfkioghkeaaLWalk
namespace Go.Proofs.Ytdmgbfkioghkeaa
open Go.RowKit Go.Ytdmgbfkioghkeaa Go.Ytdmgbfkioghkeaa.Gt Go.Ytdmgbfkioghkeaa.Reg

theorem fits_yes (most units : Int) (w : World) (h1 : 1 ≤ most) (h2 : most ≤ 16) (h3 : 1 ≤ units) (h4 : units ≤ 64) : Rets Try.prog 21 #[.int .i64 most, .int .i64 units] w fun u w' => u = .bool true ∧ w' = w := by
  unfold Rets
  have d1 : decide (1 ≤ most) = true := by simpa using h1
  have d2 : decide (most ≤ 16) = true := by simpa using h2
  have d3 : decide (1 ≤ units) = true := by simpa using h3
  have d4 : decide (units ≤ 64) = true := by simpa using h4
  go_enter Try.func21, Try.ntmps21
  go_wp2
  go_ret
  exact ⟨_, rfl, rfl, rfl⟩
theorem fits_no (most units : Int) (w : World) (h : most < 1 ∨ 16 < most ∨ units < 1 ∨ 64 < units) : Rets Try.prog 21 #[.int .i64 most, .int .i64 units] w fun u w' => u = .bool false ∧ w' = w := by
  unfold Rets
  by_cases h1 : most < 1
  · have d1 : decide (1 ≤ most) = false := by simp; omega
    go_enter Try.func21, Try.ntmps21
    go_wp2
    go_ret
    exact ⟨_, rfl, rfl, rfl⟩
  have d1 : decide (1 ≤ most) = true := by simp; omega
  by_cases h2 : 16 < most
  · have d2 : decide (most ≤ 16) = false := by simp; omega
    go_enter Try.func21, Try.ntmps21
    go_wp2
    go_ret
    exact ⟨_, rfl, rfl, rfl⟩
  have d2 : decide (most ≤ 16) = true := by simp; omega
  by_cases h3 : units < 1
  · have d3 : decide (1 ≤ units) = false := by simp; omega
    go_enter Try.func21, Try.ntmps21
    go_wp2
    go_ret
    exact ⟨_, rfl, rfl, rfl⟩
  have d3 : decide (1 ≤ units) = true := by simp; omega
  have d4 : decide (units ≤ 64) = false := by simp; omega
  go_enter Try.func21, Try.ntmps21
  go_wp2
  go_ret
  exact ⟨_, rfl, rfl, rfl⟩

/-- What do leaves and hands back. -/
def DoPost (w : World) (b : Nat) (F : List Nat) (s' : Gate) (outs : List Int) (v : Value) (w' : World) : Prop :=
  ∃ F', GateAt w' b F' s' ∧ Tch F w w' ∧ (∀ k ∈ F', k ∈ F ∨ w.heap.size ≤ k) ∧ Tab IntK w' v outs ∧ ∀ k, v.ownBlock = some k → k ∉ F' ∧ w.heap.size ≤ k

theorem doPost_nil {w w1 w' : World} {b : Nat} {F : List Nat} {s' : Gate} (hA : Tch [] w w1) (h : GatePost w1 b F s' w') : DoPost w b F s' [] (.slice none 0 0) w' := by
  obtain ⟨F', hg, hT, hF⟩ := h
  have := hA.size
  exact ⟨F', hg, hA.mono (by simp) |>.trans' hT, fun k hk => (hF k hk).imp id (by omega), Tab.nil _ _, fun k hk => by simp [Value.ownBlock] at hk⟩

set_option maxRecDepth 100000 in
set_option maxHeartbeats 1000000 in
theorem do_1 (b : Nat) (F : List Nat) (s : Gate) (id : Int) (yes : Bool) (w : World) (hg : GateAt w b F s) (hfs : Fits s) (hin : ∀ x ∈ s.inside, ∃ j, atId s.turn x = some j) :
    Rets Try.prog 23 #[.pointer (some ⟨b, 0, none⟩), .agg #[.int .i64 1, .int .i64 id, .bool yes]] w fun u w' => DoPost w b F ((s.submit id).2.2) ([]) u w' := by
  unfold Rets
  have hA := (Tch.refl [] w).alloc (.cells #[.int .i64 1, .int .i64 id, .bool yes] 40)
  have hg1 := hg.kept hA (by simp)
  go_enter Try.func23, Try.ntmps23
  go_wp2_with (go_at_call 28; refine (submit_any b F s id _ hg1 hfs).use ?_; rintro _ w2 ⟨rfl, hp⟩)
  go_ret
  exact ⟨_, rfl, doPost_nil hA hp⟩

set_option maxRecDepth 100000 in
set_option maxHeartbeats 1000000 in
theorem do_2 (b : Nat) (F : List Nat) (s : Gate) (id : Int) (yes : Bool) (w : World) (hg : GateAt w b F s) (hfs : Fits s) (hin : ∀ x ∈ s.inside, ∃ j, atId s.turn x = some j) :
    Rets Try.prog 23 #[.pointer (some ⟨b, 0, none⟩), .agg #[.int .i64 2, .int .i64 id, .bool yes]] w fun u w' => DoPost w b F ((s.admit []).2) ((s.admit []).1) u w' := by
  unfold Rets
  have hA := (Tch.refl [] w).alloc (.cells #[.int .i64 2, .int .i64 id, .bool yes] 40)
  have hg1 := hg.kept hA (by simp)
  go_enter Try.func23, Try.ntmps23
  go_wp2_with (go_at_call 30; refine (admit_any b F s _ hg1 hfs).use ?_; rintro va w2 hp; obtain ⟨F', hg', hT', hF', hva, hvb⟩ := hp)
  go_ret
  exact ⟨_, rfl, F', hg', (hA.mono (by simp)).trans' hT', fun k hk => (hF' k hk).imp (fun h => h) (by have := hA.size; omega), hva, fun k hk => ⟨(hvb k hk).1, by have := hA.size; have := (hvb k hk).2; omega⟩⟩

set_option maxRecDepth 100000 in
set_option maxHeartbeats 1000000 in
theorem do_3 (b : Nat) (F : List Nat) (s : Gate) (id : Int) (yes : Bool) (w : World) (hg : GateAt w b F s) (hfs : Fits s) (hin : ∀ x ∈ s.inside, ∃ j, atId s.turn x = some j) :
    Rets Try.prog 23 #[.pointer (some ⟨b, 0, none⟩), .agg #[.int .i64 3, .int .i64 id, .bool yes]] w fun u w' => DoPost w b F ((s.fin id yes).2) ([]) u w' := by
  unfold Rets
  have hA := (Tch.refl [] w).alloc (.cells #[.int .i64 3, .int .i64 id, .bool yes] 40)
  have hg1 := hg.kept hA (by simp)
  go_enter Try.func23, Try.ntmps23
  go_wp2_with (go_at_call 26; refine (end_any b F s id yes _ hg1 hfs hin).use ?_; rintro _ w2 ⟨rfl, hp⟩)
  go_ret
  exact ⟨_, rfl, doPost_nil hA hp⟩

set_option maxRecDepth 100000 in
set_option maxHeartbeats 1000000 in
theorem do_4 (b : Nat) (F : List Nat) (s : Gate) (id : Int) (yes : Bool) (w : World) (hg : GateAt w b F s) (hfs : Fits s) (hin : ∀ x ∈ s.inside, ∃ j, atId s.turn x = some j) :
    Rets Try.prog 23 #[.pointer (some ⟨b, 0, none⟩), .agg #[.int .i64 4, .int .i64 id, .bool yes]] w fun u w' => DoPost w b F (s.swept) ([]) u w' := by
  unfold Rets
  have hA := (Tch.refl [] w).alloc (.cells #[.int .i64 4, .int .i64 id, .bool yes] 40)
  have hg1 := hg.kept hA (by simp)
  go_enter Try.func23, Try.ntmps23
  go_wp2_with (go_at_call 34; refine (swept_any b F s _ hg1).use ?_; rintro _ w2 ⟨rfl, hp⟩)
  go_ret
  exact ⟨_, rfl, doPost_nil hA hp⟩

set_option maxRecDepth 100000 in
set_option maxHeartbeats 1000000 in
theorem do_5 (b : Nat) (F : List Nat) (s : Gate) (id : Int) (yes : Bool) (w : World) (hg : GateAt w b F s) (hfs : Fits s) (hin : ∀ x ∈ s.inside, ∃ j, atId s.turn x = some j) :
    Rets Try.prog 23 #[.pointer (some ⟨b, 0, none⟩), .agg #[.int .i64 5, .int .i64 id, .bool yes]] w fun u w' => DoPost w b F (s) ([]) u w' := by
  unfold Rets
  have hA := (Tch.refl [] w).alloc (.cells #[.int .i64 5, .int .i64 id, .bool yes] 40)
  have hg1 := hg.kept hA (by simp)
  go_enter Try.func23, Try.ntmps23
  go_wp2_with (go_at_call 24; refine (next_any b F s _ hg1 hfs).use ?_; rintro _ w2 ⟨rfl, hp⟩)
  go_ret
  exact ⟨_, rfl, doPost_nil hA hp⟩

set_option maxRecDepth 100000 in
set_option maxHeartbeats 1000000 in
theorem do_6 (b : Nat) (F : List Nat) (s : Gate) (id : Int) (yes : Bool) (w : World) (hg : GateAt w b F s) (hfs : Fits s) (hin : ∀ x ∈ s.inside, ∃ j, atId s.turn x = some j) :
    Rets Try.prog 23 #[.pointer (some ⟨b, 0, none⟩), .agg #[.int .i64 6, .int .i64 id, .bool yes]] w fun u w' => DoPost w b F ((s.picked id).2) ([]) u w' := by
  unfold Rets
  have hA := (Tch.refl [] w).alloc (.cells #[.int .i64 6, .int .i64 id, .bool yes] 40)
  have hg1 := hg.kept hA (by simp)
  go_enter Try.func23, Try.ntmps23
  go_wp2_with (go_at_call 25; refine (picked_any b F s id _ hg1 hfs).use ?_; rintro _ w2 ⟨rfl, hp⟩)
  go_ret
  exact ⟨_, rfl, doPost_nil hA hp⟩

set_option maxRecDepth 100000 in
set_option maxHeartbeats 1000000 in
theorem do_7 (b : Nat) (F : List Nat) (s : Gate) (id : Int) (yes : Bool) (w : World) (hg : GateAt w b F s) (hfs : Fits s) (hin : ∀ x ∈ s.inside, ∃ j, atId s.turn x = some j) :
    Rets Try.prog 23 #[.pointer (some ⟨b, 0, none⟩), .agg #[.int .i64 7, .int .i64 id, .bool yes]] w fun u w' => DoPost w b F (s) ([]) u w' := by
  unfold Rets
  have hA := (Tch.refl [] w).alloc (.cells #[.int .i64 7, .int .i64 id, .bool yes] 40)
  have hg1 := hg.kept hA (by simp)
  go_enter Try.func23, Try.ntmps23
  go_wp2_with (go_at_call 19; refine (stat_any b F s _ hg1 hfs).use ?_; rintro _ w2 hp0; obtain ⟨vI, vQ, rfl, hg', hT', hI, hQ, _⟩ := hp0; have hp : GatePost _ b F s w2 := ⟨F, hg', hT', fun _ hk => .inl hk⟩)
  go_ret
  exact ⟨_, rfl, doPost_nil hA hp⟩

set_option maxRecDepth 100000 in
set_option maxHeartbeats 1000000 in
theorem do_0 (b : Nat) (F : List Nat) (s : Gate) (kd : Int) (id : Int) (yes : Bool) (w : World) (h1 : kd ≠ 1) (h2 : kd ≠ 2) (h3 : kd ≠ 3) (h4 : kd ≠ 4) (h5 : kd ≠ 5) (h6 : kd ≠ 6) (h7 : kd ≠ 7) (hg : GateAt w b F s) (hfs : Fits s) (hin : ∀ x ∈ s.inside, ∃ j, atId s.turn x = some j) :
    Rets Try.prog 23 #[.pointer (some ⟨b, 0, none⟩), .agg #[.int .i64 kd, .int .i64 id, .bool yes]] w fun u w' => DoPost w b F (s) ([]) u w' := by
  unfold Rets
  have hA := (Tch.refl [] w).alloc (.cells #[.int .i64 kd, .int .i64 id, .bool yes] 40)
  have hg1 := hg.kept hA (by simp)
  have d1 : (kd == 1) = false := by simpa using h1
  have d2 : (kd == 2) = false := by simpa using h2
  have d3 : (kd == 3) = false := by simpa using h3
  have d4 : (kd == 4) = false := by simpa using h4
  have d5 : (kd == 5) = false := by simpa using h5
  have d6 : (kd == 6) = false := by simpa using h6
  have d7 : (kd == 7) = false := by simpa using h7
  go_enter Try.func23, Try.ntmps23
  go_wp2_with (fail)
  go_ret
  exact ⟨_, rfl, doPost_nil hA ⟨F, hg1, Tch.refl _ _, fun _ hk => .inl hk⟩⟩

theorem do_any (b : Nat) (F : List Nat) (s : Gate) (o : Deed) (w : World) (hg : GateAt w b F s) (hfs : Fits s) (hin : ∀ x ∈ s.inside, ∃ j, atId s.turn x = some j) :
    Rets Try.prog 23 #[.pointer (some ⟨b, 0, none⟩), .agg #[.int .i64 o.kind, .int .i64 o.id, .bool o.yes]] w fun u w' => DoPost w b F (s.step o) (s.outs o) u w' := by
  obtain ⟨kd, id, yes⟩ := o
  by_cases h2 : kd = 2
  · subst h2; exact do_2 b F s id yes w hg hfs hin
  have e0 : s.outs ⟨kd, id, yes⟩ = [] := by unfold Gate.outs; simp [h2]
  rw [e0]
  by_cases h1 : kd = 1
  · subst h1; exact do_1 b F s id yes w hg hfs hin
  by_cases h3 : kd = 3
  · subst h3; exact do_3 b F s id yes w hg hfs hin
  by_cases h4 : kd = 4
  · subst h4; exact do_4 b F s id yes w hg hfs hin
  by_cases h5 : kd = 5
  · subst h5; exact do_5 b F s id yes w hg hfs hin
  by_cases h6 : kd = 6
  · subst h6; exact do_6 b F s id yes w hg hfs hin
  have e1 : s.step ⟨kd, id, yes⟩ = s := by unfold Gate.step; simp [h1, h2, h3, h4, h6]
  rw [e1]
  by_cases h7 : kd = 7
  · subst h7; exact do_7 b F s id yes w hg hfs hin
  exact do_0 b F s kd id yes w h1 h2 h3 h4 h5 h6 h7 hg hfs hin

set_option maxRecDepth 100000 in
set_option maxHeartbeats 1000000 in
theorem begun_any (most units : Int) (w : World) (h1 : 1 ≤ most) (h2 : most ≤ 16) (h3 : 1 ≤ units) (h4 : units ≤ 64) :
    Rets Try.prog 22 #[.int .i64 most, .int .i64 units] w fun u w' => ∃ b F, u = .pointer (some ⟨b, 0, none⟩) ∧ GateAt w' b F (Gate.begun most units) ∧ Tch [] w w' ∧ ∀ k ∈ F, w.heap.size ≤ k := by
  unfold Rets
  have hfn := fits_new h1 h2 h3 h4
  have hf1 : Fits ((Gate.new most units).submit 1073741824).2.2 := sim_fits (sim_submit (sim_new h1 h2 h3 h4) 1073741824).2.2 (by omega)
  have e0 : ((Gate.new most units).submit 1073741824).1 = 1 := by rw [begun_submit]
  have e1 : ((Gate.new most units).submit 1073741824).2.1 = 0 := by rw [begun_submit]
  have HE := Lib.hid (begun_admit h1 h3).1
  go_enter Try.func22, Try.ntmps22
  go_wp2_with (first
    | (go_at_call 16; refine (new_yes most units _ h1 h2 h3 h4).use ?_; rintro _ w1 hN; obtain ⟨b, F, rfl, hg, hT, hF⟩ := hN)
    | (go_at_call 28; refine (submit_any b F _ 1073741824 _ hg hfn).use ?_; rintro _ w2 ⟨rfl, hp⟩; obtain ⟨F2, hg2, hT2, hF2⟩ := hp)
    | (go_at_call 30; refine (admit_any b F2 _ _ hg2 hf1).use ?_; rintro va w3 hp; obtain ⟨F3, hg3, hT3, hF3, hva, _⟩ := hp; rw [HE.out] at hva; rcases hva.form with ⟨_, h0⟩ | ⟨g, cap, hv, _⟩; (cases h0); subst hv; have k0 : w3.cell? ⟨g, 0, none⟩ = some (.int .i64 1073741824) := (by simpa [IntK] using hva.cell (i := 0) (f := 0) rfl rfl)))
  go_ret
  refine ⟨_, rfl, b, F3, rfl, hg3, (hT.trans hT2 (fun k hk => .inr (hF k hk))).trans hT3 (fun k hk => .inr ?_), fun k hk => ?_⟩
  · rcases hF2 k hk with h | h
    · exact hF k h
    · have := hT.size; omega
  · have := hT.size
    have := hT2.size
    rcases hF3 k hk with h | h
    · rcases hF2 k h with h | h
      · exact hF k h
      · omega
    · omega
end Go.Proofs.Ytdmgbfkioghkeaa
