/-
  The law's plays, walked: one call on both gates answers true where they go side by side.
-/
import Derived.Test.YtdmgbfkioghkeaaPStep
import Derived.Test.YtdmgbfkioghkeaaLMakes
namespace Go.Proofs.Ytdmgbfkioghkeaa
open Go.RowKit Go.Ytdmgbfkioghkeaa Go.Ytdmgbfkioghkeaa.Gt Go.Ytdmgbfkioghkeaa.Reg

theorem sim_fits {s : Gate} {r : RGate} {n : Int} (h : Sim s r n) (hn : n ≤ 1000000000000000000) : Fits s := by
  have h1 := h.live
  have h2 := h.turn.length_eq
  simp only [List.length_cons] at h2
  have h3 : s.inside.length = r.inside.length := by rw [h.inside, List.length_map]
  have h4 : s.queue.length = r.queue.length := by rw [h.queue]
  have := h.stamp; have := h.clock; have := h.logged; have := h.most; have := h.units
  have := h.stamp0; have := h.stampN; have := h.clock0; have := h.clockN; have := h.logged0; have := h.loggedN
  have := h.most0; have := h.most1; have := h.units0; have := h.units1
  constructor <;> omega
theorem sim_rfits {s : Gate} {r : RGate} {n : Int} (h : Sim s r n) (hn : n ≤ 1000000000000000000) : RFits r := by
  have h1 := h.live
  have := h.stamp0; have := h.stampN; have := h.clock0; have := h.clockN; have := h.logged0; have := h.loggedN
  have := h.most0; have := h.most1; have := h.units0; have := h.units1
  constructor <;> omega
theorem sim_hin {s : Gate} {r : RGate} {n : Int} (h : Sim s r n) : ∀ x ∈ s.inside, ∃ j, atId s.turn x = some j := by
  intro x hx
  rw [h.inside] at hx
  obtain ⟨g, hg, rfl⟩ := List.mem_map.1 hx
  obtain ⟨j, hj, _⟩ := h.at (List.mem_cons_of_mem _ hg) rfl
  exact ⟨j, hj⟩

/-- Both gates lie in new memory, apart. -/
def Pair (w0 w : World) (b br : Nat) (s : Gate) (r : RGate) : Prop :=
  ∃ F Fr, GateAt w b F s ∧ RefAt w br Fr r ∧ (∀ k ∈ F, k ∉ Fr ∧ w0.heap.size ≤ k) ∧ (∀ k ∈ Fr, w0.heap.size ≤ k) ∧ Tch [] w0 w

section
variable {w0 w w' : World} {b br : Nat} {F Fr : List Nat} {s s' : Gate} {r r' : RGate}

theorem pair_gate (_hg : GateAt w b F s) (hr : RefAt w br Fr r) (hd : ∀ k ∈ F, k ∉ Fr ∧ w0.heap.size ≤ k) (hf : ∀ k ∈ Fr, w0.heap.size ≤ k) (hT : Tch [] w0 w) (hp : GatePost w b F s' w') : Pair w0 w' b br s' r := by
  obtain ⟨F', hg', hT', hF'⟩ := hp
  have := hT.size
  refine ⟨F', Fr, hg', hr.kept hT' (fun k hk hk2 => (hd k hk2).1 hk), fun k hk => ?_, hf, hT.trans hT' (fun x hx => .inr (hd x hx).2)⟩
  rcases hF' k hk with h | h
  · exact hd k h
  · exact ⟨fun h2 => by have := hr.mem k h2; omega, by omega⟩
theorem pair_gate' (hr : RefAt w br Fr r) (hd : ∀ k ∈ F, k ∉ Fr ∧ w0.heap.size ≤ k) (hf : ∀ k ∈ Fr, w0.heap.size ≤ k) (hT : Tch [] w0 w) (hp : GatePost w b F s' w') :
    ∃ F2, GateAt w' b F2 s' ∧ RefAt w' br Fr r ∧ (∀ k ∈ F2, k ∉ Fr ∧ w0.heap.size ≤ k) ∧ (∀ k ∈ Fr, w0.heap.size ≤ k) ∧ Tch [] w0 w' := by
  obtain ⟨F', hg', hT', hF'⟩ := hp
  have := hT.size
  refine ⟨F', hg', hr.kept hT' (fun k hk hk2 => (hd k hk2).1 hk), fun k hk => ?_, hf, hT.trans hT' (fun x hx => .inr (hd x hx).2)⟩
  rcases hF' k hk with h | h
  · exact hd k h
  · exact ⟨fun h2 => by have := hr.mem k h2; omega, by omega⟩
theorem pair_ref (hg : GateAt w b F s) (_hr : RefAt w br Fr r) (hd : ∀ k ∈ F, k ∉ Fr ∧ w0.heap.size ≤ k) (hf : ∀ k ∈ Fr, w0.heap.size ≤ k) (hT : Tch [] w0 w) (hp : RefPost w br Fr r' w') : Pair w0 w' b br s r' := by
  obtain ⟨F', hr', hT', hF'⟩ := hp
  have := hT.size
  refine ⟨F, F', hg.kept hT' (fun k hk hk2 => (hd k hk).1 hk2), hr', fun k hk => ⟨fun h2 => ?_, (hd k hk).2⟩, fun k hk => ?_, hT.trans hT' (fun x hx => .inr (hf x hx))⟩
  · rcases hF' k h2 with h | h
    · exact (hd k hk).1 h
    · have := hg.mem k hk; omega
  · rcases hF' k hk with h | h
    · exact hf k h
    · omega
theorem pair_kept (h : Pair w0 w b br s r) (hT : Tch [] w w') : Pair w0 w' b br s r := by
  obtain ⟨F, Fr, hg, hr, hd, hf, hT0⟩ := h
  exact ⟨F, Fr, hg.kept hT (by simp), hr.kept hT (by simp), hd, hf, hT0.trans hT (by simp)⟩
end

theorem pair_refl {w0 w : World} {b br : Nat} {F Fr : List Nat} {s : Gate} {r : RGate} (hg : GateAt w b F s) (hr : RefAt w br Fr r) (hd : ∀ k ∈ F, k ∉ Fr ∧ w0.heap.size ≤ k) (hf : ∀ k ∈ Fr, w0.heap.size ≤ k) (hT : Tch [] w0 w) : Pair w0 w b br s r := ⟨F, Fr, hg, hr, hd, hf, hT⟩

set_option maxRecDepth 100000 in
set_option maxHeartbeats 1000000 in
theorem plays_1 (w0 : World) (b br : Nat) (s : Gate) (r : RGate) (n : Int) (id : Int) (yes : Bool) (w : World) (h : Pair w0 w b br s r) (hs : Sim s r n) (hn : n ≤ 1000000000000000000) :
    Rets Try.prog 33 #[.pointer (some ⟨b, 0, none⟩), .pointer (some ⟨br, 0, none⟩), .agg #[.int .i64 1, .int .i64 id, .bool yes]] w fun u w' => u = .bool true ∧ Pair w0 w' b br ((s.submit id).2.2) ((r.submit id).2.2) := by
  unfold Rets
  obtain ⟨F, Fr, hg, hr, hd, hf, hT⟩ := h
  have hA := (Tch.refl [] w).alloc (.cells #[.int .i64 1, .int .i64 id, .bool yes] 40)
  have hg1 := hg.kept hA (by simp)
  have hr1 := hr.kept hA (by simp)
  have hT1 := hT.trans hA (by simp)
  have hbox := Blk.new w #[.int .i64 1, .int .i64 id, .bool yes] 40
  have hnF : w.heap.size ∉ F := fun h => by have := hg.mem _ h; omega
  have hnFr : w.heap.size ∉ Fr := fun h => by have := hr.mem _ h; omega
  clear hg hr hT hA
  have hfs := sim_fits hs hn
  have hfr := sim_rfits hs hn
  have he := sim_submit hs id
  go_enter Try.func33, Try.ntmps33
  go_wp2_with (first
    | (go_at_call 28; refine (submit_any b F s id _ hg1 hfs).use ?_; rintro _ w2 ⟨rfl, hp⟩; have hbox2 := hbox.touch hp.choose_spec.2.1 hnF; have k0 : w2.cell? ⟨w.heap.size, 0, none⟩ = some (.int .i64 1) := hbox2.cell 0; have k1 : w2.cell? ⟨w.heap.size, 1, none⟩ = some (.int .i64 id) := hbox2.cell 1; have k2 : w2.cell? ⟨w.heap.size, 2, none⟩ = some (.bool yes) := hbox2.cell 2; obtain ⟨F2, Fr2, hg2, hr2, hd2, hf2, hT2⟩ := pair_gate hg1 hr1 hd hf hT1 hp)
    | (go_at_call 50; refine (rsubmit_any br Fr2 r id _ hr2 hfr).use ?_; rintro _ w3 ⟨rfl, hp3⟩))
  go_ret
  exact ⟨_, rfl, rfl, pair_ref hg2 hr2 hd2 hf2 hT2 hp3⟩

set_option maxRecDepth 100000 in
set_option maxHeartbeats 1000000 in
theorem plays_2 (w0 : World) (b br : Nat) (s : Gate) (r : RGate) (n : Int) (id : Int) (yes : Bool) (w : World) (h : Pair w0 w b br s r) (hs : Sim s r n) (hn : n ≤ 1000000000000000000) :
    Rets Try.prog 33 #[.pointer (some ⟨b, 0, none⟩), .pointer (some ⟨br, 0, none⟩), .agg #[.int .i64 2, .int .i64 id, .bool yes]] w fun u w' => u = .bool true ∧ Pair w0 w' b br ((s.admit []).2) ((r.admit []).2) := by
  unfold Rets
  obtain ⟨F, Fr, hg, hr, hd, hf, hT⟩ := h
  have hA := (Tch.refl [] w).alloc (.cells #[.int .i64 2, .int .i64 id, .bool yes] 40)
  have hg1 := hg.kept hA (by simp)
  have hr1 := hr.kept hA (by simp)
  have hT1 := hT.trans hA (by simp)
  have hbox := Blk.new w #[.int .i64 2, .int .i64 id, .bool yes] 40
  have hnF : w.heap.size ∉ F := fun h => by have := hg.mem _ h; omega
  have hnFr : w.heap.size ∉ Fr := fun h => by have := hr.mem _ h; omega
  clear hg hr hT hA
  have hfs := sim_fits hs hn
  have hfr := sim_rfits hs hn
  have he := Lib.hid (sim_admit _ [] rfl hs).1
  go_enter Try.func33, Try.ntmps33
  go_wp2_with (first
    | (go_at_call 30; refine (admit_any b F s _ hg1 hfs).use ?_; rintro va w2 hp0; obtain ⟨F', hg', hT', hF', hva, hvb⟩ := hp0; have hp : GatePost _ b F (s.admit []).2 w2 := ⟨F', hg', hT', hF'⟩; have hbox2 := hbox.touch hT' hnF; have k0 : w2.cell? ⟨w.heap.size, 0, none⟩ = some (.int .i64 2) := hbox2.cell 0; have k1 : w2.cell? ⟨w.heap.size, 1, none⟩ = some (.int .i64 id) := hbox2.cell 1; have k2 : w2.cell? ⟨w.heap.size, 2, none⟩ = some (.bool yes) := hbox2.cell 2; obtain ⟨F2, hg2, hr2, hd2, hf2, hT2⟩ := pair_gate' hr1 hd hf hT1 hp)
    | (go_at_call 31; refine (radmit_any br Fr r _ hr2 hfr).use ?_; rintro vb w3 hp0; obtain ⟨Fr', hr', hTr', hFr', hvr, hvs⟩ := hp0; have hva3 := hva.touch hTr' (fun k hk h2 => by have a1 := (hvb k hk).2; have a2 := hr1.mem k h2; omega); have hp3 : RefPost _ br Fr (r.admit []).2 w3 := ⟨Fr', hr', hTr', hFr'⟩)
    | (go_at_call 29; refine (same_true va vb _ _ hva3 (by rw [he.out]; exact hvr)).use ?_; rintro _ w4 ⟨rfl, hT4⟩))
  go_ret
  exact ⟨_, rfl, rfl, pair_kept (pair_ref hg2 hr2 hd2 hf2 hT2 hp3) hT4⟩

set_option maxRecDepth 100000 in
set_option maxHeartbeats 1000000 in
theorem plays_3 (w0 : World) (b br : Nat) (s : Gate) (r : RGate) (n : Int) (id : Int) (yes : Bool) (w : World) (h : Pair w0 w b br s r) (hs : Sim s r n) (hn : n ≤ 1000000000000000000) :
    Rets Try.prog 33 #[.pointer (some ⟨b, 0, none⟩), .pointer (some ⟨br, 0, none⟩), .agg #[.int .i64 3, .int .i64 id, .bool yes]] w fun u w' => u = .bool true ∧ Pair w0 w' b br ((s.fin id yes).2) ((r.fin id yes).2) := by
  unfold Rets
  obtain ⟨F, Fr, hg, hr, hd, hf, hT⟩ := h
  have hA := (Tch.refl [] w).alloc (.cells #[.int .i64 3, .int .i64 id, .bool yes] 40)
  have hg1 := hg.kept hA (by simp)
  have hr1 := hr.kept hA (by simp)
  have hT1 := hT.trans hA (by simp)
  have hbox := Blk.new w #[.int .i64 3, .int .i64 id, .bool yes] 40
  have hnF : w.heap.size ∉ F := fun h => by have := hg.mem _ h; omega
  have hnFr : w.heap.size ∉ Fr := fun h => by have := hr.mem _ h; omega
  clear hg hr hT hA
  have hfs := sim_fits hs hn
  have hfr := sim_rfits hs hn
  have he := (sim_fin hs id yes).1
  go_enter Try.func33, Try.ntmps33
  go_wp2_with (first
    | (go_at_call 26; refine (end_any b F s id yes _ hg1 hfs (sim_hin hs)).use ?_; rintro _ w2 ⟨rfl, hp⟩; have hbox2 := hbox.touch hp.choose_spec.2.1 hnF; have k0 : w2.cell? ⟨w.heap.size, 0, none⟩ = some (.int .i64 3) := hbox2.cell 0; have k1 : w2.cell? ⟨w.heap.size, 1, none⟩ = some (.int .i64 id) := hbox2.cell 1; have k2 : w2.cell? ⟨w.heap.size, 2, none⟩ = some (.bool yes) := hbox2.cell 2; obtain ⟨F2, Fr2, hg2, hr2, hd2, hf2, hT2⟩ := pair_gate hg1 hr1 hd hf hT1 hp)
    | (go_at_call 51; refine (rend_any br Fr2 r id yes _ hr2 hfr).use ?_; rintro _ w3 ⟨rfl, hp3⟩))
  go_ret
  exact ⟨_, rfl, rfl, pair_ref hg2 hr2 hd2 hf2 hT2 hp3⟩

set_option maxRecDepth 100000 in
set_option maxHeartbeats 1000000 in
theorem plays_4 (w0 : World) (b br : Nat) (s : Gate) (r : RGate) (n : Int) (id : Int) (yes : Bool) (w : World) (h : Pair w0 w b br s r) (hs : Sim s r n) (hn : n ≤ 1000000000000000000) :
    Rets Try.prog 33 #[.pointer (some ⟨b, 0, none⟩), .pointer (some ⟨br, 0, none⟩), .agg #[.int .i64 4, .int .i64 id, .bool yes]] w fun u w' => u = .bool true ∧ Pair w0 w' b br (s.swept) (r.swept) := by
  unfold Rets
  obtain ⟨F, Fr, hg, hr, hd, hf, hT⟩ := h
  have hA := (Tch.refl [] w).alloc (.cells #[.int .i64 4, .int .i64 id, .bool yes] 40)
  have hg1 := hg.kept hA (by simp)
  have hr1 := hr.kept hA (by simp)
  have hT1 := hT.trans hA (by simp)
  have hbox := Blk.new w #[.int .i64 4, .int .i64 id, .bool yes] 40
  have hnF : w.heap.size ∉ F := fun h => by have := hg.mem _ h; omega
  have hnFr : w.heap.size ∉ Fr := fun h => by have := hr.mem _ h; omega
  clear hg hr hT hA
  have hfs := sim_fits hs hn
  have hfr := sim_rfits hs hn
  go_enter Try.func33, Try.ntmps33
  go_wp2_with (first
    | (go_at_call 34; refine (swept_any b F s _ hg1).use ?_; rintro _ w2 ⟨rfl, hp⟩; have hbox2 := hbox.touch hp.choose_spec.2.1 hnF; have k0 : w2.cell? ⟨w.heap.size, 0, none⟩ = some (.int .i64 4) := hbox2.cell 0; have k1 : w2.cell? ⟨w.heap.size, 1, none⟩ = some (.int .i64 id) := hbox2.cell 1; have k2 : w2.cell? ⟨w.heap.size, 2, none⟩ = some (.bool yes) := hbox2.cell 2; obtain ⟨F2, Fr2, hg2, hr2, hd2, hf2, hT2⟩ := pair_gate hg1 hr1 hd hf hT1 hp)
    | (go_at_call 52; refine (rswept_any br Fr2 r _ hr2).use ?_; rintro _ w3 ⟨rfl, hp3⟩))
  go_ret
  exact ⟨_, rfl, rfl, pair_ref hg2 hr2 hd2 hf2 hT2 hp3⟩

set_option maxRecDepth 100000 in
set_option maxHeartbeats 1000000 in
theorem plays_5 (w0 : World) (b br : Nat) (s : Gate) (r : RGate) (n : Int) (id : Int) (yes : Bool) (w : World) (h : Pair w0 w b br s r) (hs : Sim s r n) (hn : n ≤ 1000000000000000000) :
    Rets Try.prog 33 #[.pointer (some ⟨b, 0, none⟩), .pointer (some ⟨br, 0, none⟩), .agg #[.int .i64 5, .int .i64 id, .bool yes]] w fun u w' => u = .bool true ∧ Pair w0 w' b br (s) (r) := by
  unfold Rets
  obtain ⟨F, Fr, hg, hr, hd, hf, hT⟩ := h
  have hA := (Tch.refl [] w).alloc (.cells #[.int .i64 5, .int .i64 id, .bool yes] 40)
  have hg1 := hg.kept hA (by simp)
  have hr1 := hr.kept hA (by simp)
  have hT1 := hT.trans hA (by simp)
  have hbox := Blk.new w #[.int .i64 5, .int .i64 id, .bool yes] 40
  have hnF : w.heap.size ∉ F := fun h => by have := hg.mem _ h; omega
  have hnFr : w.heap.size ∉ Fr := fun h => by have := hr.mem _ h; omega
  clear hg hr hT hA
  have hfs := sim_fits hs hn
  have hfr := sim_rfits hs hn
  have he := sim_next hs (by unfold maxStamp; omega)
  go_enter Try.func33, Try.ntmps33
  go_wp2_with (first
    | (go_at_call 24; refine (next_any b F s _ hg1 hfs).use ?_; rintro _ w2 ⟨rfl, hp⟩; obtain ⟨F2, Fr2, hg2, hr2, hd2, hf2, hT2⟩ := pair_gate hg1 hr1 hd hf hT1 hp)
    | (go_at_call 53; refine (rnext_any br Fr2 r _ hr2 hfr).use ?_; rintro _ w3 ⟨rfl, hT3⟩))
  go_ret
  exact ⟨_, rfl, rfl, pair_kept (pair_refl hg2 hr2 hd2 hf2 hT2) hT3⟩

set_option maxRecDepth 100000 in
set_option maxHeartbeats 1000000 in
theorem plays_6 (w0 : World) (b br : Nat) (s : Gate) (r : RGate) (n : Int) (id : Int) (yes : Bool) (w : World) (h : Pair w0 w b br s r) (hs : Sim s r n) (hn : n ≤ 1000000000000000000) :
    Rets Try.prog 33 #[.pointer (some ⟨b, 0, none⟩), .pointer (some ⟨br, 0, none⟩), .agg #[.int .i64 6, .int .i64 id, .bool yes]] w fun u w' => u = .bool true ∧ Pair w0 w' b br ((s.picked id).2) ((r.picked id).2) := by
  unfold Rets
  obtain ⟨F, Fr, hg, hr, hd, hf, hT⟩ := h
  have hA := (Tch.refl [] w).alloc (.cells #[.int .i64 6, .int .i64 id, .bool yes] 40)
  have hg1 := hg.kept hA (by simp)
  have hr1 := hr.kept hA (by simp)
  have hT1 := hT.trans hA (by simp)
  have hbox := Blk.new w #[.int .i64 6, .int .i64 id, .bool yes] 40
  have hnF : w.heap.size ∉ F := fun h => by have := hg.mem _ h; omega
  have hnFr : w.heap.size ∉ Fr := fun h => by have := hr.mem _ h; omega
  clear hg hr hT hA
  have hfs := sim_fits hs hn
  have hfr := sim_rfits hs hn
  have he := (sim_picked hs id).1
  go_enter Try.func33, Try.ntmps33
  go_wp2_with (first
    | (go_at_call 25; refine (picked_any b F s id _ hg1 hfs).use ?_; rintro _ w2 ⟨rfl, hp⟩; have hbox2 := hbox.touch hp.choose_spec.2.1 hnF; have k0 : w2.cell? ⟨w.heap.size, 0, none⟩ = some (.int .i64 6) := hbox2.cell 0; have k1 : w2.cell? ⟨w.heap.size, 1, none⟩ = some (.int .i64 id) := hbox2.cell 1; have k2 : w2.cell? ⟨w.heap.size, 2, none⟩ = some (.bool yes) := hbox2.cell 2; obtain ⟨F2, Fr2, hg2, hr2, hd2, hf2, hT2⟩ := pair_gate hg1 hr1 hd hf hT1 hp)
    | (go_at_call 54; refine (rpicked_any br Fr2 r id _ hr2 hfr).use ?_; rintro _ w3 ⟨rfl, hp3⟩))
  go_ret
  exact ⟨_, rfl, rfl, pair_ref hg2 hr2 hd2 hf2 hT2 hp3⟩

set_option maxRecDepth 100000 in
set_option maxHeartbeats 1000000 in
theorem plays_7 (w0 : World) (b br : Nat) (s : Gate) (r : RGate) (n : Int) (id : Int) (yes : Bool) (w : World) (h : Pair w0 w b br s r) (hs : Sim s r n) (hn : n ≤ 1000000000000000000) :
    Rets Try.prog 33 #[.pointer (some ⟨b, 0, none⟩), .pointer (some ⟨br, 0, none⟩), .agg #[.int .i64 7, .int .i64 id, .bool yes]] w fun u w' => u = .bool true ∧ Pair w0 w' b br (s) (r) := by
  unfold Rets
  obtain ⟨F, Fr, hg, hr, hd, hf, hT⟩ := h
  have hA := (Tch.refl [] w).alloc (.cells #[.int .i64 7, .int .i64 id, .bool yes] 40)
  have hg1 := hg.kept hA (by simp)
  have hr1 := hr.kept hA (by simp)
  have hT1 := hT.trans hA (by simp)
  have hbox := Blk.new w #[.int .i64 7, .int .i64 id, .bool yes] 40
  have hnF : w.heap.size ∉ F := fun h => by have := hg.mem _ h; omega
  have hnFr : w.heap.size ∉ Fr := fun h => by have := hr.mem _ h; omega
  clear hg hr hT hA
  have hfs := sim_fits hs hn
  have hfr := sim_rfits hs hn
  go_enter Try.func33, Try.ntmps33
  go_wp2_with (first
    | (go_at_call 19; refine (stat_any b F s _ hg1 hfs).use ?_; rintro _ w2 hp0; obtain ⟨vI, vQ, rfl, hg', hT', hI, hQ, _⟩ := hp0; have hp : GatePost _ b F s w2 := ⟨F, hg', hT', fun _ hk => .inl hk⟩; obtain ⟨F2, Fr2, hg2, hr2, hd2, hf2, hT2⟩ := pair_gate hg1 hr1 hd hf hT1 hp)
    | (go_at_call 18; refine (stat_true s vI vQ br Fr2 r _ hI hQ hr2 hfr hs.logged hs.units hs.most hs.inside (by rw [hs.queue])).use ?_; rintro _ w3 ⟨rfl, hT3⟩))
  go_ret
  exact ⟨_, rfl, rfl, pair_kept (pair_refl hg2 hr2 hd2 hf2 hT2) hT3⟩

set_option maxRecDepth 100000 in
set_option maxHeartbeats 1000000 in
theorem plays_0 (w0 : World) (b br : Nat) (s : Gate) (r : RGate) (n : Int) (kd : Int) (id : Int) (yes : Bool) (w : World) (h1 : kd ≠ 1) (h2 : kd ≠ 2) (h3 : kd ≠ 3) (h4 : kd ≠ 4) (h5 : kd ≠ 5) (h6 : kd ≠ 6) (h7 : kd ≠ 7) (h : Pair w0 w b br s r) (hs : Sim s r n) (hn : n ≤ 1000000000000000000) :
    Rets Try.prog 33 #[.pointer (some ⟨b, 0, none⟩), .pointer (some ⟨br, 0, none⟩), .agg #[.int .i64 kd, .int .i64 id, .bool yes]] w fun u w' => u = .bool true ∧ Pair w0 w' b br (s) (r) := by
  unfold Rets
  obtain ⟨F, Fr, hg, hr, hd, hf, hT⟩ := h
  have hA := (Tch.refl [] w).alloc (.cells #[.int .i64 kd, .int .i64 id, .bool yes] 40)
  have hg1 := hg.kept hA (by simp)
  have hr1 := hr.kept hA (by simp)
  have hT1 := hT.trans hA (by simp)
  have hbox := Blk.new w #[.int .i64 kd, .int .i64 id, .bool yes] 40
  have hnF : w.heap.size ∉ F := fun h => by have := hg.mem _ h; omega
  have hnFr : w.heap.size ∉ Fr := fun h => by have := hr.mem _ h; omega
  clear hg hr hT hA
  have hfs := sim_fits hs hn
  have hfr := sim_rfits hs hn
  have d1 : (kd == 1) = false := by simpa using h1
  have d2 : (kd == 2) = false := by simpa using h2
  have d3 : (kd == 3) = false := by simpa using h3
  have d4 : (kd == 4) = false := by simpa using h4
  have d5 : (kd == 5) = false := by simpa using h5
  have d6 : (kd == 6) = false := by simpa using h6
  have d7 : (kd == 7) = false := by simpa using h7
  go_enter Try.func33, Try.ntmps33
  go_wp2_with (first
    | fail)
  go_ret
  exact ⟨_, rfl, rfl, pair_refl hg1 hr1 hd hf hT1⟩

theorem plays_any (w0 : World) (b br : Nat) (s : Gate) (r : RGate) (n : Int) (o : Deed) (w : World) (h : Pair w0 w b br s r) (hs : Sim s r n) (hn : n ≤ 1000000000000000000) :
    Rets Try.prog 33 #[.pointer (some ⟨b, 0, none⟩), .pointer (some ⟨br, 0, none⟩), .agg #[.int .i64 o.kind, .int .i64 o.id, .bool o.yes]] w fun u w' => u = .bool true ∧ Pair w0 w' b br (s.step o) (r.step o) := by
  obtain ⟨kd, id, yes⟩ := o
  by_cases h1 : kd = 1
  · subst h1; exact plays_1 w0 b br s r n id yes w h hs hn
  by_cases h2 : kd = 2
  · subst h2; exact plays_2 w0 b br s r n id yes w h hs hn
  by_cases h3 : kd = 3
  · subst h3; exact plays_3 w0 b br s r n id yes w h hs hn
  by_cases h4 : kd = 4
  · subst h4; exact plays_4 w0 b br s r n id yes w h hs hn
  by_cases h5 : kd = 5
  · subst h5; exact plays_5 w0 b br s r n id yes w h hs hn
  by_cases h6 : kd = 6
  · subst h6; exact plays_6 w0 b br s r n id yes w h hs hn
  have e1 : s.step ⟨kd, id, yes⟩ = s := by unfold Gate.step; simp [h1, h2, h3, h4, h6]
  have e2 : r.step ⟨kd, id, yes⟩ = r := by unfold RGate.step; simp [h1, h2, h3, h4, h6]
  rw [e1, e2]
  by_cases h7 : kd = 7
  · subst h7; exact plays_7 w0 b br s r n id yes w h hs hn
  exact plays_0 w0 b br s r n kd id yes w h1 h2 h3 h4 h5 h6 h7 h hs hn
end Go.Proofs.Ytdmgbfkioghkeaa
