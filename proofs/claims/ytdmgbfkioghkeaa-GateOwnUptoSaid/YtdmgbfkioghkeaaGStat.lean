/-
  The gate's methods, walked: New, Stat.
-/
import Derived.Test.YtdmgbfkioghkeaaGAdmit
namespace Go.Proofs.Ytdmgbfkioghkeaa
open Go.RowKit Go.Ytdmgbfkioghkeaa Go.Ytdmgbfkioghkeaa.Gt Go.Ytdmgbfkioghkeaa.Reg Go.MuLone

/-- A gate that has just been made, all in new blocks. -/
def NewPost (w : World) (most units : Int) (v : Value) (w' : World) : Prop :=
  ∃ b F, v = .tuple #[.pointer (some ⟨b, 0, none⟩), .int .i64 0] ∧ GateAt w' b F (Gate.new most units) ∧ Tch [] w w' ∧ ∀ k ∈ F, w.heap.size ≤ k

set_option maxRecDepth 100000 in
theorem new_yes (most units : Int) (w : World) (h1 : 1 ≤ most) (h2 : most ≤ 16) (h3 : 1 ≤ units) (h4 : units ≤ 64) :
    Rets Try.prog 16 #[.int .i64 most, .int .i64 units] w fun u w' => NewPost w most units u w' := by
  unfold Rets
  have d1 : decide (most < 1) = false := by simp; omega
  have d2 : decide (16 < most) = false := by simp; omega
  have d3 : decide (units < 1) = false := by simp; omega
  have d4 : decide (64 < units) = false := by simp; omega
  go_enter Try.func16, Try.ntmps16
  go_wp2
  go_ret2
  refine ⟨_, rfl, w.heap.size + 1, [w.heap.size + 1, w.heap.size], rfl, ⟨.slice none 0 0, .slice none 0 0, .slice (some ⟨w.heap.size, 0, none⟩) 1 1, ⟨?_, Tab.nil _ _, Tab.nil _ _, ?_, by simp [Value.ownBlock], by simp [Value.ownBlock], by simp [Value.ownBlock], by simp [Value.ownBlock], by simp [Value.ownBlock], by simp [Value.ownBlock]⟩, by simp [foot, Value.ownBlock]⟩,
    ((Tch.refl _ _).alloc _).alloc _, by simp⟩
  · exact Blk.last _ _ _ (by simp)
  · have hb := (Blk.new w #[.int .i64 0, .int .i64 9223372036854775807, .int .i64 0] 62).alloc (.cells (gateCells (Gate.new most units) 0 (.slice none 0 0) (.slice none 0 0) (.slice (some ⟨w.heap.size, 0, none⟩) 1 1)) 73)
    exact Tab.ofCur (K := GuestK) (xs := [⟨0, 9223372036854775807, 0⟩]) (cap := 1) hb (by simp) (by simp [maxLen]) rfl rfl

theorem new_no (most units : Int) (w : World) (h : most < 1 ∨ 16 < most ∨ units < 1 ∨ 64 < units) :
    Rets Try.prog 16 #[.int .i64 most, .int .i64 units] w fun u w' => u = .tuple #[.pointer none, .int .i64 150] ∧ Tch [] w w' := by
  unfold Rets
  by_cases h1 : most < 1
  · go_enter Try.func16, Try.ntmps16
    go_wp2
    go_ret2
    exact ⟨_, rfl, rfl, Tch.refl _ _⟩
  have d1 : decide (most < 1) = false := by simp; omega
  by_cases h2 : 16 < most
  · go_enter Try.func16, Try.ntmps16
    go_wp2
    go_ret2
    exact ⟨_, rfl, rfl, Tch.refl _ _⟩
  have d2 : decide (16 < most) = false := by simp; omega
  by_cases h3 : units < 1
  · go_enter Try.func16, Try.ntmps16
    go_wp2
    go_ret2
    exact ⟨_, rfl, rfl, Tch.refl _ _⟩
  have d3 : decide (units < 1) = false := by simp; omega
  have h4 : 64 < units := by omega
  go_enter Try.func16, Try.ntmps16
  go_wp2
  go_ret2
  exact ⟨_, rfl, rfl, Tch.refl _ _⟩

def statCells (s : Gate) (vI vQ : Value) : Array Value := #[vI, vQ, .int .i64 s.logged, .int .i64 s.units, .int .i64 s.most]

/-- What Stat hands back. -/
def StatPost (w : World) (b : Nat) (F : List Nat) (s : Gate) (v : Value) (w' : World) : Prop :=
  ∃ vI vQ, v = .agg (statCells s vI vQ) ∧ GateAt w' b F s ∧ Tch F w w' ∧ Tab IntK w' vI s.inside ∧ Tab IntK w' vQ (s.queue.map (·.id)) ∧
    (∀ k, vI.ownBlock = some k → w.heap.size ≤ k) ∧ (∀ k, vQ.ownBlock = some k → w.heap.size ≤ k ∧ vI.ownBlock ≠ some k)

/-- The round's head in Stat. -/
def StatRel (w0 : World) (b : Nat) (vq vi vt : Value) (s : Gate) (n0 n1 : Nat) (vI : Value) (k : Nat) (wr : World) : Prop :=
  ∃ vQ, GateIs wr b vq vi vt s 1 ∧ Blk wr n0 (statCells { s with logged := 0, units := 0, most := 0 } (.slice none 0 0) (.slice none 0 0)) 33 ∧ Blk wr n1 (statCells s vI vQ) 33 ∧ Tab IntK wr vI s.inside ∧ Tab IntK wr vQ ((s.queue.map (·.id)).take k) ∧
    vI.ownBlock ≠ some n0 ∧ vI.ownBlock ≠ some n1 ∧ vQ.ownBlock ≠ some n0 ∧ vQ.ownBlock ≠ some n1 ∧
    (∀ k, vI.ownBlock = some k → w0.heap.size ≤ k) ∧ (∀ k, vQ.ownBlock = some k → w0.heap.size ≤ k ∧ vI.ownBlock ≠ some k) ∧ Tch (foot b vq vi vt) w0 wr

theorem ids_cells {w : World} {g n cap k : Nat} {xs : List G} {x : G} (h : Tab GuestK w (.slice (some ⟨g, 0, none⟩) n cap) xs) (hx : xs[k]? = some x) :
    w.cell? ⟨g, k * 3, none⟩ = some (.int .i64 x.id) ∧ w.cell? ⟨g, k * 3 + 1, none⟩ = some (.int .i64 x.stamp) ∧ w.cell? ⟨g, k * 3 + 2, none⟩ = some (.int .i64 x.last) := guest_cells h hx

set_option maxRecDepth 100000 in
set_option maxHeartbeats 2000000 in
theorem stat_any (b : Nat) (F : List Nat) (s : Gate) (w : World) (hg : GateAt w b F s) (hf : Fits s) :
    Rets Try.prog 19 #[.pointer (some ⟨b, 0, none⟩)] w fun u w' => StatPost w b F s u w' := by
  obtain ⟨vq, vi, vt, hg, rfl⟩ := hg
  unfold Rets
  have fi := hf.inside
  have fq := hf.queue
  have h0 := hg.alloc (.cells #[.slice none 0 0, .slice none 0 0, .int .i64 0, .int .i64 0, .int .i64 0] 33)
  go_enter_defers Try.func19, Try.ntmps19
  go_wp2_with (go_at_call 36; refine (lock_free Try.muLib ⟨b, 0, none⟩ _ ?_ ?_).mono ?_; (exact h0.blk.cell 0); (exact h0.blk.frozen 0); rintro e w' ⟨rfl, rfl⟩)
  have hbl := hg.blk.lt
  have hnb : w.heap.size ≠ b := by omega
  have h1 := h0.setLock 1
  have hn0 := (Blk.new w (statCells { s with logged := 0, units := 0, most := 0 } (.slice none 0 0) (.slice none 0 0)) 33).other (p := ⟨b, 0, none⟩) hnb (.int .i32 1)
  have hT1 : Tch (foot b vq vi vt) w ((w.alloc (.cells #[.slice none 0 0, .slice none 0 0, .int .i64 0, .int .i64 0, .int .i64 0] 33)).setCell ⟨b, 0, none⟩ (.int .i32 1)) := ((Tch.refl _ _).alloc _).setCell (.inl (by simp [foot])) _
  have hnf : w.heap.size ∉ foot b vq vi vt := fun h => by have := hg.mem _ h; omega
  obtain ⟨n0, hn⟩ : ∃ n0, n0 = w.heap.size := ⟨_, rfl⟩
  rw [← hn] at hn0 hnf ⊢
  have hn0w : w.heap.size ≤ n0 := by omega
  have hFw : ∀ y ∈ foot b vq vi vt, y < w.heap.size := hg.mem
  clear h0 hg hnb
  have HN := Lib.hid hn
  clear hn
  change Blk ((w.alloc (.cells #[.slice none 0 0, .slice none 0 0, .int .i64 0, .int .i64 0, .int .i64 0] 33)).setCell ⟨b, 0, none⟩ (.int .i32 1)) n0 _ 33 at hn0
  generalize (w.alloc (.cells #[.slice none 0 0, .slice none 0 0, .int .i64 0, .int .i64 0, .int .i64 0] 33)).setCell ⟨b, 0, none⟩ (.int .i32 1) = w1 at *
  obtain ⟨e0, e2, e3, e4, e5, e6, e7, e8, e9⟩ := gate_cells h1.blk
  have hbl1 := h1.blk.lt
  refine wp_region_text (by kernel_rfl) (by kernel_rfl) ?_
  go_wp2
  refine ⟨by kernel_rfl, ?_⟩
  go_wp2
  have h2 := (h1.alloc (.cells (statCells s (.slice none 0 0) (.slice none 0 0)) 33)).drew
  have hn02 := (hn0.alloc (.cells (statCells s (.slice none 0 0) (.slice none 0 0)) 33)).drew
  have hn1 := (Blk.new w1 (statCells s (.slice none 0 0) (.slice none 0 0)) 33).drew
  have hT2 := (hT1.alloc (.cells (statCells s (.slice none 0 0) (.slice none 0 0)) 33)).drew
  have hn1f : w1.heap.size ∉ foot b vq vi vt := fun h => by have := h1.mem _ h; omega
  have hn01 : n0 ≠ w1.heap.size := by have := hn0.lt; omega
  have hn1w : w.heap.size ≤ w1.heap.size := hT1.size
  clear e0 e2 e3 e4 e5 e6 e7 e8 e9 hT1 h1 hn0 hbl1
  change Blk _ n0 _ 33 at hn02
  generalize hn1e : w1.heap.size = n1 at *
  generalize hw2 : (w1.alloc (.cells (statCells s (.slice none 0 0) (.slice none 0 0)) 33)).drew = w2 at *
  change Code.wp _ _ _ _ (w1.alloc (.cells (statCells s (.slice none 0 0) (.slice none 0 0)) 33)).drew
  rw [hw2]
  clear hw2 hn1e
  have hnb1 : n1 ≠ b := fun h => hn1f (by rw [h]; simp [foot])
  have hnb0 : n0 ≠ b := fun h => hnf (by rw [h]; simp [foot])
  obtain ⟨e0, e2, e3, e4, e5, e6, e7, e8, e9⟩ := gate_cells h2.blk
  have k0 : w2.cell? ⟨n1, 0, none⟩ = some (.slice none 0 0) := hn1.cell 0
  have k3 : ∀ j, w2.frozen? ⟨n1, j, none⟩ = false := fun j => hn1.frozen j
  refine wp_region_text (by kernel_rfl) (by kernel_rfl) ?_
  go_wp2_with (at_builtin; refine wpList_append_both (v := .slice none 0 0) (u := vi) intAt rfl _ _ rfl rfl (Tab.nil IntK _) rfl h2.drew.i (by simp [maxLen]; omega) (by simp; omega) ?_; intro vI w3 ht3 hg3 hfr3; have hg3' : w2.drew.grownBy w3 none := hg3; have hT3 := (Tch.ofGrown hg3'); have hn13 := hn1.drew.touch hT3 (by simp); have k0' := hn13.cell 0; have k3' : ∀ j, w3.frozen? ⟨n1, j, none⟩ = false := fun j => hn13.frozen j; obtain ⟨aI, cI, hvI⟩ := ht3.slice; subst hvI)
  refine ⟨by kernel_rfl, ?_⟩
  have hI1 : ∀ k, (Value.slice aI s.inside.length cI).ownBlock = some k → k = w2.heap.size := fun k hk => by
    rcases hfr3 k hk with h | h
    · simp [Value.ownBlock] at h
    · exact h
  have hn1l := hn1.lt
  have hn0l := hn02.lt
  have hstart : StatRel w b vq vi vt s n0 n1 (.slice aI s.inside.length cI) 0 (w3.setCell ⟨n1, 0, none⟩ (.slice aI s.inside.length cI)) := by
    refine ⟨.slice none 0 0, ?_, ((hn02.drew.touch hT3 (by simp)).other (p := ⟨n1, 0, none⟩) hn01 _), hn13.set 0 _, ht3.other (p := ⟨n1, 0, none⟩) (fun h => by have h9 : n1 = w2.heap.size := hI1 _ h; omega) _, Tab.nil IntK _,
      fun h => by have := hI1 _ h; omega, fun h => by have := hI1 _ h; omega, by simp [Value.ownBlock], by simp [Value.ownBlock], fun k hk => by have := hI1 _ hk; have := hT2.size; omega, by simp [Value.ownBlock], ?_⟩
    · exact (h2.drew.kept hT3 (by simp)).kept ((Tch.refl [n1] w3).setCell (p := ⟨n1, 0, none⟩) (.inl (by simp)) _) (fun k hk hm => hn1f (by simp at hm; exact hm ▸ hk))
    · exact ((hT2.drew.trans hT3 (by simp)).setCell (p := ⟨n1, 0, none⟩) (.inr hn1w) _)
  have HS := Lib.hid hstart
  have h3 : GateIs (w3.setCell ⟨n1, 0, none⟩ (.slice aI s.inside.length cI)) b vq vi vt s 1 :=
    (h2.drew.kept hT3 (by simp)).kept ((Tch.refl [n1] w3).setCell (p := ⟨n1, 0, none⟩) (.inl (by simp)) _) (fun k hk hm => hn1f (by simp at hm; exact hm ▸ hk))
  clear e0 e2 e3 e4 e5 e6 e7 e8 e9 k0 k3 k0' k3' hstart hT3 hg3 hg3' hfr3 ht3 hn13 hI1 hn1l hn0l h2 hn02 hn1 hT2
  generalize w3.setCell ⟨n1, 0, none⟩ (.slice aI s.inside.length cI) = w4 at *
  obtain ⟨aq, cq, hvq⟩ := h3.q.slice
  subst hvq
  obtain ⟨e0, e2, e3, e4, e5, e6, e7, e8, e9⟩ := gate_cells h3.blk
  go_wp2_with fail
  clear e0 e2 e3 e4 e5 e6 e7 e8 e9 h3
  go_loopw [42] (fun i wr => ∃ k : Nat, k ≤ s.queue.length ∧ i = .int .i64 k ∧ StatRel w b (.slice aq s.queue.length cq) vi vt s n0 n1 (.slice aI s.inside.length cI) k wr) (fun i _ => s.queue.length - (intOf i).toNat)
  case atStart => exact ⟨0, Nat.zero_le _, rfl, HS.out⟩
  case round =>
    obtain ⟨k, hk, rfl, vQ, h4, hn0, hn1, htI, htQ, i0, i1, q0, q1, hI, hQ, hT⟩ := hrel
    clear HS
    obtain ⟨aQ, cQ, hvQ⟩ := htQ.slice
    have hlQ : ((s.queue.map (·.id)).take k).length = k := by simp [hk]
    rw [hlQ] at hvQ
    subst hvQ
    have HI := Lib.hid hI
    have HQ := Lib.hid hQ
    have HLQ := Lib.hid hlQ
    clear hI hQ hlQ
    have hn0l := hn0.lt
    have hn1l := hn1.lt
    have k1 : wr.cell? ⟨n1, 1, none⟩ = some (.slice aQ k cQ) := hn1.cell 1
    have k1f : ∀ j, wr.frozen? ⟨n1, j, none⟩ = false := fun j => hn1.frozen j
    by_cases hlt : k < s.queue.length
    · obtain ⟨x, hx⟩ : ∃ x, s.queue[k]? = some x := ⟨_, List.getElem?_eq_getElem hlt⟩
      rcases h4.q.form with ⟨_, h0⟩ | ⟨gq, cap, hv, hcap, _, hgl⟩
      · rw [h0] at hlt; simp at hlt
      cases hv
      obtain ⟨d0, d1, d2⟩ := guest_cells h4.q hx
      have hsucc : (s.queue.map (·.id)).take k ++ [x.id] = (s.queue.map (·.id)).take (k + 1) := by
        rw [List.take_succ_eq_append_getElem (by simpa using hlt)]
        have := List.getElem?_eq_some_iff.1 hx
        obtain ⟨_, rfl⟩ := this
        simp
      have HSU := Lib.hid hsucc
      clear hx hsucc
      go_wp2_with (at_builtin; refine wpList_append_tab (v := .slice aQ k cQ) intAt rfl _ _ rfl rfl ((htQ.alloc _).alloc _) _ _ _ [x.id] rfl rfl (by exact news_one IntK x.id (Blk.last _ _ _ (by simp))) (by rw [HLQ.out]; simp [maxLen]; omega) (by rw [HLQ.out]; simp; omega) ?_; intro vQ' w5 ht5 hg5 hfr5; obtain ⟨a5, c5, hv5⟩ := ht5.slice; rw [show ((s.queue.map (·.id)).take k ++ [x.id]).length = k + 1 from by rw [List.length_append, HLQ.out]; rfl] at hv5; subst hv5; have hb5 := ((hn1.alloc (.cells #[.int .i64 x.id, .int .i64 x.stamp, .int .i64 x.last] 62)).alloc (.cells #[.int .i64 x.id] 3)).grown hg5 (Ne.symm q1); have k5 := hb5.cell 1; have k5f : ∀ j, w5.frozen? ⟨n1, j, none⟩ = false := fun j => hb5.frozen j)
      have hT5 := (((Tch.refl ((Value.slice aQ k cQ).ownBlock.toList) wr).alloc (.cells #[.int .i64 x.id, .int .i64 x.stamp, .int .i64 x.last] 62)).alloc (.cells #[.int .i64 x.id] 3)).grown hg5 (fun k hk => .inl (by rw [hk]; simp))
      have hnew : NewOr wr (.slice aQ k cQ) (.slice a5 (k + 1) c5) := hfr5.newOr (by simp; omega)
      have hQf : ∀ y, (Value.slice aQ k cQ).ownBlock = some y → w.heap.size ≤ y := fun y hy => (HQ.out y hy).1
      have hfoot : ∀ y ∈ foot b (.slice (some ⟨gq, 0, none⟩) s.queue.length cq) vi vt, y ∉ (Value.slice aQ k cQ).ownBlock.toList := fun y hy hm => by
        have h1 := hQf y (by simpa using hm)
        have h2 := hFw y hy
        omega
      have q1' : (Value.slice a5 (k + 1) c5).ownBlock ≠ some n1 := fun h => by
        rcases hnew n1 h with h1 | h1
        · exact q1 h1
        · omega
      have q0' : (Value.slice a5 (k + 1) c5).ownBlock ≠ some n0 := fun h => by
        rcases hnew n0 h with h1 | h1
        · exact q0 h1
        · omega
      refine ⟨⟨k + 1, by omega, by go_num, .slice a5 (k + 1) c5, ?_, (hn0.touch hT5 (fun hm => q0 (by simpa using hm))).other (p := ⟨n1, 1, none⟩) hn01 _, hb5.set 1 _, (htI.touch hT5 (fun y hy hm => (HQ.out y (by simpa using hm)).2 hy)).other (p := ⟨n1, 1, none⟩) i1 _,
        by rw [← HSU.out]; exact ht5.other (p := ⟨n1, 1, none⟩) q1' _, i0, i1, q0', q1', HI.out, fun y hy => ?_, ?_⟩, by simp [intOf]; omega⟩
      · exact (h4.kept hT5 hfoot).kept ((Tch.refl [n1] w5).setCell (p := ⟨n1, 1, none⟩) (.inl (by simp)) _) (fun y hy hm => hn1f (by simp at hm; exact hm ▸ hy))
      · rcases hnew y hy with h1 | h1
        · exact HQ.out y h1
        · exact ⟨by have := hT.size; omega, fun h => by have := htI.block_lt h; omega⟩
      · exact (hT.trans hT5 (fun y hy => .inr (hQf y (by simpa using hy)))).setCell (p := ⟨n1, 1, none⟩) (.inr hn1w) _
    · obtain rfl : k = s.queue.length := by omega
      have HQ2 := Lib.hid (show (s.queue.map (·.id)).take s.queue.length = s.queue.map (·.id) from by rw [List.take_of_length_le (by simp)])
      have k0 : wr.cell? ⟨n1, 0, none⟩ = some (.slice aI s.inside.length cI) := hn1.cell 0
      have k2 : wr.cell? ⟨n1, 2, none⟩ = some (.int .i64 s.logged) := hn1.cell 2
      have k3 : wr.cell? ⟨n1, 3, none⟩ = some (.int .i64 s.units) := hn1.cell 3
      have k4 : wr.cell? ⟨n1, 4, none⟩ = some (.int .i64 s.most) := hn1.cell 4
      have m0 := hn0.cell 0
      have m1 := hn0.cell 1
      have m2 := hn0.cell 2
      have m3 := hn0.cell 3
      have m4 := hn0.cell 4
      have mf : ∀ j, wr.frozen? ⟨n0, j, none⟩ = false := fun j => hn0.frozen j
      simp [statCells] at m0 m1 m2 m3 m4
      go_wp2
      have hT6 : Tch [n0] wr (((((wr.setCell ⟨n0, 0, none⟩ (.slice aI s.inside.length cI)).setCell ⟨n0, 1, none⟩ (.slice aQ s.queue.length cQ)).setCell ⟨n0, 2, none⟩ (.int .i64 s.logged)).setCell ⟨n0, 3, none⟩ (.int .i64 s.units)).setCell ⟨n0, 4, none⟩ (.int .i64 s.most)) :=
        (((((Tch.refl [n0] wr).setCell (.inl (by simp)) _).setCell (.inl (by simp)) _).setCell (.inl (by simp)) _).setCell (.inl (by simp)) _).setCell (.inl (by simp)) _
      have hn06 : Blk (((((wr.setCell ⟨n0, 0, none⟩ (.slice aI s.inside.length cI)).setCell ⟨n0, 1, none⟩ (.slice aQ s.queue.length cQ)).setCell ⟨n0, 2, none⟩ (.int .i64 s.logged)).setCell ⟨n0, 3, none⟩ (.int .i64 s.units)).setCell ⟨n0, 4, none⟩ (.int .i64 s.most)) n0 (statCells s (.slice aI s.inside.length cI) (.slice aQ s.queue.length cQ)) 33 :=
        ((((hn0.set 0 (.slice aI s.inside.length cI)).set 1 (.slice aQ s.queue.length cQ)).set 2 (.int .i64 s.logged)).set 3 (.int .i64 s.units)).set 4 (.int .i64 s.most)
      clear k0 k1 k1f k2 k3 k4 m0 m1 m2 m3 m4 mf
      generalize ((((wr.setCell ⟨n0, 0, none⟩ (.slice aI s.inside.length cI)).setCell ⟨n0, 1, none⟩ (.slice aQ s.queue.length cQ)).setCell ⟨n0, 2, none⟩ (.int .i64 s.logged)).setCell ⟨n0, 3, none⟩ (.int .i64 s.units)).setCell ⟨n0, 4, none⟩ (.int .i64 s.most) = w6 at *
      have h6 := h4.kept hT6 (fun y hy hm => hnf (by simp at hm; exact hm ▸ hy))
      have htI6 := htI.touch hT6 (fun y hy hm => i0 (by simp at hm; exact hm ▸ hy))
      have htQ6 := htQ.touch hT6 (fun y hy hm => q0 (by simp at hm; exact hm ▸ hy))
      rw [HQ2.out] at htQ6
      have hT7 := hT.trans hT6 (fun y hy => .inr (by simp at hy; omega))
      have bI : (Value.slice aI s.inside.length cI).ownBlock ≠ some b := fun h => by have := HI.out b h; omega
      have bQ : (Value.slice aQ s.queue.length cQ).ownBlock ≠ some b := fun h => by have := (HQ.out b h).1; omega
      refine leaves_cons (f := 37) (args := #[.pointer (some ⟨b, 0, none⟩)]) (by simp) (by simp [go_sem]) ?_
      refine (unlock_deferred Try.muLib ⟨b, 0, none⟩ .returning _ (h6.blk.cell 0) (h6.blk.frozen 0)).mono ?_
      rintro e u' w'' ⟨rfl, rfl, rfl⟩
      exact ⟨_, results_cell_row (P := Try.prog) rfl _ _ n0 33 _ (0, 0) _ rfl (hn06.other (p := ⟨b, 0, none⟩) hnb0 _) Try.underlying33 rfl (by kernel_rfl), _, rfl, _, _, rfl, ⟨_, _, _, h6.setLock 0, rfl⟩, hT7.setCell (.inl (by simp [foot])) _, htI6.other (p := ⟨b, 0, none⟩) bI _, htQ6.other (p := ⟨b, 0, none⟩) bQ _, HI.out, HQ.out⟩
end Go.Proofs.Ytdmgbfkioghkeaa
