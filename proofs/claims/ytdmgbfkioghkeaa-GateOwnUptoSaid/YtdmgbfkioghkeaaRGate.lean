/-
  The document's gate, walked: its methods.
-/
import Derived.Test.YtdmgbfkioghkeaaRList
import Derived.Test.YtdmgbfkioghkeaaGAdmit
namespace Go.Proofs.Ytdmgbfkioghkeaa
open Go.RowKit Go.Ytdmgbfkioghkeaa Go.Ytdmgbfkioghkeaa.Gt Go.Ytdmgbfkioghkeaa.Reg

def refCells (r : RGate) (vq vi : Value) : Array Value :=
  #[.int .i64 r.most, .int .i64 r.units, .int .i64 r.logged, .int .i64 r.clock, .int .i64 r.sweeper, .int .i64 r.stamp, vq, vi]

structure RefIs (w : World) (b : Nat) (vq vi : Value) (r : RGate) : Prop where
  blk : Blk w b (refCells r vq vi) 76
  q : Tab OneK w vq r.queue
  i : Tab OneK w vi r.inside
  bq : vq.ownBlock ≠ some b
  bi : vi.ownBlock ≠ some b
  qi : ∀ k, vq.ownBlock = some k → vi.ownBlock ≠ some k

def rfoot (b : Nat) (vq vi : Value) : List Nat := b :: (vq.ownBlock.toList ++ vi.ownBlock.toList)
def RefAt (w : World) (b : Nat) (F : List Nat) (r : RGate) : Prop := ∃ vq vi, RefIs w b vq vi r ∧ F = rfoot b vq vi
def RefPost (w : World) (b : Nat) (F : List Nat) (r : RGate) (w' : World) : Prop :=
  ∃ F', RefAt w' b F' r ∧ Tch F w w' ∧ ∀ k ∈ F', k ∈ F ∨ w.heap.size ≤ k

structure RFits (r : RGate) : Prop where
  queue : r.queue.length ≤ 64
  inside : r.inside.length ≤ 64
  stamp0 : 0 ≤ r.stamp
  stamp1 : r.stamp ≤ 1000000000000000000
  clock0 : 0 ≤ r.clock
  clock1 : r.clock ≤ 1000000000000000000
  logged0 : 0 ≤ r.logged
  logged1 : r.logged ≤ 1000000000000000000
  most1 : r.most ≤ 16

theorem RefIs.mem {w : World} {b : Nat} {vq vi : Value} {r : RGate} (h : RefIs w b vq vi r) : ∀ k ∈ rfoot b vq vi, k < w.heap.size := by
  intro k hk
  simp only [rfoot, List.mem_cons, List.mem_append, Option.mem_toList] at hk
  rcases hk with rfl | hk | hk
  · exact h.blk.lt
  · exact h.q.block_lt hk
  · exact h.i.block_lt hk
theorem RefIs.kept {w w' : World} {b : Nat} {vq vi : Value} {r : RGate} (h : RefIs w b vq vi r) {S : List Nat} (ht : Tch S w w') (hS : ∀ k ∈ rfoot b vq vi, k ∉ S) : RefIs w' b vq vi r :=
  ⟨h.blk.touch ht (hS _ (by simp [rfoot])), h.q.touch ht (fun g hg => hS g (by simp [rfoot, hg])), h.i.touch ht (fun g hg => hS g (by simp [rfoot, hg])), h.bq, h.bi, h.qi⟩
theorem RefIs.drew {w : World} {b : Nat} {vq vi : Value} {r : RGate} (h : RefIs w b vq vi r) : RefIs w.drew b vq vi r := ⟨h.blk.drew, h.q.drew, h.i.drew, h.bq, h.bi, h.qi⟩
theorem RefIs.alloc {w : World} {b : Nat} {vq vi : Value} {r : RGate} (h : RefIs w b vq vi r) (o : Obj) : RefIs (w.alloc o) b vq vi r := ⟨h.blk.alloc o, h.q.alloc o, h.i.alloc o, h.bq, h.bi, h.qi⟩

theorem ref_cells {w : World} {b : Nat} {r : RGate} {vq vi : Value} (h : Blk w b (refCells r vq vi) 76) :
    w.cell? ⟨b, 0, none⟩ = some (.int .i64 r.most) ∧ w.cell? ⟨b, 1, none⟩ = some (.int .i64 r.units) ∧ w.cell? ⟨b, 2, none⟩ = some (.int .i64 r.logged) ∧ w.cell? ⟨b, 3, none⟩ = some (.int .i64 r.clock) ∧
      w.cell? ⟨b, 4, none⟩ = some (.int .i64 r.sweeper) ∧ w.cell? ⟨b, 5, none⟩ = some (.int .i64 r.stamp) ∧ w.cell? ⟨b, 6, none⟩ = some vq ∧ w.cell? ⟨b, 7, none⟩ = some vi :=
  ⟨h.cell 0, h.cell 1, h.cell 2, h.cell 3, h.cell 4, h.cell 5, h.cell 6, h.cell 7⟩

theorem refPost_refl {w w' : World} {b : Nat} {vq vi : Value} {r : RGate} (h : RefIs w' b vq vi r) (hT : Tch (rfoot b vq vi) w w') : RefPost w b (rfoot b vq vi) r w' :=
  ⟨_, ⟨_, _, h, rfl⟩, hT, fun _ hk => .inl hk⟩

/-- One of the two lists is a new one. -/
theorem RefIs.newInside {w w' : World} {b : Nat} {vq vi u : Value} {r : RGate} {ys : List G} (h : RefIs w b vq vi r) (hn : NewList OneK w ys u w') (r' : RGate)
    (hr : (refCells r vq vi).setIfInBounds 7 u = refCells r' vq u) (hq : r'.queue = r.queue) (hi : r'.inside = ys) :
    RefIs (w'.setCell ⟨b, 7, none⟩ u) b vq u r' ∧ Tch (rfoot b vq vi) w (w'.setCell ⟨b, 7, none⟩ u) ∧ ∀ k ∈ rfoot b vq u, k ∈ rfoot b vq vi ∨ w.heap.size ≤ k := by
  have hub : u.ownBlock ≠ some b := fun h1 => by have := hn.2.2 b h1; have := h.blk.lt; omega
  refine ⟨⟨hr ▸ (h.blk.touch hn.2.1 (by simp)).set 7 u, hq ▸ (h.q.touch hn.2.1 (by simp)).other h.bq _, hi ▸ hn.1.other hub _, h.bq, hub, fun k hk hu => ?_⟩, (hn.2.1.mono (by simp)).setCell (.inl (by simp [rfoot])) _, fun k hk => ?_⟩
  · have := hn.2.2 k hu; have := h.q.block_lt hk; omega
  · simp only [rfoot, List.mem_cons, List.mem_append, Option.mem_toList] at hk ⊢
    rcases hk with hk | hk | hk
    · exact .inl (.inl hk)
    · exact .inl (.inr (.inl hk))
    · exact .inr (hn.2.2 k hk)
theorem RefIs.newQueue {w w' : World} {b : Nat} {vq vi u : Value} {r : RGate} {ys : List G} (h : RefIs w b vq vi r) (hn : NewList OneK w ys u w') (r' : RGate)
    (hr : (refCells r vq vi).setIfInBounds 6 u = refCells r' u vi) (hq : r'.queue = ys) (hi : r'.inside = r.inside) :
    RefIs (w'.setCell ⟨b, 6, none⟩ u) b u vi r' ∧ Tch (rfoot b vq vi) w (w'.setCell ⟨b, 6, none⟩ u) ∧ ∀ k ∈ rfoot b u vi, k ∈ rfoot b vq vi ∨ w.heap.size ≤ k := by
  have hub : u.ownBlock ≠ some b := fun h1 => by have := hn.2.2 b h1; have := h.blk.lt; omega
  refine ⟨⟨hr ▸ (h.blk.touch hn.2.1 (by simp)).set 6 u, hq ▸ hn.1.other hub _, hi ▸ (h.i.touch hn.2.1 (by simp)).other h.bi _, hub, h.bi, fun k hk hu => ?_⟩, (hn.2.1.mono (by simp)).setCell (.inl (by simp [rfoot])) _, fun k hk => ?_⟩
  · have := hn.2.2 k hk; have := h.i.block_lt hu; omega
  · simp only [rfoot, List.mem_cons, List.mem_append, Option.mem_toList] at hk ⊢
    rcases hk with hk | hk | hk
    · exact .inl (.inl hk)
    · exact .inr (hn.2.2 k hk)
    · exact .inl (.inr (.inr hk))

theorem rswept_any (b : Nat) (F : List Nat) (r : RGate) (w : World) (hg : RefAt w b F r) :
    Rets Try.prog 52 #[.pointer (some ⟨b, 0, none⟩)] w fun u w' => u = .tuple #[] ∧ RefPost w b F r.swept w' := by
  obtain ⟨vq, vi, hg, rfl⟩ := hg
  unfold Rets
  obtain ⟨c0, c1, c2, c3, c4, c5, c6, c7⟩ := ref_cells hg.blk
  have f0 : ∀ j, w.frozen? ⟨b, j, none⟩ = false := fun j => hg.blk.frozen j
  go_enter Try.func52, Try.ntmps52
  go_wp2
  go_end0
  exact ⟨_, rfl, rfl, refPost_refl ⟨hg.blk.set 2 (.int .i64 0), hg.q.other hg.bq _, hg.i.other hg.bi _, hg.bq, hg.bi, hg.qi⟩ ((Tch.refl _ _).setCell (.inl (by simp [rfoot])) _)⟩

def RNewPost (w : World) (most units : Int) (v : Value) (w' : World) : Prop :=
  ∃ b F, v = .tuple #[.pointer (some ⟨b, 0, none⟩), .int .i64 0] ∧ RefAt w' b F (RGate.new most units) ∧ Tch [] w w' ∧ ∀ k ∈ F, w.heap.size ≤ k

theorem rnew_yes (most units : Int) (w : World) (h1 : 1 ≤ most) (h2 : most ≤ 16) (h3 : 1 ≤ units) (h4 : units ≤ 64) :
    Rets Try.prog 17 #[.int .i64 most, .int .i64 units] w fun u w' => RNewPost w most units u w' := by
  unfold Rets
  have d1 : decide (most < 1) = false := by simp; omega
  have d2 : decide (16 < most) = false := by simp; omega
  have d3 : decide (units < 1) = false := by simp; omega
  have d4 : decide (64 < units) = false := by simp; omega
  go_enter Try.func17, Try.ntmps17
  go_wp2
  go_ret2
  exact ⟨_, rfl, w.heap.size, [w.heap.size], rfl, ⟨.slice none 0 0, .slice none 0 0, ⟨Blk.last _ _ _ rfl, Tab.nil _ _, Tab.nil _ _, by simp [Value.ownBlock], by simp [Value.ownBlock], by simp [Value.ownBlock]⟩, by simp [rfoot, Value.ownBlock]⟩,
    (Tch.refl _ _).alloc _, by simp⟩

theorem rnew_no (most units : Int) (w : World) (h : most < 1 ∨ 16 < most ∨ units < 1 ∨ 64 < units) :
    Rets Try.prog 17 #[.int .i64 most, .int .i64 units] w fun u w' => u = .tuple #[.pointer none, .int .i64 150] ∧ Tch [] w w' := by
  unfold Rets
  by_cases h1 : most < 1
  · go_enter Try.func17, Try.ntmps17
    go_wp2
    go_ret2
    exact ⟨_, rfl, rfl, Tch.refl _ _⟩
  have d1 : decide (most < 1) = false := by simp; omega
  by_cases h2 : 16 < most
  · go_enter Try.func17, Try.ntmps17
    go_wp2
    go_ret2
    exact ⟨_, rfl, rfl, Tch.refl _ _⟩
  have d2 : decide (16 < most) = false := by simp; omega
  by_cases h3 : units < 1
  · go_enter Try.func17, Try.ntmps17
    go_wp2
    go_ret2
    exact ⟨_, rfl, rfl, Tch.refl _ _⟩
  have d3 : decide (units < 1) = false := by simp; omega
  have h4 : 64 < units := by omega
  go_enter Try.func17, Try.ntmps17
  go_wp2
  go_ret2
  exact ⟨_, rfl, rfl, Tch.refl _ _⟩

set_option maxRecDepth 100000 in
set_option maxHeartbeats 1000000 in
theorem rend_any (b : Nat) (F : List Nat) (r : RGate) (id : Int) (lg : Bool) (w : World) (hg : RefAt w b F r) (hf : RFits r) :
    Rets Try.prog 51 #[.pointer (some ⟨b, 0, none⟩), .int .i64 id, .bool lg] w fun u w' => u = .int .i64 (r.fin id lg).1 ∧ RefPost w b F (r.fin id lg).2 w' := by
  obtain ⟨vq, vi, hg, rfl⟩ := hg
  unfold Rets
  obtain ⟨c0, c1, c2, c3, c4, c5, c6, c7⟩ := ref_cells hg.blk
  have b1 := hf.logged0
  have b2 := hf.logged1
  have b3 := hf.inside
  cases hat : atId r.inside id with
  | none =>
    have HP := Lib.hid (by unfold RGate.fin; rw [hat] : r.fin id lg = (152, r))
    have HA := Lib.hid hat
    clear hat
    go_enter Try.func51, Try.ntmps51
    go_wp2_with (go_at_call 61; refine (rat_any _ r.inside id _ hg.i).use ?_; rintro _ w1 ⟨rfl, rfl⟩; rw [HA.out]; dsimp only [ix])
    go_ret
    exact ⟨_, rfl, by rw [HP.out]; rfl, by rw [HP.out]; exact refPost_refl hg (Tch.refl _ _)⟩
  | some i =>
    have hil := atId_lt hat
    have HP := Lib.hid (by unfold RGate.fin; rw [hat] : r.fin id lg = (0, { r with inside := r.inside.eraseIdx i, logged := if lg then r.logged + 1 else r.logged }))
    have HA := Lib.hid hat
    clear hat
    cases lg with
    | false =>
      go_enter Try.func51, Try.ntmps51
      go_wp2_with (first
        | (go_at_call 61; refine (rat_any _ r.inside id _ hg.i).use ?_; rintro _ w1 ⟨rfl, rfl⟩; rw [HA.out]; dsimp only [ix])
        | (go_at_call 49; refine (without_any _ r.inside i i rfl _ hg.i (by omega)).use ?_; rintro u w2 hn2; have hb2 := hg.blk.touch hn2.2.1 (by simp); obtain ⟨e0, e1, e2, e3, e4, e5, e6, e7⟩ := ref_cells hb2; have e10 : ∀ j, w2.frozen? ⟨b, j, none⟩ = false := fun j => hb2.frozen j; obtain ⟨au, cu, hu⟩ := hn2.1.slice; subst hu))
      obtain ⟨h3, hT3, hF3⟩ := hg.newInside hn2 { r with inside := r.inside.eraseIdx i } rfl rfl rfl
      go_ret
      exact ⟨_, rfl, by rw [HP.out]; rfl, _, ⟨_, _, by rw [HP.out]; exact h3, rfl⟩, hT3, hF3⟩
    | true =>
      go_enter Try.func51, Try.ntmps51
      go_wp2_with (first
        | (go_at_call 61; refine (rat_any _ r.inside id _ hg.i).use ?_; rintro _ w1 ⟨rfl, rfl⟩; rw [HA.out]; dsimp only [ix])
        | (go_at_call 49; refine (without_any _ r.inside i i rfl _ hg.i (by omega)).use ?_; rintro u w2 hn2; have hb2 := hg.blk.touch hn2.2.1 (by simp); obtain ⟨e0, e1, e2, e3, e4, e5, e6, e7⟩ := ref_cells hb2; have e10 : ∀ j, w2.frozen? ⟨b, j, none⟩ = false := fun j => hb2.frozen j; obtain ⟨au, cu, hu⟩ := hn2.1.slice; subst hu))
      obtain ⟨h3, hT3, hF3⟩ := hg.newInside hn2 { r with inside := r.inside.eraseIdx i } rfl rfl rfl
      go_ret
      exact ⟨_, rfl, by rw [HP.out]; rfl, _, ⟨_, _, by rw [HP.out]; exact ⟨h3.blk.set 2 (.int .i64 (r.logged + 1)), h3.q.other h3.bq _, h3.i.other h3.bi _, h3.bq, h3.bi, h3.qi⟩, rfl⟩, hT3.setCell (.inl (by simp [rfoot])) _, hF3⟩

set_option maxRecDepth 100000 in
set_option maxHeartbeats 1000000 in
theorem rpicked_any (b : Nat) (F : List Nat) (r : RGate) (id : Int) (w : World) (hg : RefAt w b F r) (hf : RFits r) :
    Rets Try.prog 54 #[.pointer (some ⟨b, 0, none⟩), .int .i64 id] w fun u w' => u = .int .i64 (r.picked id).1 ∧ RefPost w b F (r.picked id).2 w' := by
  obtain ⟨vq, vi, hg, rfl⟩ := hg
  unfold Rets
  obtain ⟨c0, c1, c2, c3, c4, c5, c6, c7⟩ := ref_cells hg.blk
  have f0 : ∀ j, w.frozen? ⟨b, j, none⟩ = false := fun j => hg.blk.frozen j
  have b1 := hf.clock0
  have b2 := hf.clock1
  have b3 := hf.inside
  by_cases hid : id = 0
  · have hp : r.picked id = (0, { r with clock := r.clock + 1, sweeper := r.clock + 1 }) := by unfold RGate.picked; cases atId r.inside id <;> simp [hid]
    have HP := Lib.hid hp
    clear hp
    subst hid
    go_enter Try.func54, Try.ntmps54
    go_wp2_with (go_at_call 61; refine (rat_any _ r.inside 0 _ hg.i).use ?_; rintro _ w1 ⟨rfl, rfl⟩)
    go_ret
    exact ⟨_, rfl, by rw [HP.out]; rfl, by rw [HP.out]; exact refPost_refl ⟨(hg.blk.set 3 (.int .i64 (r.clock + 1))).set 4 (.int .i64 (r.clock + 1)), (hg.q.other hg.bq _).other hg.bq _, (hg.i.other hg.bi _).other hg.bi _, hg.bq, hg.bi, hg.qi⟩ (((Tch.refl _ _).setCell (.inl (by simp [rfoot])) _).setCell (.inl (by simp [rfoot])) _)⟩
  · have d1 : (id != 0) = true := by simpa using hid
    have d2 : (id == 0) = false := by simpa using hid
    cases hat : atId r.inside id with
    | none =>
      have HP := Lib.hid (by unfold RGate.picked; rw [hat]; simp [hid] : r.picked id = (152, r))
      have HA := Lib.hid hat
      clear hat hid
      go_enter Try.func54, Try.ntmps54
      go_wp2_with (go_at_call 61; refine (rat_any _ r.inside id _ hg.i).use ?_; rintro _ w1 ⟨rfl, rfl⟩; rw [HA.out]; dsimp only [ix])
      go_ret
      exact ⟨_, rfl, by rw [HP.out]; rfl, by rw [HP.out]; exact refPost_refl hg (Tch.refl _ _)⟩
    | some i =>
      have hil := atId_lt hat
      have HP := Lib.hid (by unfold RGate.picked; rw [hat]; simp [hid] : r.picked id = (0, { r with clock := r.clock + 1, inside := r.inside.modify i fun x => { x with last := r.clock + 1 } }))
      have HA := Lib.hid hat
      clear hat hid
      rcases hg.i.form with ⟨_, h0⟩ | ⟨g, cap, hv, hcap, _, hgl⟩
      · rw [h0] at hil; simp at hil
      subst hv
      have hgb : g ≠ b := fun h => hg.bi (by rw [h]; rfl)
      go_enter Try.func54, Try.ntmps54
      go_wp2_with (go_at_call 61; refine (rat_any _ r.inside id _ hg.i).use ?_; rintro _ w1 ⟨rfl, rfl⟩; rw [HA.out]; dsimp only [ix])
      have h3 : RefIs (w1.setCell ⟨b, 3, none⟩ (.int .i64 (r.clock + 1))) b vq (.slice (some ⟨g, 0, none⟩) r.inside.length cap) { r with clock := r.clock + 1 } :=
        ⟨hg.blk.set 3 (.int .i64 (r.clock + 1)), hg.q.other hg.bq _, hg.i.other hg.bi _, hg.bq, hg.bi, hg.qi⟩
      have hT3 : Tch (rfoot b vq (.slice (some ⟨g, 0, none⟩) r.inside.length cap)) w1 (w1.setCell ⟨b, 3, none⟩ (.int .i64 (r.clock + 1))) := (Tch.refl _ _).setCell (.inl (by simp [rfoot])) _
      clear c0 c1 c2 c3 c4 c5 c6 c7 f0
      generalize w1.setCell ⟨b, 3, none⟩ (.int .i64 (r.clock + 1)) = w3 at *
      obtain ⟨e0, e1, e2, e3, e4, e5, e6, e7⟩ := ref_cells h3.blk
      obtain ⟨x, hx⟩ : ∃ x, r.inside[i]? = some x := ⟨_, List.getElem?_eq_getElem hil⟩
      obtain ⟨d0, d1', d2'⟩ := one_cells h3.i hx
      have fz : ∀ j, w3.frozen? ⟨g, j, none⟩ = false := fun j => h3.i.frozen j
      have hmod : r.inside.modify i (fun x => { x with last := r.clock + 1 }) = r.inside.set i { x with last := r.clock + 1 } := by
        apply List.ext_getElem?
        intro j
        rw [List.getElem?_modify, List.getElem?_set]
        by_cases hij : i = j
        · subst hij; rw [if_pos rfl, if_pos hil]; simp [hx]
        · rw [if_neg hij]; simp [hij]
      have HX := Lib.hid hx
      have HM := Lib.hid hmod
      clear hx hmod
      refine wp_region_text (by kernel_rfl) (by kernel_rfl) ?_
      go_wp2
      refine ⟨by kernel_rfl, ?_⟩
      go_wp2
      have ht4 := (h3.i.put (f := 2) { x with last := r.clock + 1 } (.int .i64 (r.clock + 1)) HX.out (by decide) rfl).drew
      rw [show i * OneK.sz + 2 = i * 3 + 2 from rfl, ← HM.out] at ht4
      have hT4 : Tch [g] w3 (w3.setCell ⟨g, i * 3 + 2, none⟩ (.int .i64 (r.clock + 1))).drew := ((Tch.refl [g] w3).setCell (.inl (by simp)) _).drew
      go_ret
      exact ⟨_, rfl, by rw [HP.out]; rfl, by
        rw [HP.out]
        refine refPost_refl ⟨h3.blk.touch hT4 (by simpa using Ne.symm hgb), h3.q.touch hT4 (fun k hk => by have := h3.qi k hk; simp [Value.ownBlock] at this; simpa using Ne.symm this), ?_, h3.bq, h3.bi, h3.qi⟩ (hT3.trans hT4 (by simp [rfoot, Value.ownBlock]))
        have hl : (r.inside.modify i fun x => { x with last := r.clock + 1 }).length = r.inside.length := by simp
        exact ht4⟩
end Go.Proofs.Ytdmgbfkioghkeaa
