/-
  The gate's methods, walked.
-/
import Derived.Test.YtdmgbfkioghkeaaGSlices
import Derived.Test.YtdmgbfkioghkeaaGLock
namespace Go.Proofs.Ytdmgbfkioghkeaa
open Go.RowKit Go.Ytdmgbfkioghkeaa Go.Ytdmgbfkioghkeaa.Gt Go.Ytdmgbfkioghkeaa.Reg Go.MuLone

def gateCells (s : Gate) (l : Int) (vq vi vt : Value) : Array Value :=
  #[.int .i32 l, .int .u32 0, .int .i64 s.most, .int .i64 s.units, .int .i64 s.stamp, .int .i64 s.clock, vq, vi, vt, .int .i64 s.logged]

/-- Block b holds the gate s; its lists lie in blocks of their own. -/
structure GateIs (w : World) (b : Nat) (vq vi vt : Value) (s : Gate) (l : Int) : Prop where
  blk : Blk w b (gateCells s l vq vi vt) 73
  q : Tab GuestK w vq s.queue
  i : Tab IntK w vi s.inside
  t : Tab GuestK w vt s.turn
  bq : vq.ownBlock ≠ some b
  bi : vi.ownBlock ≠ some b
  bt : vt.ownBlock ≠ some b
  qi : ∀ k, vq.ownBlock = some k → vi.ownBlock ≠ some k
  qt : ∀ k, vq.ownBlock = some k → vt.ownBlock ≠ some k
  it : ∀ k, vi.ownBlock = some k → vt.ownBlock ≠ some k

def foot (b : Nat) (vq vi vt : Value) : List Nat := b :: (vq.ownBlock.toList ++ (vi.ownBlock.toList ++ vt.ownBlock.toList))

def GateAt (w : World) (b : Nat) (F : List Nat) (s : Gate) : Prop := ∃ vq vi vt, GateIs w b vq vi vt s 0 ∧ F = foot b vq vi vt

/-- What became of a gate whose blocks were F. -/
def GatePost (w : World) (b : Nat) (F : List Nat) (s : Gate) (w' : World) : Prop :=
  ∃ F', GateAt w' b F' s ∧ Tch F w w' ∧ ∀ k ∈ F', k ∈ F ∨ w.heap.size ≤ k

/-- The numbers of a gate that fit. -/
structure Fits (s : Gate) : Prop where
  queue : s.queue.length ≤ 64
  inside : s.inside.length ≤ 64
  turn : s.turn.length ≤ 100
  turn1 : 1 ≤ s.turn.length
  stamp0 : 0 ≤ s.stamp
  stamp1 : s.stamp ≤ 1000000000000000000
  clock0 : 0 ≤ s.clock
  clock1 : s.clock ≤ 1000000000000000000
  logged0 : 0 ≤ s.logged
  logged1 : s.logged ≤ 1000000000000000000
  most0 : 1 ≤ s.most
  most1 : s.most ≤ 16
  units0 : 1 ≤ s.units
  units1 : s.units ≤ 64
  turnEq : s.turn.length = s.inside.length + 1

theorem GateIs.mem {w : World} {b : Nat} {vq vi vt : Value} {s : Gate} {l : Int} (h : GateIs w b vq vi vt s l) : ∀ k ∈ foot b vq vi vt, k < w.heap.size := by
  intro k hk
  simp only [foot, List.mem_cons, List.mem_append, Option.mem_toList] at hk
  rcases hk with rfl | hk | hk | hk
  · exact h.blk.lt
  · exact h.q.block_lt hk
  · exact h.i.block_lt hk
  · exact h.t.block_lt hk

theorem GateIs.kept {w w' : World} {b : Nat} {vq vi vt : Value} {s : Gate} {l : Int} (h : GateIs w b vq vi vt s l) {S : List Nat} (ht : Tch S w w') (hS : ∀ k ∈ foot b vq vi vt, k ∉ S) : GateIs w' b vq vi vt s l :=
  ⟨h.blk.touch ht (hS _ (by simp [foot])), h.q.touch ht (fun g hg => hS g (by simp [foot, hg])), h.i.touch ht (fun g hg => hS g (by simp [foot, hg])), h.t.touch ht (fun g hg => hS g (by simp [foot, hg])),
    h.bq, h.bi, h.bt, h.qi, h.qt, h.it⟩

theorem GateIs.setLock {w : World} {b : Nat} {vq vi vt : Value} {s : Gate} {l : Int} (h : GateIs w b vq vi vt s l) (k : Int) : GateIs (w.setCell ⟨b, 0, none⟩ (.int .i32 k)) b vq vi vt s k :=
  ⟨h.blk.set 0 (.int .i32 k), h.q.other h.bq _, h.i.other h.bi _, h.t.other h.bt _, h.bq, h.bi, h.bt, h.qi, h.qt, h.it⟩
theorem GateIs.drew {w : World} {b : Nat} {vq vi vt : Value} {s : Gate} {l : Int} (h : GateIs w b vq vi vt s l) : GateIs w.drew b vq vi vt s l :=
  ⟨h.blk.drew, h.q.drew, h.i.drew, h.t.drew, h.bq, h.bi, h.bt, h.qi, h.qt, h.it⟩
theorem GateIs.alloc {w : World} {b : Nat} {vq vi vt : Value} {s : Gate} {l : Int} (h : GateIs w b vq vi vt s l) (o : Obj) : GateIs (w.alloc o) b vq vi vt s l :=
  ⟨h.blk.alloc o, h.q.alloc o, h.i.alloc o, h.t.alloc o, h.bq, h.bi, h.bt, h.qi, h.qt, h.it⟩

/-- The cells of the gate's block, each by its place. -/
theorem gate_cells {w : World} {b : Nat} {s : Gate} {l : Int} {vq vi vt : Value} (h : Blk w b (gateCells s l vq vi vt) 73) :
    w.cell? ⟨b, 0, none⟩ = some (.int .i32 l) ∧ w.cell? ⟨b, 2, none⟩ = some (.int .i64 s.most) ∧ w.cell? ⟨b, 3, none⟩ = some (.int .i64 s.units) ∧ w.cell? ⟨b, 4, none⟩ = some (.int .i64 s.stamp) ∧
      w.cell? ⟨b, 5, none⟩ = some (.int .i64 s.clock) ∧ w.cell? ⟨b, 6, none⟩ = some vq ∧ w.cell? ⟨b, 7, none⟩ = some vi ∧ w.cell? ⟨b, 8, none⟩ = some vt ∧ w.cell? ⟨b, 9, none⟩ = some (.int .i64 s.logged) :=
  ⟨h.cell 0, h.cell 2, h.cell 3, h.cell 4, h.cell 5, h.cell 6, h.cell 7, h.cell 8, h.cell 9⟩

/-- The lock taken and let go: no more than that. -/
theorem Tch.relock {w : World} {b : Nat} {F : List Nat} (hb : b ∈ F) : Tch F w (w.setCell ⟨b, 0, none⟩ (.int .i32 1)) := (Tch.refl F w).setCell (p := ⟨b, 0, none⟩) (.inl hb) _

set_option maxRecDepth 100000 in
theorem next_any (b : Nat) (F : List Nat) (s : Gate) (w : World) (hg : GateAt w b F s) (hf : Fits s) :
    Rets Try.prog 24 #[.pointer (some ⟨b, 0, none⟩)] w fun u w' => u = .int .i64 s.next ∧ GatePost w b F s w' := by
  obtain ⟨vq, vi, vt, hg, rfl⟩ := hg
  unfold Rets
  obtain ⟨c0, _⟩ := gate_cells hg.blk
  have f0 := hg.blk.frozen 0
  have hbl := hg.blk.lt
  have h1 := hg.setLock 1
  obtain ⟨x, rest, hxr⟩ : ∃ x rest, s.turn = x :: rest := by
    cases ht : s.turn with
    | nil => have := hf.turn1; rw [ht] at this; simp at this
    | cons x rest => exact ⟨x, rest, rfl⟩
  have hn : s.next = x.id := by unfold Gate.next; rw [hxr]
  rcases h1.t.form with ⟨_, h0⟩ | ⟨g, cap, hv, hcap, _, hgl⟩
  · rw [hxr] at h0; cases h0
  subst hv
  have hx0 : s.turn[0]? = some x := by rw [hxr]; rfl
  obtain ⟨d0, _, _⟩ := guest_cells h1.t hx0
  rw [Nat.zero_mul] at d0
  have hlen : 0 < s.turn.length := hf.turn1
  have HN := Lib.hid hn
  clear hn hx0 hxr
  go_enter_defers Try.func24, Try.ntmps24
  go_wp2_with (go_at_call 36; refine (lock_free Try.muLib ⟨b, 0, none⟩ _ c0 f0).mono ?_; rintro e w' ⟨rfl, rfl⟩)
  refine leaves_cons (f := 37) (args := #[.pointer (some ⟨b, 0, none⟩)]) (by simp) (by simp [go_sem]) ?_
  refine (unlock_deferred Try.muLib ⟨b, 0, none⟩ .returning _ (h1.blk.cell 0) (h1.blk.frozen 0)).mono ?_
  rintro e u' w'' ⟨rfl, rfl, rfl⟩
  exact ⟨_, results_tmp rfl _ _ _, _, rfl, by rw [HN.out]; rfl, _, ⟨_, _, _, h1.setLock 0, rfl⟩, ((Tch.relock (by simp [foot]))).setCell (.inl (by simp [foot])) _, fun k hk => .inl hk⟩

set_option maxRecDepth 100000 in
theorem swept_any (b : Nat) (F : List Nat) (s : Gate) (w : World) (hg : GateAt w b F s) :
    Rets Try.prog 34 #[.pointer (some ⟨b, 0, none⟩)] w fun u w' => u = .tuple #[] ∧ GatePost w b F s.swept w' := by
  obtain ⟨vq, vi, vt, hg, rfl⟩ := hg
  unfold Rets
  obtain ⟨c0, c2, c3, c4, c5, c6, c7, c8, c9⟩ := gate_cells hg.blk
  have f0 : ∀ j, w.frozen? ⟨b, j, none⟩ = false := fun j => hg.blk.frozen j
  have hbl := hg.blk.lt
  have h1 := hg.setLock 1
  have h2 : GateIs ((w.setCell ⟨b, 0, none⟩ (.int .i32 1)).setCell ⟨b, 9, none⟩ (.int .i64 0)) b vq vi vt s.swept 1 :=
    ⟨h1.blk.set 9 (.int .i64 0), h1.q.other h1.bq _, h1.i.other h1.bi _, h1.t.other h1.bt _, h1.bq, h1.bi, h1.bt, h1.qi, h1.qt, h1.it⟩
  go_enter_defers Try.func34, Try.ntmps34
  go_wp2_with (go_at_call 36; refine (lock_free Try.muLib ⟨b, 0, none⟩ _ c0 (f0 0)).mono ?_; rintro e w' ⟨rfl, rfl⟩)
  refine leaves_cons (f := 37) (args := #[.pointer (some ⟨b, 0, none⟩)]) (by simp) (by simp [go_sem]) ?_
  refine (unlock_deferred Try.muLib ⟨b, 0, none⟩ .returning _ (h2.blk.cell 0) (h2.blk.frozen 0)).mono ?_
  rintro e u' w'' ⟨rfl, rfl, rfl⟩
  exact ⟨_, results_none rfl _ _ _, _, rfl, rfl, _, ⟨_, _, _, h2.setLock 0, rfl⟩, (((Tch.relock (by simp [foot]))).setCell (.inl (by simp [foot])) _).setCell (.inl (by simp [foot])) _, fun k hk => .inl hk⟩
end Go.Proofs.Ytdmgbfkioghkeaa
