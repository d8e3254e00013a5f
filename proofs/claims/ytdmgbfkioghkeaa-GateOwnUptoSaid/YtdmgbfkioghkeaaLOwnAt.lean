/-
  GateOwn: the two gates, the book of lists and the lists that are still to be kept, all apart; each call's step over that.
-/
import Derived.Test.YtdmgbfkioghkeaaLKeep
import Derived.Test.YtdmgbfkioghkeaaLPlayS
import Derived.Test.YtdmgbfkioghkeaaLOrder
namespace Go.Proofs.Ytdmgbfkioghkeaa
open Go.RowKit Go.Ytdmgbfkioghkeaa Go.Ytdmgbfkioghkeaa.Gt Go.Ytdmgbfkioghkeaa.Reg

/-- The blocks of lists and boxes that are not kept yet. -/
def blocksOf (P : List (Value × List Int)) (X : List (Nat × Array Value)) : List Nat := P.filterMap (fun p => p.1.ownBlock) ++ X.map (·.1)

theorem blocksOf_cons (l : Value) (xs : List Int) (P : List (Value × List Int)) (X : List (Nat × Array Value)) : blocksOf ((l, xs) :: P) X = l.ownBlock.toList ++ blocksOf P X := by
  unfold blocksOf
  cases h : l.ownBlock <;> simp [h]
theorem mem_blocksOf {P : List (Value × List Int)} {X : List (Nat × Array Value)} {x : Nat} : x ∈ blocksOf P X ↔ (∃ p ∈ P, p.1.ownBlock = some x) ∨ ∃ q ∈ X, q.1 = x := by
  unfold blocksOf
  simp [List.mem_append, List.mem_filterMap, List.mem_map]

structure OwnAt (w0 w : World) (b br : Nat) (F Fr : List Nat) (s : Gate) (r : RGate) (vb : Value) (n : Nat) (P : List (Value × List Int)) (X : List (Nat × Array Value)) : Prop where
  gate : GateAt w b F s
  ref : RefAt w br Fr r
  apart : ∀ x ∈ F, x ∉ Fr
  newF : ∀ x ∈ F, w0.heap.size ≤ x
  newFr : ∀ x ∈ Fr, w0.heap.size ≤ x
  tch : Tch [] w0 w
  lists : ∀ p ∈ P, Tab IntK w p.1 p.2
  boxes : ∀ q ∈ X, Blk w q.1 q.2 33
  nodup : (blocksOf P X).Nodup
  away : ∀ x ∈ blocksOf P X, x ∉ F ∧ x ∉ Fr ∧ w0.heap.size ≤ x
  book : ∃ K B, Tab KeptK w vb K ∧ K.length ≤ n ∧ (∀ e ∈ K, EntryOk w B e) ∧ (∀ x ∈ B, x ∉ F ∧ x ∉ Fr ∧ x ∉ blocksOf P X ∧ w0.heap.size ≤ x ∧ x < w.heap.size) ∧
    ∀ x, vb.ownBlock = some x → x ∉ F ∧ x ∉ Fr ∧ x ∉ blocksOf P X ∧ x ∉ B ∧ w0.heap.size ≤ x

section
variable {w0 w w' : World} {b br : Nat} {F Fr F' Fr' : List Nat} {s s' : Gate} {r r' : RGate} {vb : Value} {n : Nat} {P : List (Value × List Int)} {X : List (Nat × Array Value)}

theorem OwnAt.lt (h : OwnAt w0 w b br F Fr s r vb n P X) : ∀ x ∈ blocksOf P X, x < w.heap.size := fun x hx => by
  rcases mem_blocksOf.1 hx with ⟨p, hp, e⟩ | ⟨q, hq, e⟩
  · exact (h.lists p hp).block_lt e
  · exact e ▸ (h.boxes q hq).lt

theorem blocksOf_append (N P : List (Value × List Int)) (X : List (Nat × Array Value)) : blocksOf (N ++ P) X = blocksOf N [] ++ blocksOf P X := by
  unfold blocksOf
  simp [List.filterMap_append]

/-- What touches only the two gates, and hands out new lists N. -/
theorem OwnAt.moved (h : OwnAt w0 w b br F Fr s r vb n P X) {S : List Nat} (hT : Tch S w w') (hS : ∀ x ∈ S, x ∈ F ∨ x ∈ Fr) (hg : GateAt w' b F' s') (hr : RefAt w' br Fr' r')
    (hF : ∀ x ∈ F', x ∈ F ∨ x ∈ Fr ∨ w.heap.size ≤ x) (hFr : ∀ x ∈ Fr', x ∈ F ∨ x ∈ Fr ∨ w.heap.size ≤ x) (hd : ∀ x ∈ F', x ∉ Fr')
    {N : List (Value × List Int)} (hN : ∀ p ∈ N, Tab IntK w' p.1 p.2) (hNn : ∀ x ∈ blocksOf N [], w.heap.size ≤ x ∧ x ∉ F' ∧ x ∉ Fr') (hNd : (blocksOf N []).Nodup) : OwnAt w0 w' b br F' Fr' s' r' vb n (N ++ P) X := by
  have hsz := h.tch.size
  have hsz' := hT.size
  have hlt := h.lt
  have hPS : ∀ x ∈ blocksOf P X, x ∉ S := fun x hx hm => by
    rcases hS x hm with h1 | h1
    · exact (h.away x hx).1 h1
    · exact (h.away x hx).2.1 h1
  have hout : ∀ {x : Nat}, x ∉ F → x ∉ Fr → x < w.heap.size → x ∉ F' ∧ x ∉ Fr' := fun h1 h2 h3 =>
    ⟨fun hm => by rcases hF _ hm with h4 | h4 | h4; exact h1 h4; exact h2 h4; omega, fun hm => by rcases hFr _ hm with h4 | h4 | h4; exact h1 h4; exact h2 h4; omega⟩
  have hnew : ∀ x, (x ∈ F ∨ x ∈ Fr ∨ w.heap.size ≤ x) → w0.heap.size ≤ x := fun x hx => by
    rcases hx with h1 | h1 | h1
    · exact h.newF x h1
    · exact h.newFr x h1
    · omega
  have hnb : ∀ {x : Nat}, x < w.heap.size → x ∉ blocksOf P X → x ∉ blocksOf (N ++ P) X := fun {x} h1 h2 hm => by
    rw [blocksOf_append, List.mem_append] at hm
    rcases hm with h3 | h3
    · have := (hNn x h3).1; omega
    · exact h2 h3
  refine ⟨hg, hr, hd, fun x hx => hnew x (hF x hx), fun x hx => hnew x (hFr x hx), h.tch.trans hT (fun x hx => .inr (hnew x ((hS x hx).imp id .inl))), fun p hp => ?_,
    fun q hq => (h.boxes q hq).touch hT (hPS _ (mem_blocksOf.2 (.inr ⟨q, hq, rfl⟩))), ?_, fun x hx => ?_, ?_⟩
  · rcases List.mem_append.1 hp with hp | hp
    · exact hN p hp
    · exact (h.lists p hp).touch hT (fun g hg => hPS g (mem_blocksOf.2 (.inl ⟨p, hp, hg⟩)))
  · rw [blocksOf_append, List.nodup_append]
    exact ⟨hNd, h.nodup, fun x hx y hy e => by have := (hNn x hx).1; have := hlt y hy; omega⟩
  · rw [blocksOf_append, List.mem_append] at hx
    rcases hx with hx | hx
    · obtain ⟨c1, c2, c3⟩ := hNn x hx
      exact ⟨c2, c3, by omega⟩
    · obtain ⟨h1, h2, h3⟩ := h.away x hx
      have := hout h1 h2 (hlt x hx)
      exact ⟨this.1, this.2, h3⟩
  · obtain ⟨K, B, k1, k2, k3, k4, k5⟩ := h.book
    have hBS : ∀ x ∈ B, x ∉ S := fun x hx hm => by
      rcases hS x hm with h1 | h1
      · exact (k4 x hx).1 h1
      · exact (k4 x hx).2.1 h1
    refine ⟨K, B, k1.touch hT (fun g hg hm => ?_), k2, fun e he => (k3 e he).kept hT hBS, fun x hx => ?_, fun x hx => ?_⟩
    · rcases hS g hm with h1 | h1
      · exact (k5 g hg).1 h1
      · exact (k5 g hg).2.1 h1
    · obtain ⟨a1, a2, a3, a4, a5⟩ := k4 x hx
      have := hout a1 a2 a5
      exact ⟨this.1, this.2, hnb a5 a3, a4, by omega⟩
    · obtain ⟨a1, a2, a3, a4, a5⟩ := k5 x hx
      have := hout a1 a2 (k1.block_lt hx)
      exact ⟨this.1, this.2, hnb (k1.block_lt hx) a3, a4, a5⟩

theorem OwnAt.calm (h : OwnAt w0 w b br F Fr s r vb n P X) (hT : Tch [] w w') : OwnAt w0 w' b br F Fr s r vb n P X :=
  h.moved (N := []) hT (by simp) (h.gate.kept hT (by simp)) (h.ref.kept hT (by simp)) (fun _ hx => .inl hx) (fun _ hx => .inr (.inl hx)) h.apart (by simp) (by simp [blocksOf]) (by simp [blocksOf])

theorem OwnAt.gated (h : OwnAt w0 w b br F Fr s r vb n P X) (hg : GateAt w' b F' s') (hT : Tch F w w') (hF : ∀ k ∈ F', k ∈ F ∨ w.heap.size ≤ k)
    {N : List (Value × List Int)} (hN : ∀ p ∈ N, Tab IntK w' p.1 p.2) (hNn : ∀ x ∈ blocksOf N [], w.heap.size ≤ x ∧ x ∉ F') (hNd : (blocksOf N []).Nodup) : OwnAt w0 w' b br F' Fr s' r vb n (N ++ P) X :=
  h.moved hT (fun _ hx => .inl hx) hg (h.ref.kept hT (fun k hk hm => h.apart k hm hk)) (fun x hx => (hF x hx).imp id .inr) (fun _ hx => .inr (.inl hx)) (fun x hx hm => by
    rcases hF x hx with h1 | h1
    · exact h.apart x h1 hm
    · have := h.ref.mem x hm; omega) hN (fun x hx => ⟨(hNn x hx).1, (hNn x hx).2, fun hm => by have := (hNn x hx).1; have := h.ref.mem x hm; omega⟩) hNd

theorem OwnAt.refd (h : OwnAt w0 w b br F Fr s r vb n P X) (hr : RefAt w' br Fr' r') (hT : Tch Fr w w') (hF : ∀ k ∈ Fr', k ∈ Fr ∨ w.heap.size ≤ k) : OwnAt w0 w' b br F Fr' s r' vb n P X :=
  h.moved (N := []) hT (fun _ hx => .inr hx) (h.gate.kept hT (fun k hk hm => h.apart k hk hm)) hr (fun _ hx => .inl hx) (fun x hx => .inr (hF x hx)) (fun x hx hm => by
    rcases hF x hm with h1 | h1
    · exact h.apart x hx h1
    · have := h.gate.mem x hx; omega) (by simp) (by simp [blocksOf]) (by simp [blocksOf])

theorem OwnAt.paired (h : OwnAt w0 w b br F Fr s r vb n P X) (hp : Own.Pair (F ++ Fr) w w' b br s' r') : ∃ F' Fr', OwnAt w0 w' b br F' Fr' s' r' vb n P X := by
  obtain ⟨F2, Fr2, hg, hr, hd, hf, hT⟩ := hp
  have hS : ∀ x, (x ∈ F ++ Fr ∨ w.heap.size ≤ x) → x ∈ F ∨ x ∈ Fr ∨ w.heap.size ≤ x := fun x hx => by
    rcases hx with h1 | h1
    · rcases List.mem_append.1 h1 with h1 | h1
      · exact .inl h1
      · exact .inr (.inl h1)
    · exact .inr (.inr h1)
  exact ⟨F2, Fr2, h.moved (N := []) hT (fun x hx => List.mem_append.1 hx) hg hr (fun x hx => hS x (hd x hx).2) (fun x hx => hS x (hf x hx)) (fun x hx => (hd x hx).1) (by simp) (by simp [blocksOf]) (by simp [blocksOf])⟩

theorem OwnAt.perm {P' : List (Value × List Int)} (h : OwnAt w0 w b br F Fr s r vb n P X) (hp : P.Perm P') : OwnAt w0 w b br F Fr s r vb n P' X := by
  have hb : (blocksOf P X).Perm (blocksOf P' X) := (hp.filterMap _).append_right _
  refine ⟨h.gate, h.ref, h.apart, h.newF, h.newFr, h.tch, fun p hq => h.lists p (hp.mem_iff.2 hq), h.boxes, hb.nodup_iff.1 h.nodup, fun x hx => h.away x (hb.mem_iff.2 hx), ?_⟩
  obtain ⟨K, B, k1, k2, k3, k4, k5⟩ := h.book
  exact ⟨K, B, k1, k2, k3, fun x hx => by have := k4 x hx; rwa [hb.mem_iff] at this, fun x hx => by have := k5 x hx; rwa [hb.mem_iff] at this⟩

/-- What need not be watched any more. -/
theorem OwnAt.drop {P' : List (Value × List Int)} {X' : List (Nat × Array Value)} (h : OwnAt w0 w b br F Fr s r vb n P X) (hP : P'.Sublist P) (hX : X'.Sublist X) : OwnAt w0 w b br F Fr s r vb n P' X' := by
  have hb : (blocksOf P' X').Sublist (blocksOf P X) := (hP.filterMap _).append (hX.map _)
  refine ⟨h.gate, h.ref, h.apart, h.newF, h.newFr, h.tch, fun p hq => h.lists p (hP.mem hq), fun q hq => h.boxes q (hX.mem hq), hb.nodup h.nodup, fun x hx => h.away x (hb.mem hx), ?_⟩
  obtain ⟨K, B, k1, k2, k3, k4, k5⟩ := h.book
  exact ⟨K, B, k1, k2, k3, fun x hx => by obtain ⟨a1, a2, a3, a4⟩ := k4 x hx; exact ⟨a1, a2, fun hm => a3 (hb.mem hm), a4⟩, fun x hx => by obtain ⟨a1, a2, a3, a4⟩ := k5 x hx; exact ⟨a1, a2, fun hm => a3 (hb.mem hm), a4⟩⟩

theorem OwnAt.boxed (h : OwnAt w0 w b br F Fr s r vb n P X) (cs : Array Value) : OwnAt w0 (w.alloc (.cells cs 33)) b br F Fr s r vb n P ((w.heap.size, cs) :: X) := by
  have h' := h.calm ((Tch.refl [] w).alloc (.cells cs 33))
  have hlt := h.lt
  have hsz := h.tch.size
  have hb : ∀ x, x ∈ blocksOf P ((w.heap.size, cs) :: X) ↔ x ∈ blocksOf P X ∨ x = w.heap.size := fun x => by
    rw [mem_blocksOf, mem_blocksOf]
    simp only [List.mem_cons, exists_eq_or_imp]
    constructor
    · rintro (h1 | h1 | h1)
      · exact .inl (.inl h1)
      · exact .inr h1.symm
      · exact .inl (.inr h1)
    · rintro ((h1 | h1) | h1)
      · exact .inl h1
      · exact .inr (.inr h1)
      · exact .inr (.inl h1.symm)
  have hp : (blocksOf P ((w.heap.size, cs) :: X)).Perm (w.heap.size :: blocksOf P X) := by unfold blocksOf; exact List.perm_middle
  refine ⟨h'.gate, h'.ref, h.apart, h.newF, h.newFr, h'.tch, h'.lists, fun q hq => ?_, ?_, fun x hx => ?_, ?_⟩
  · rcases List.mem_cons.1 hq with rfl | hq
    · exact Blk.new w cs 33
    · exact h'.boxes q hq
  · rw [hp.nodup_iff, List.nodup_cons]
    exact ⟨fun hm => by have := hlt _ hm; omega, h.nodup⟩
  · rcases (hb x).1 hx with h1 | rfl
    · exact h.away x h1
    · exact ⟨fun hm => by have := h.gate.mem _ hm; omega, fun hm => by have := h.ref.mem _ hm; omega, hsz⟩
  · obtain ⟨K, B, k1, k2, k3, k4, k5⟩ := h.book
    refine ⟨K, B, k1.alloc _, k2, fun e he => (k3 e he).kept ((Tch.refl [] w).alloc _) (by simp), fun x hx => ?_, fun x hx => ?_⟩
    · obtain ⟨a1, a2, a3, a4, a5⟩ := k4 x hx
      exact ⟨a1, a2, fun hm => by rcases (hb x).1 hm with h1 | rfl; exact a3 h1; omega, a4, by simp; omega⟩
    · obtain ⟨a1, a2, a3, a4, a5⟩ := k5 x hx
      have hk := k1.block_lt hx
      exact ⟨a1, a2, fun hm => by rcases (hb x).1 hm with h1 | rfl; exact a3 h1; omega, a4, a5⟩

/-- The first one is kept. -/
theorem OwnAt.keptOne {l u : Value} {xs : List Int} (h : OwnAt w0 w b br F Fr s r vb n ((l, xs) :: P) X)
    {K : List (Hd × Hd)} {B : List Nat} (k1 : Tab KeptK w vb K) (k2 : K.length ≤ n) (k3 : ∀ e ∈ K, EntryOk w B e) (k4 : ∀ x ∈ B, x ∉ F ∧ x ∉ Fr ∧ x ∉ blocksOf ((l, xs) :: P) X ∧ w0.heap.size ≤ x ∧ x < w.heap.size)
    (k5 : ∀ x, vb.ownBlock = some x → x ∉ F ∧ x ∉ Fr ∧ x ∉ blocksOf ((l, xs) :: P) X ∧ x ∉ B ∧ w0.heap.size ≤ x) (hk : KeepPost w vb l K u w') : OwnAt w0 w' b br F Fr s r u (n + 2) P X := by
  have _ := k1
  have hlt := h.lt
  have hsz := h.tch.size
  have hb : ∀ x, x ∈ blocksOf ((l, xs) :: P) X ↔ l.ownBlock = some x ∨ x ∈ blocksOf P X := fun x => by rw [blocksOf_cons, List.mem_append, Option.mem_toList]
  have hnd := h.nodup
  rw [blocksOf_cons, List.nodup_append] at hnd
  obtain ⟨e1, e2, B', p1, p2, p3, hT, p5, p6⟩ := hk
  have hT' := hT.size
  have hin : ∀ x ∈ vb.ownBlock.toList ++ l.ownBlock.toList, vb.ownBlock = some x ∨ l.ownBlock = some x := fun x hx => by
    rw [List.mem_append, Option.mem_toList, Option.mem_toList] at hx
    exact hx
  have hF : ∀ x ∈ F, x ∉ vb.ownBlock.toList ++ l.ownBlock.toList := fun x hx hm => by
    rcases hin x hm with h1 | h1
    · exact (k5 x h1).1 hx
    · exact (h.away x ((hb x).2 (.inl h1))).1 hx
  have hFr : ∀ x ∈ Fr, x ∉ vb.ownBlock.toList ++ l.ownBlock.toList := fun x hx hm => by
    rcases hin x hm with h1 | h1
    · exact (k5 x h1).2.1 hx
    · exact (h.away x ((hb x).2 (.inl h1))).2.1 hx
  have hP : ∀ x ∈ blocksOf P X, x ∉ vb.ownBlock.toList ++ l.ownBlock.toList := fun x hx hm => by
    rcases hin x hm with h1 | h1
    · exact (k5 x h1).2.2.1 ((hb x).2 (.inr hx))
    · exact hnd.2.2 x (by simp [h1]) x hx rfl
  have hB : ∀ x ∈ B, x ∉ vb.ownBlock.toList ++ l.ownBlock.toList := fun x hx hm => by
    rcases hin x hm with h1 | h1
    · exact (k5 x h1).2.2.2.1 hx
    · exact (k4 x hx).2.2.1 ((hb x).2 (.inl h1))
  have hl0 : ∀ x, l.ownBlock = some x → x ∉ F ∧ x ∉ Fr ∧ x ∉ blocksOf P X ∧ w0.heap.size ≤ x := fun x hx => by
    obtain ⟨a1, a2, a3⟩ := h.away x ((hb x).2 (.inl hx))
    exact ⟨a1, a2, fun hm => hnd.2.2 x (by simp [hx]) x hm rfl, a3⟩
  have hnew : ∀ x, w.heap.size ≤ x → x ∉ F ∧ x ∉ Fr ∧ x ∉ blocksOf P X ∧ w0.heap.size ≤ x := fun x hx =>
    ⟨fun hm => by have := h.gate.mem x hm; omega, fun hm => by have := h.ref.mem x hm; omega, fun hm => by have := hlt x ((hb x).2 (.inr hm)); omega, by omega⟩
  refine ⟨h.gate.kept hT hF, h.ref.kept hT hFr, h.apart, h.newF, h.newFr, h.tch.trans hT (fun x hx => .inr ?_), fun p hp => (h.lists p (List.mem_cons_of_mem _ hp)).touch hT (fun g hg => hP g (mem_blocksOf.2 (.inl ⟨p, hp, hg⟩))),
    fun q hq => (h.boxes q hq).touch hT (hP _ (mem_blocksOf.2 (.inr ⟨q, hq, rfl⟩))), hnd.2.1, fun x hx => h.away x ((hb x).2 (.inr hx)), K ++ [e1, e2], B ++ B', p1, by simp; omega, fun e he => ?_, fun x hx => ?_, fun x hx => ?_⟩
  · rcases hin x hx with h1 | h1
    · exact (k5 x h1).2.2.2.2
    · exact (hl0 x h1).2.2.2
  · rcases List.mem_append.1 he with he | he
    · exact ((k3 e he).kept hT hB).mono (fun x hx => List.mem_append_left _ hx)
    · simp only [List.mem_cons, List.not_mem_nil, or_false] at he
      rcases he with rfl | rfl
      · exact p2.mono (fun x hx => List.mem_append_right _ hx)
      · exact p3.mono (fun x hx => List.mem_append_right _ hx)
  · rcases List.mem_append.1 hx with hx | hx
    · obtain ⟨a1, a2, a3, a4, a5⟩ := k4 x hx
      exact ⟨a1, a2, fun hm => a3 ((hb x).2 (.inr hm)), a4, by omega⟩
    · obtain ⟨a1, a2⟩ := p5 x hx
      rcases a1 with a1 | a1
      · obtain ⟨c1, c2, c3, c4⟩ := hl0 x a1
        exact ⟨c1, c2, c3, c4, a2⟩
      · obtain ⟨c1, c2, c3, c4⟩ := hnew x a1
        exact ⟨c1, c2, c3, c4, a2⟩
  · obtain ⟨a1, a2⟩ := p6 x hx
    rcases a1 with a1 | a1
    · obtain ⟨c1, c2, c3, c4, c5⟩ := k5 x a1
      exact ⟨c1, c2, fun hm => c3 ((hb x).2 (.inr hm)), fun hm => (List.mem_append.1 hm).elim c4 a2, c5⟩
    · obtain ⟨c1, c2, c3, c4⟩ := hnew x a1
      exact ⟨c1, c2, c3, fun hm => (List.mem_append.1 hm).elim (fun hm => by have := (k4 x hm).2.2.2.2; omega) a2, c4⟩

/-! ### The calls -/
theorem own_keep {l : Value} {xs : List Int} (mark : Int) (h : OwnAt w0 w b br F Fr s r vb n ((l, xs) :: P) X) (hn : n ≤ 100000000) (hx : xs.length ≤ 100) (hm0 : -1000000000 ≤ mark) (hm1 : mark ≤ 0) :
    Rets Try.prog 32 #[vb, l, .int .i64 mark] w fun u w' => OwnAt w0 w' b br F Fr s r u (n + 2) P X := by
  obtain ⟨K, B, k1, k2, k3, k4, k5⟩ := h.book
  exact (keep_any vb l K xs mark w k1 (h.lists _ (List.mem_cons_self ..)) (fun x h1 h2 => (k5 x h1).2.2.1 (mem_blocksOf.2 (.inl ⟨_, List.mem_cons_self .., h2⟩))) (by omega) hx hm0 hm1).mono fun u w' hp =>
    h.keptOne k1 k2 k3 k4 k5 hp

theorem own_stat (h : OwnAt w0 w b br F Fr s r vb n P X) (hf : Fits s) :
    Rets Try.prog 19 #[.pointer (some ⟨b, 0, none⟩)] w fun v w' => ∃ vI vQ, v = .agg (statCells s vI vQ) ∧ OwnAt w0 w' b br F Fr s r vb n ((vI, s.inside) :: (vQ, s.queue.map (·.id)) :: P) X := by
  refine (stat_any b F s w h.gate hf).mono fun v w' hp => ?_
  obtain ⟨vI, vQ, rfl, hg, hT, hI, hQ, nI, nQ⟩ := hp
  refine ⟨vI, vQ, rfl, h.gated (N := [(vI, s.inside), (vQ, s.queue.map fun q : G => q.id)]) hg hT (fun _ hk => .inl hk) (fun p hp => ?_) (fun x hx => ?_) ?_⟩
  · simp only [List.mem_cons, List.not_mem_nil, or_false] at hp
    rcases hp with rfl | rfl
    · exact hI
    · exact hQ
  · have : w.heap.size ≤ x := by
      rcases mem_blocksOf.1 hx with ⟨p, hp, e⟩ | ⟨q, hq, _⟩
      · simp only [List.mem_cons, List.not_mem_nil, or_false] at hp
        rcases hp with rfl | rfl
        · exact nI x e
        · exact (nQ x e).1
      · cases hq
    exact ⟨this, fun hm => by have := h.gate.mem x hm; omega⟩
  · rw [blocksOf_cons, blocksOf_cons, List.nodup_append]
    refine ⟨by cases vI.ownBlock <;> simp, by cases vQ.ownBlock <;> simp [blocksOf], fun x hx y hy e => ?_⟩
    subst e
    have hxI : vI.ownBlock = some x := by simpa using hx
    have hxQ : vQ.ownBlock = some x := by simpa [blocksOf] using hy
    exact (nQ x hxQ).2 hxI

theorem own_admit (h : OwnAt w0 w b br F Fr s r vb n P X) (hf : Fits s) :
    Rets Try.prog 30 #[.pointer (some ⟨b, 0, none⟩)] w fun v w' => ∃ F', OwnAt w0 w' b br F' Fr (s.admit []).2 r vb n ((v, (s.admit []).1) :: P) X := by
  refine (admit_any b F s w h.gate hf).mono fun v w' hp => ?_
  obtain ⟨F', hg, hT, hF, hv, hn⟩ := hp
  refine ⟨F', h.gated (N := [(v, (s.admit []).1)]) hg hT hF (fun p hp => ?_) (fun x hx => ?_) ?_⟩
  · rw [List.mem_singleton] at hp
    rw [hp]; exact hv
  · rcases mem_blocksOf.1 hx with ⟨p, hp, e⟩ | ⟨q, hq, _⟩
    · rw [List.mem_singleton] at hp
      subst hp
      exact ⟨(hn x e).2, (hn x e).1⟩
    · cases hq
  · rw [blocksOf_cons]
    cases v.ownBlock <;> simp [blocksOf]

theorem own_radmit (h : OwnAt w0 w b br F Fr s r vb n P X) (hf : RFits r) :
    Rets Try.prog 31 #[.pointer (some ⟨br, 0, none⟩)] w fun v w' => Tab IntK w' v (r.admit []).1 ∧ ∃ Fr', OwnAt w0 w' b br F Fr' s (r.admit []).2 vb n P X := by
  refine (radmit_any br Fr r w h.ref hf).mono fun v w' hp => ?_
  obtain ⟨F', hg, hT, hF, hv, hn⟩ := hp
  exact ⟨hv, F', h.refd hg hT hF⟩

theorem own_plays (o : Deed) {m : Int} (h : OwnAt w0 w b br F Fr s r vb n P X) (hs : Sim s r m) (hm : m ≤ 1000000000000000000) :
    Rets Try.prog 33 #[.pointer (some ⟨b, 0, none⟩), .pointer (some ⟨br, 0, none⟩), .agg #[.int .i64 o.kind, .int .i64 o.id, .bool o.yes]] w fun u w' => u = .bool true ∧ ∃ F' Fr', OwnAt w0 w' b br F' Fr' (s.step o) (r.step o) vb n P X := by
  have hp : Own.Pair (F ++ Fr) w w b br s r := ⟨F, Fr, h.gate, h.ref, fun k hk => ⟨h.apart k hk, .inl (List.mem_append_left _ hk)⟩, fun k hk => .inl (List.mem_append_right _ hk), Tch.refl _ _⟩
  exact (Own.plays_any (F ++ Fr) w b br s r m o w hp hs hm).mono fun u w' ⟨hu, hq⟩ => ⟨hu, h.paired hq⟩

theorem own_stat_true {m : Int} {vI vQ : Value} (h : OwnAt w0 w b br F Fr s r vb n P X) (hs : Sim s r m) (hm : m ≤ 1000000000000000000) (h1 : (vI, s.inside) ∈ P) (h2 : (vQ, s.queue.map (·.id)) ∈ P) :
    Rets Try.prog 18 #[.agg (statCells s vI vQ), .pointer (some ⟨br, 0, none⟩)] w fun u w' => u = .bool true ∧ OwnAt w0 w' b br F Fr s r vb n P X :=
  (stat_true s vI vQ br Fr r w (h.lists _ h1) (h.lists _ h2) h.ref (sim_rfits hs hm) hs.logged hs.units hs.most hs.inside (by rw [hs.queue])).mono fun _ _ ⟨hu, hT⟩ => ⟨hu, h.calm hT⟩
end
end Go.Proofs.Ytdmgbfkioghkeaa
