/-
  Of no program. Slices of the program's own as lists ('Tab'), what a call leaves alone ('Tch'), a call that returns ('Rets').
-/
import Derived.WalkKit
namespace Go.YtfoefmiffkkeaaaDoor
open Go Go.RowKit

/-- The call returns, with a value and a world of which this holds. -/
def Rets (P : Program) (f : FuncId) (args : Array Value) (w : World) (Φ : Value → World → Prop) : Prop :=
  Calls P f args w fun e w' => ∃ v, e = .returned v ∧ Φ v w'

theorem Rets.mono {P : Program} {f : FuncId} {args : Array Value} {w : World} {Φ Ψ : Value → World → Prop} (h : Rets P f args w Φ) (hi : ∀ v w', Φ v w' → Ψ v w') : Rets P f args w Ψ :=
  Calls.mono h fun _ _ ⟨v, he, hp⟩ => ⟨v, he, hi v _ hp⟩

/-- For the walk: the call is met by what holds of its value. -/
theorem Rets.use {P : Program} {f : FuncId} {args : Array Value} {w : World} {Φ : Value → World → Prop} {R : Ending → World → Prop} (h : Rets P f args w Φ)
    (hr : ∀ v w', Φ v w' → R (.returned v) w') : Calls P f args w R :=
  Calls.mono h fun _ _ ⟨v, he, hp⟩ => he ▸ hr v _ hp

/-- Outside of the blocks S all old memory is as it was. -/
structure Tch (S : List Nat) (w w' : World) : Prop where
  os : w'.os = w.os
  tape : w'.tape = w.tape
  output : w'.output = w.output
  size : w.heap.size ≤ w'.heap.size
  block : ∀ k, k < w.heap.size → k ∉ S → w'.heap[k]? = w.heap[k]?

namespace Tch
variable {S S' : List Nat} {a b c w w' : World}
theorem refl (S : List Nat) (w : World) : Tch S w w := ⟨rfl, rfl, rfl, Nat.le_refl _, fun _ _ _ => rfl⟩
theorem trans (h : Tch S a b) (k : Tch S' b c) (hs : ∀ x ∈ S', x ∈ S ∨ a.heap.size ≤ x) : Tch S a c :=
  ⟨k.os.trans h.os, k.tape.trans h.tape, k.output.trans h.output, Nat.le_trans h.size k.size, fun i hi hn =>
    (k.block i (Nat.lt_of_lt_of_le hi h.size) (fun hm => (hs i hm).elim hn fun h1 => by omega)).trans (h.block i hi hn)⟩
theorem trans' (h : Tch S a b) (k : Tch S b c) : Tch S a c := h.trans k fun _ hx => .inl hx
theorem mono (h : Tch S w w') (hs : ∀ x ∈ S, x ∈ S' ∨ w.heap.size ≤ x) : Tch S' w w' :=
  ⟨h.os, h.tape, h.output, h.size, fun i hi hn => h.block i hi fun hm => (hs i hm).elim hn fun h1 => by omega⟩
theorem drew (h : Tch S a w) : Tch S a w.drew := ⟨h.os, h.tape, h.output, h.size, h.block⟩
theorem alloc (h : Tch S a w) (o : Obj) : Tch S a (w.alloc o) :=
  ⟨h.os, h.tape, h.output, Nat.le_trans h.size (by simp), fun i hi hn => (Below.heap_alloc w o i (Nat.lt_of_lt_of_le hi h.size)).trans (h.block i hi hn)⟩
theorem setCell (h : Tch S a w) {p : Addr} (hp : p.block ∈ S ∨ a.heap.size ≤ p.block) (u : Value) : Tch S a (w.setCell p u) :=
  ⟨h.os, h.tape, h.output, by simpa [World.setCell] using h.size, fun i hi hn => by
    rw [heap_setCell_other w p i u (hp.elim (fun h1 e => hn (e ▸ h1)) fun h1 => by omega)]
    exact h.block i hi hn⟩
theorem grown (h : Tch S a w) {row : Option Nat} (hg : w.grownBy w' row) (hr : ∀ k, row = some k → k ∈ S ∨ a.heap.size ≤ k) : Tch S a w' :=
  ⟨hg.os.trans h.os, hg.tape.trans h.tape, hg.output.trans h.output, Nat.le_trans h.size hg.size, fun i hi hn =>
    (hg.block i (Nat.lt_of_lt_of_le hi h.size) (fun e => (hr i e.symm).elim hn fun h1 => by omega)).trans (h.block i hi hn)⟩
theorem cell (h : Tch S w w') {p : Addr} (hp : p.block < w.heap.size) (hn : p.block ∉ S) : w'.cell? p = w.cell? p := World.cell?_of_block (h.block _ hp hn)
theorem frozen (h : Tch S w w') {p : Addr} (hp : p.block < w.heap.size) (hn : p.block ∉ S) : w'.frozen? p = w.frozen? p := World.frozen?_of_block (h.block _ hp hn)
theorem below (h : Tch [] w w') : Below w.heap.size w w' := ⟨h.os, h.tape, h.output, h.size, fun k hk => h.block k hk (by simp)⟩
theorem ofBelow (h : Below w.heap.size w w') : Tch [] w w' := ⟨h.os, h.tape, h.output, h.size, fun k hk _ => h.block k hk⟩
theorem ofGrown {row : Option Nat} (h : w.grownBy w' row) : Tch row.toList w w' := ⟨h.os, h.tape, h.output, h.size, fun k hk hn => h.block k hk fun e => hn (by simp [← e])⟩
/-- As rules for the walk: cells and marks of old blocks outside of S. -/
theorem rules (h : Tch S w w') : (∀ b o, b < w.heap.size → b ∉ S → w'.cell? ⟨b, o, none⟩ = w.cell? ⟨b, o, none⟩) ∧ (∀ b o, b < w.heap.size → b ∉ S → w'.frozen? ⟨b, o, none⟩ = w.frozen? ⟨b, o, none⟩) :=
  ⟨fun b o h1 h2 => h.cell (p := ⟨b, o, none⟩) h1 h2, fun b o h1 h2 => h.frozen (p := ⟨b, o, none⟩) h1 h2⟩
end Tch

/-- A kind of element: its type's number, its cells. -/
structure Kind (α : Type) where
  e : TypeId
  sz : Nat
  enc : α → List Value
  len : ∀ x, (enc x).length = sz
  pos : 0 < sz
  one : ∀ x, ∀ u ∈ enc x, u.oneCell' = true

theorem Kind.flat_len {α : Type} (K : Kind α) (xs : List α) : (xs.flatMap K.enc).length = xs.length * K.sz := by
  induction xs with
  | nil => simp
  | cons x xs ih => simp [K.len, ih, Nat.add_mul, Nat.add_comm]

theorem Kind.flat_at {α : Type} (K : Kind α) : ∀ (xs : List α) (i f : Nat) (x : α), xs[i]? = some x → f < K.sz → (xs.flatMap K.enc)[i * K.sz + f]? = (K.enc x)[f]?
  | [], i, f, x, h, _ => by simp at h
  | y :: xs, 0, f, x, h, hf => by
    simp at h; subst h
    simp only [List.flatMap_cons, Nat.zero_mul, Nat.zero_add]
    rw [List.getElem?_append_left (by rw [K.len]; exact hf)]
  | y :: xs, i + 1, f, x, h, hf => by
    simp only [List.getElem?_cons_succ] at h
    simp only [List.flatMap_cons]
    rw [List.getElem?_append_right (by rw [K.len, Nat.add_mul]; omega), K.len, show (i + 1) * K.sz + f - K.sz = i * K.sz + f from by rw [Nat.add_mul]; omega]
    exact Kind.flat_at K xs i f x h hf

theorem Kind.flat_set {α : Type} (K : Kind α) : ∀ (xs : List α) (i f : Nat) (x y : α) (u : Value), xs[i]? = some x → f < K.sz → K.enc y = (K.enc x).set f u →
    (xs.flatMap K.enc).set (i * K.sz + f) u = (xs.set i y).flatMap K.enc
  | [], i, f, x, y, u, h, _, _ => by simp at h
  | z :: xs, 0, f, x, y, u, h, hf, he => by
    simp at h; subst h
    simp only [List.flatMap_cons, Nat.zero_mul, Nat.zero_add, List.set_cons_zero, he]
    rw [List.set_append_left _ _ (by rw [K.len]; exact hf)]
  | z :: xs, i + 1, f, x, y, u, h, hf, he => by
    simp only [List.getElem?_cons_succ] at h
    simp only [List.flatMap_cons, List.set_cons_succ]
    rw [List.set_append_right _ _ (by rw [K.len, Nat.add_mul]; omega), K.len, show (i + 1) * K.sz + f - K.sz = i * K.sz + f from by rw [Nat.add_mul]; omega,
      Kind.flat_set K xs i f x y u h hf he]

/-- The slice v holds the elements xs, in a block that is its own. -/
def Tab {α : Type} (K : Kind α) (w : World) (v : Value) (xs : List α) : Prop := w.ownsRow 0 K.e K.sz v xs.length (xs.flatMap K.enc)

namespace Tab
variable {α : Type} {K : Kind α} {w w' : World} {v : Value} {xs : List α}

theorem nil (K : Kind α) (w : World) : Tab K w (.slice none 0 0) [] := World.ownsRow_nil w 0 K.e K.sz

theorem form (h : Tab K w v xs) : (v = .slice none 0 0 ∧ xs = []) ∨ ∃ g cap, v = .slice (some ⟨g, 0, none⟩) xs.length cap ∧ xs.length ≤ cap ∧ cap ≤ maxLen ∧ g < w.heap.size := by
  rcases h.2 with ⟨h1, h2⟩ | ⟨g, cap, cur, h1, _, h3, h4, h5, _⟩
  · exact .inl ⟨h1, List.eq_nil_of_length_eq_zero h2⟩
  · exact .inr ⟨g, cap, h1, h4, h5, (Array.getElem?_eq_some_iff.1 h3).1⟩
theorem lenMax (h : Tab K w v xs) : xs.length ≤ maxLen := by
  rcases h.form with ⟨_, rfl⟩ | ⟨_, _, _, h1, h2, _⟩
  · simp
  · omega
theorem slice (h : Tab K w v xs) : ∃ a cap, v = .slice a xs.length cap := by
  rcases h.form with ⟨h1, h2⟩ | ⟨g, cap, h1, _⟩
  · exact ⟨none, 0, by rw [h1, h2]; rfl⟩
  · exact ⟨_, _, h1⟩
theorem block_lt (h : Tab K w v xs) {g : Nat} (hg : v.ownBlock = some g) : g < w.heap.size := (World.ownsRow.lt h g hg).2
theorem kept (h : Tab K w v xs) (hb : ∀ g, v.ownBlock = some g → w'.heap[g]? = w.heap[g]?) : Tab K w' v xs := by
  refine ⟨h.1, ?_⟩
  rcases h.2 with hn | ⟨g, cap, cur, rfl, h0, hgg, rest⟩
  · exact .inl hn
  · exact .inr ⟨g, cap, cur, rfl, h0, (hb g rfl).trans hgg, rest⟩
theorem touch {S : List Nat} (h : Tab K w v xs) (ht : Tch S w w') (hn : ∀ g, v.ownBlock = some g → g ∉ S) : Tab K w' v xs :=
  h.kept fun g hg => ht.block g (h.block_lt hg) (hn g hg)
theorem drew (h : Tab K w v xs) : Tab K w.drew v xs := h.kept fun _ _ => rfl
theorem alloc (h : Tab K w v xs) (o : Obj) : Tab K (w.alloc o) v xs := h.kept fun g hg => Below.heap_alloc w o g (h.block_lt hg)
theorem other (h : Tab K w v xs) {p : Addr} (hp : v.ownBlock ≠ some p.block) (u : Value) : Tab K (w.setCell p u) v xs :=
  h.kept fun g hg => heap_setCell_other w p g u fun e => hp (by rw [hg, e])

/-- The cell of one element's part. -/
theorem cell {g n cap : Nat} (h : Tab K w (.slice (some ⟨g, 0, none⟩) n cap) xs) {i f : Nat} {x : α} {u : Value} (hi : xs[i]? = some x) (hf : (K.enc x)[f]? = some u) :
    w.cell? ⟨g, i * K.sz + f, none⟩ = some u := by
  have hfl : f < K.sz := by rw [← K.len x]; exact (List.getElem?_eq_some_iff.1 hf).1
  have := World.ownsRow.cells (g := g) h rfl (i * K.sz + f) u (by rw [K.flat_at xs i f x hi hfl]; exact hf)
  have hadd : (⟨g, 0, none⟩ : Addr).add (i * K.sz + f) = ⟨g, i * K.sz + f, none⟩ := by unfold Addr.add; split <;> simp_all
  rwa [hadd] at this
theorem frozen {g n cap : Nat} (h : Tab K w (.slice (some ⟨g, 0, none⟩) n cap) xs) (j : Nat) : w.frozen? ⟨g, j, none⟩ = false := by
  rcases h.2 with ⟨h1, _⟩ | ⟨g', cap', cur, h1, _, h3, _⟩
  · cases h1
  · cases h1; exact frozen_of_row w g j cur K.e h3
/-- A store into one element's part. -/
theorem put {g n cap : Nat} (h : Tab K w (.slice (some ⟨g, 0, none⟩) n cap) xs) {i f : Nat} {x : α} (y : α) (u : Value) (hi : xs[i]? = some x) (hf : f < K.sz) (hy : K.enc y = (K.enc x).set f u) :
    Tab K (w.setCell ⟨g, i * K.sz + f, none⟩ u) (.slice (some ⟨g, 0, none⟩) n cap) (xs.set i y) := by
  have hlt : i < xs.length := (List.getElem?_eq_some_iff.1 hi).1
  rcases h.2 with ⟨h1, _⟩ | ⟨g', cap', cur, h1, h0, h3, h4, h5, h6, h7⟩
  · cases h1
  · cases h1
    refine ⟨by rw [K.flat_len], .inr ⟨g, cap, cur.setIfInBounds (i * K.sz + f) u, by simp, h0, ?_, by simpa using h4, h5, by simpa using h6, ?_⟩⟩
    · exact heap_setCell_same w g (i * K.sz + f) cur K.e u h3
    · rw [← K.flat_set xs i f x y u hi hf hy, ← h7, List.length_set, Array.toList_setIfInBounds]
      have : i * K.sz + f < xs.length * K.sz := Nat.lt_of_lt_of_le (Nat.add_lt_add_left hf _) (by rw [← Nat.succ_mul]; exact Nat.mul_le_mul_right _ hlt)
      rw [List.take_set]
/-- Its first elements. -/
theorem take {a : Option Addr} {n cap : Nat} (h : Tab K w (.slice a n cap) xs) {m : Nat} (hm : m ≤ xs.length) : Tab K w (.slice a m cap) (xs.take m) := by
  have hl : (xs.take m).length = m := by simp [hm]
  have hfl : (xs.take m).flatMap K.enc = (xs.flatMap K.enc).take (m * K.sz) := by
    have h1 : xs.flatMap K.enc = (xs.take m).flatMap K.enc ++ (xs.drop m).flatMap K.enc := by rw [← List.flatMap_append, List.take_append_drop]
    rw [h1, List.take_left' (by rw [K.flat_len, hl])]
  refine ⟨by rw [K.flat_len], ?_⟩
  rcases h.2 with ⟨h1, h2⟩ | ⟨g', cap', cur, h1, h0, h3, h4, h5, h6, h7⟩
  · cases h1
    have : m = 0 := by omega
    subst this
    exact .inl ⟨rfl, by simp⟩
  · cases h1
    refine .inr ⟨g', cap, cur, by rw [hl], h0, h3, by omega, h5, h6, ?_⟩
    rw [hl, hfl, ← h7, List.take_take, Nat.min_eq_left (Nat.mul_le_mul_right _ hm)]
end Tab

/-- What the program says of the kind: T: the slice type's number. -/
structure KindAt {α : Type} (P : Program) (T : TypeId) (K : Kind α) (bytes : Nat) : Prop where
  under : P.underlying T = some (.slice K.e)
  info : ∃ i z, P.info? K.e = some i ∧ i.zero = some z ∧ i.size = K.sz ∧ i.bytes = bytes ∧ z.cells.size = K.sz

theorem KindAt.mk' {α : Type} {P : Program} {T : TypeId} {K : Kind α} {bytes : Nat} (h1 : P.underlying T = some (.slice K.e))
    (h2 : ((P.info? K.e).bind fun i => i.zero.map fun z => (i.size, i.bytes, z.cells.size)) = some (K.sz, bytes, K.sz)) : KindAt P T K bytes := by
  refine ⟨h1, ?_⟩
  cases hi : P.info? K.e with
  | none => simp [hi] at h2
  | some i =>
    cases hz : i.zero with
    | none => simp [hi, hz] at h2
    | some z =>
      simp [hi, hz] at h2
      exact ⟨i, z, rfl, hz, h2.1, h2.2.1, h2.2.2⟩

/-- The block that an appended slice has: the old one, or the next. -/
def Fresh (w : World) (v v' : Value) : Prop := ∀ k, v'.ownBlock = some k → v.ownBlock = some k ∨ k = w.heap.size

theorem run_append_tab {α : Type} {P : Program} {T ty : TypeId} {K : Kind α} {bytes : Nat} (hk : KindAt P T K bytes) (w : World) {v : Value} {xs : List α} (hown : Tab K w v xs)
    (a : Addr) (c : Nat) (ys : List α) (hnews : ∀ j u, (ys.flatMap K.enc)[j]? = some u → w.cell? (a.add j) = some u)
    (h63 : xs.length + ys.length ≤ maxLen) (hbytes : (xs.length + ys.length) * bytes ≤ 140737488355328) :
    ∃ v' w', (Builtin.append_ #[T, T] ty #[v, .slice (some a) ys.length c]).run P w = .ok v' w' ∧ Tab K w' v' (xs ++ ys) ∧ w.grownBy w' v.ownBlock ∧ Fresh w v v' := by
  obtain ⟨i, z, hi, hz, hs, hb, hzs⟩ := hk.info
  have hlen := K.flat_len ys
  have h1 : ∀ u ∈ ys.flatMap K.enc, u.oneCell' = true := fun u hu => by
    obtain ⟨y, _, hy⟩ := List.mem_flatMap.1 hu
    exact K.one y u hy
  obtain ⟨v', w', hr, ho, hg, _⟩ := run_append_own (P := P) w 0 T ty K.e i z K.sz bytes hk.under hi hz hs hb hzs K.pos v xs.length _ hown a ys.length c _ hlen hnews h1 h63 hbytes (Nat.zero_le _)
  refine ⟨v', w', hr, ?_, hg, ?_⟩
  · unfold Tab; rw [List.length_append, List.flatMap_append]; exact ho
  · intro k hkk
    rcases hown.2 with ⟨rfl, h0⟩ | ⟨g, cap, cur, rfl, _, hgg, hnc, hcm, hcs, htake⟩
    · have hx : xs = [] := List.eq_nil_of_length_eq_zero h0
      subst hx
      obtain ⟨v2, w2, hr2, ho2, hg2, _⟩ := run_append_own (P := P) w w.heap.size T ty K.e i z K.sz bytes hk.under hi hz hs hb hzs K.pos (.slice none 0 0) 0 [] (World.ownsRow_nil w _ _ _) a ys.length c _ hlen hnews h1
        (by simpa using h63) (by simpa using hbytes) (Nat.le_refl _)
      by_cases hm : ys.length = 0
      · have hnil : ys = [] := List.eq_nil_of_length_eq_zero hm
        subst hnil
        have : (Builtin.append_ #[T, T] ty #[.slice none 0 0, .slice (some a) 0 c]).run P w = .ok (.slice none 0 0) w := by
          simp [Builtin.append_, run_underlying hk.under, sizeOf, typeInfo, hi, Builtin.lenOf, Builtin.firstCells, loadCells, loadCellsFrom]
        rw [List.length_nil, this] at hr
        cases hr
        simp [Value.ownBlock] at hkk
      · have hnn := run_append_nil (P := P) w T ty K.e i z hk.under hi hz a ys.length c _ (by rw [hs]; exact hlen) hnews (by omega) (by simp only [maxLen] at h63; simp at h63; omega) (by
            rw [hb]; simp at hbytes; omega)
        rw [hnn] at hr
        cases hr
        simp [Value.ownBlock] at hkk
        exact .inr hkk.symm
    · by_cases hroom : xs.length + ys.length ≤ cap
      · have hfit : xs.length * i.size + (ys.flatMap K.enc).length ≤ cur.size := by rw [hlen, hcs, hs, ← Nat.add_mul]; exact Nat.mul_le_mul_right _ hroom
        have hr2 := run_append_room (P := P) w T ty K.e i hk.under hi g xs.length cap cur hgg a ys.length c _ (by rw [hs]; exact hlen) hnews h1 hroom hfit
        rw [hr2] at hr
        cases hr
        exact .inl hkk
      · have holds : ∀ j u, (xs.flatMap K.enc)[j]? = some u → w.cell? ((⟨g, 0, none⟩ : Addr).add j) = some u := World.ownsRow.cells (g := g) hown rfl
        have hr2 := run_append_grow (P := P) w T ty K.e i z hk.under hi hz ⟨g, 0, none⟩ xs.length cap _ (by rw [hs]; exact K.flat_len xs) holds a ys.length c _ (by rw [hs]; exact hlen) hnews (by omega)
          (by simp only [maxLen] at h63; omega) (growslice_fits (by omega) (by rw [hb]; exact hbytes))
        rw [hr2] at hr
        cases hr
        simp [Value.ownBlock] at hkk
        exact .inr hkk.symm

/-- 'append(s, x...)' where s is a slice of the program's own. -/
theorem wpList_append_tab {α : Type} {P : Program} {T : TypeId} {K : Kind α} {bytes : Nat} (hk : KindAt P T K bytes) {w : World} {ops : Array Oper} {rest : List Oper} {o : Oper} {a : Act}
    {Q : Exit → Act → World → Prop} (hgd : o.guard = none) (s x : Operand) (ho : o.op = .call { callee := .builtin .append, args := #[s, x], argTypes := #[T, T] })
    {v : Value} {xs : List α} (hs : a.eval s = v) (hown : Tab K w v xs) (ad : Addr) (m c : Nat) (ys : List α) (hx : a.eval x = .slice (some ad) m c) (hm : m = ys.length)
    (hnews : ∀ j u, (ys.flatMap K.enc)[j]? = some u → w.cell? (ad.add j) = some u)
    (h63 : xs.length + ys.length ≤ maxLen) (hbytes : (xs.length + ys.length) * bytes ≤ 140737488355328)
    (h : ∀ v' w', Tab K w' v' (xs ++ ys) → w.grownBy w' v.ownBlock → Fresh w v v' → wpList P ops Q rest (a.put o.dst v') w') : wpList P ops Q (o :: rest) a w := by
  subst hm
  refine wpList_plain hgd fun _ hK => ?_
  obtain ⟨v', w', hr, h2, h3, h4⟩ := run_append_tab (P := P) (ty := o.type) hk w hown ad c ys hnews h63 hbytes
  unfold Oper.wp execOp
  simp only [ho, resolve, invoke, builtin, Sem.run_bind, Sem.run_pure, Result.andThen_ok, List.map_toArray, List.map_cons, List.map_nil, hs, hx, hr]
  exact hK _ _ (h v' w' h2 h3 h4)

/-- Block b holds just these cells. -/
def Blk (w : World) (b : Nat) (cs : Array Value) (t : TypeId) : Prop := w.heap[b]? = some (.cells cs t (0, 0))
namespace Blk
variable {w w' : World} {b : Nat} {cs : Array Value} {t : TypeId}
theorem lt (h : Blk w b cs t) : b < w.heap.size := (Array.getElem?_eq_some_iff.1 h).1
theorem cell (h : Blk w b cs t) (o : Nat) : w.cell? ⟨b, o, none⟩ = cs[o]? := cell_of_row w b o cs t (0, 0) h
theorem frozen (h : Blk w b cs t) (o : Nat) : w.frozen? ⟨b, o, none⟩ = false := frozen_of_row w b o cs t h
theorem kept (h : Blk w b cs t) (hb : w'.heap[b]? = w.heap[b]?) : Blk w' b cs t := hb.trans h
theorem touch {S : List Nat} (h : Blk w b cs t) (ht : Tch S w w') (hn : b ∉ S) : Blk w' b cs t := h.kept (ht.block b h.lt hn)
theorem drew (h : Blk w b cs t) : Blk w.drew b cs t := h
theorem alloc (h : Blk w b cs t) (o : Obj) : Blk (w.alloc o) b cs t := h.kept (Below.heap_alloc w o b h.lt)
theorem other (h : Blk w b cs t) {p : Addr} (hp : b ≠ p.block) (u : Value) : Blk (w.setCell p u) b cs t := h.kept (heap_setCell_other w p b u hp)
theorem set (h : Blk w b cs t) (o : Nat) (u : Value) : Blk (w.setCell ⟨b, o, none⟩ u) b (cs.setIfInBounds o u) t := heap_setCell_same w b o cs t u h
theorem new (w : World) (cs : Array Value) (t : TypeId) : Blk (w.alloc (.cells cs t)) w.heap.size cs t := heap_alloc_new w _
theorem grown {row : Option Nat} (h : Blk w b cs t) (hg : w.grownBy w' row) (hn : some b ≠ row) : Blk w' b cs t := h.kept (hg.block b h.lt hn)
end Blk

/-- The block of v' is that of v, or new since w. -/
def NewOr (w : World) (v v' : Value) : Prop := ∀ k, v'.ownBlock = some k → v.ownBlock = some k ∨ w.heap.size ≤ k
theorem NewOr.refl (w : World) (v : Value) : NewOr w v v := fun _ h => .inl h
theorem Fresh.newOr {w0 w : World} {v v' : Value} (h : Fresh w v v') (hs : w0.heap.size ≤ w.heap.size) : NewOr w0 v v' := fun k hk => (h k hk).imp id fun e => by omega
theorem NewOr.trans {w0 w : World} {a b c : Value} (h : NewOr w0 a b) (k : NewOr w b c) (hs : w0.heap.size ≤ w.heap.size) : NewOr w0 a c := fun x hx =>
  (k x hx).elim (fun h1 => h x h1) fun h1 => .inr (by omega)

/-- One element, in a block of its own that has just been made: as 'append' reads it. -/
theorem news_one {α : Type} (K : Kind α) (x : α) {w : World} {b : Nat} {t : TypeId} (h : Blk w b (K.enc x).toArray t) :
    ∀ j u, ([x].flatMap K.enc)[j]? = some u → w.cell? ((⟨b, 0, none⟩ : Addr).add j) = some u := by
  intro j u hu
  have hadd : (⟨b, 0, none⟩ : Addr).add j = ⟨b, j, none⟩ := by unfold Addr.add; split <;> simp_all
  rw [hadd, h.cell]
  simpa using hu
theorem Blk.last (w : World) (cs : Array Value) (t : TypeId) {n : Nat} (hn : n = w.heap.size) : Blk (w.alloc (.cells cs t)) n cs t := hn ▸ Blk.new w cs t
end Go.YtfoefmiffkkeaaaDoor
