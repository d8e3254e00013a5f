/-
  The gate and the document's gate go side by side: the same answers, call by call; no condition but that the numbers have not run out.
-/
import Derived.Test.YtdmgbfkioghkeaaPHeap
namespace Go.Ytdmgbfkioghkeaa.Gt

theorem atId_get {l : List G} {id : Int} {i : Nat} (h : atId l id = some i) : ∃ x, l[i]? = some x ∧ x.id = id := by
  unfold atId at h
  rw [List.findIdx?_eq_some_iff_getElem] at h
  obtain ⟨hi, hp, _⟩ := h
  exact ⟨l[i], List.getElem?_eq_getElem hi, by simpa using hp⟩
theorem atId_no {l : List G} {id : Int} : atId l id = none ↔ ∀ x ∈ l, x.id ≠ id := by
  unfold atId
  rw [List.findIdx?_eq_none_iff]
  simp
theorem atId_yes {l : List G} {id : Int} {x : G} (h : x ∈ l) (hx : x.id = id) : ∃ i, atId l id = some i := by
  cases hc : atId l id with
  | some i => exact ⟨i, rfl⟩
  | none => exact absurd hx (atId_no.1 hc x h)
theorem atId_isSome {l : List G} {id : Int} : (atId l id).isSome = l.any (fun x => x.id == id) := by
  unfold atId
  rw [List.findIdx?_isSome]

theorem nodup_inj {f : G → Int} {l : List G} (h : (l.map f).Nodup) {x y : G} (hx : x ∈ l) (hy : y ∈ l) (he : f x = f y) : x = y := by
  induction l with
  | nil => cases hx
  | cons a l ih =>
    rw [List.map_cons, List.nodup_cons] at h
    rcases List.mem_cons.1 hx with h1 | h1
    · rcases List.mem_cons.1 hy with h2 | h2
      · rw [h1, h2]
      · exact absurd (List.mem_map_of_mem (f := f) h2) (by rw [← he, h1]; exact h.1)
    · rcases List.mem_cons.1 hy with h2 | h2
      · exact absurd (List.mem_map_of_mem (f := f) h1) (by rw [he, h2]; exact h.1)
      · exact ih h.2 h1 h2

theorem erase_map (l : List G) (f : G → Int) (i : Nat) : (l.map f).eraseIdx i = (l.eraseIdx i).map f := by
  induction l generalizing i with
  | nil => rfl
  | cons a l ih => cases i with
    | zero => rfl
    | succ i => simp [ih]

/-- Side by side; n: no more calls than that so far. -/
structure Sim (s : Gate) (r : RGate) (n : Int) : Prop where
  most : s.most = r.most
  units : s.units = r.units
  logged : s.logged = r.logged
  clock : s.clock = r.clock
  stamp : s.stamp = r.stamp
  queue : s.queue = r.queue
  inside : s.inside = r.inside.map (·.id)
  turn : s.turn.Perm (⟨0, maxStamp, r.sweeper⟩ :: r.inside)
  heap : Heap s.turn
  ids : ((r.inside ++ r.queue).map (·.id)).Nodup
  id1 : ∀ x ∈ r.inside ++ r.queue, 1 ≤ x.id
  stamps : ((r.inside ++ r.queue).map (·.stamp)).Nodup
  stampLe : ∀ x ∈ r.inside ++ r.queue, x.stamp ≤ r.stamp
  live : r.inside.length + r.queue.length ≤ 64
  most0 : 1 ≤ r.most
  most1 : r.most ≤ 16
  units0 : 1 ≤ r.units
  units1 : r.units ≤ 64
  stamp0 : 0 ≤ r.stamp
  stampN : r.stamp ≤ n
  clock0 : 0 ≤ r.clock
  clockN : r.clock ≤ n
  logged0 : 0 ≤ r.logged
  loggedN : r.logged ≤ n

theorem Sim.more {s : Gate} {r : RGate} {n m : Int} (h : Sim s r n) (hm : n ≤ m) : Sim s r m :=
  { h with stampN := Int.le_trans h.stampN hm, clockN := Int.le_trans h.clockN hm, loggedN := Int.le_trans h.loggedN hm }

theorem sim_new {most units : Int} (h1 : 1 ≤ most) (h2 : most ≤ 16) (h3 : 1 ≤ units) (h4 : units ≤ 64) : Sim (Gate.new most units) (RGate.new most units) 0 where
  most := rfl
  units := rfl
  logged := rfl
  clock := rfl
  stamp := rfl
  queue := rfl
  inside := rfl
  turn := List.Perm.refl _
  heap := by intro k hk a c ha _; have hl := (List.getElem?_eq_some_iff.1 ha).1; simp [Gate.new] at hl; omega
  ids := by simp [RGate.new]
  id1 := by simp [RGate.new]
  stamps := by simp [RGate.new]
  stampLe := by simp [RGate.new]
  live := by simp [RGate.new]
  most0 := h1
  most1 := h2
  units0 := h3
  units1 := h4
  stamp0 := by simp [RGate.new]
  stampN := by simp [RGate.new]
  clock0 := by simp [RGate.new]
  clockN := by simp [RGate.new]
  logged0 := by simp [RGate.new]
  loggedN := by simp [RGate.new]

theorem Sim.all {s : Gate} {r : RGate} {n : Int} (h : Sim s r n) : ((⟨0, maxStamp, r.sweeper⟩ :: r.inside : List G).map (·.id)).Nodup := by
  rw [List.map_cons, List.nodup_cons]
  have h1 := h.ids
  rw [List.map_append, List.nodup_append] at h1
  refine ⟨fun hm => ?_, h1.1⟩
  obtain ⟨x, hx, h0⟩ := List.mem_map.1 hm
  have := h.id1 x (List.mem_append_left _ hx)
  simp only at h0
  omega

/-- Who lies where in the heap. -/
theorem Sim.at {s : Gate} {r : RGate} {n : Int} (h : Sim s r n) {id : Int} {x : G} (hx : x ∈ (⟨0, maxStamp, r.sweeper⟩ :: r.inside : List G)) (hid : x.id = id) : ∃ j, atId s.turn id = some j ∧ s.turn[j]? = some x := by
  obtain ⟨j, hj⟩ := atId_yes (h.turn.mem_iff.2 hx) hid
  obtain ⟨y, hy, hyid⟩ := atId_get hj
  have hym : y ∈ (⟨0, maxStamp, r.sweeper⟩ :: r.inside : List G) := h.turn.mem_iff.1 (List.mem_of_getElem? hy)
  have := nodup_inj h.all hym hx (by rw [hyid, hid])
  exact ⟨j, hj, this ▸ hy⟩

theorem Sim.away {s : Gate} {r : RGate} {n : Int} (h : Sim s r n) {id : Int} (h0 : id ≠ 0) (hi : atId r.inside id = none) : atId s.turn id = none := by
  rw [atId_no] at *
  intro x hx
  rcases List.mem_cons.1 (h.turn.mem_iff.1 hx) with rfl | hx
  · exact Ne.symm h0
  · exact hi x hx

/-! ### Submit -/
theorem Sim.known {s : Gate} {r : RGate} {n : Int} (h : Sim s r n) (id : Int) :
    (s.inside.contains id || s.queue.any (fun q => q.id == id)) = ((atId r.queue id).isSome || (atId r.inside id).isSome) := by
  rw [atId_isSome, atId_isSome, h.queue, h.inside, Bool.or_comm]
  congr 1
  rw [Bool.eq_iff_iff]
  simp [List.contains_eq_mem]

theorem sim_submit {s : Gate} {r : RGate} {n : Int} (h : Sim s r n) (id : Int) :
    (s.submit id).1 = (r.submit id).1 ∧ (s.submit id).2.1 = (r.submit id).2.1 ∧ Sim (s.submit id).2.2 (r.submit id).2.2 (n + 1) := by
  have hm := h.more (show n ≤ n + 1 by omega)
  unfold Gate.submit RGate.submit
  by_cases h1 : id < 1 ∨ 1073741824 < id
  · rw [if_pos h1, if_pos h1]; exact ⟨rfl, rfl, hm⟩
  rw [if_neg h1, if_neg h1, h.known id]
  by_cases h2 : ((atId r.queue id).isSome || (atId r.inside id).isSome) = true
  · rw [if_pos h2, if_pos h2]; exact ⟨rfl, rfl, hm⟩
  rw [if_neg h2, if_neg h2]
  have hl : s.inside.length + s.queue.length = r.queue.length + r.inside.length := by rw [h.inside, h.queue, List.length_map]; omega
  rw [hl]
  by_cases h3 : 64 ≤ r.queue.length + r.inside.length
  · rw [if_pos h3, if_pos h3]; exact ⟨rfl, rfl, hm⟩
  rw [if_neg h3, if_neg h3]
  have hno : ∀ x ∈ r.inside ++ r.queue, x.id ≠ id := by
    intro x hx hid
    rw [Bool.or_eq_true, atId_isSome, atId_isSome] at h2
    rcases List.mem_append.1 hx with hx | hx
    · exact h2 (.inr (List.any_eq_true.2 ⟨x, hx, by simpa using hid⟩))
    · exact h2 (.inl (List.any_eq_true.2 ⟨x, hx, by simpa using hid⟩))
  have e : r.inside ++ (r.queue ++ [(⟨id, r.stamp + 1, 0⟩ : G)]) = (r.inside ++ r.queue) ++ [⟨id, r.stamp + 1, 0⟩] := by rw [List.append_assoc]
  refine ⟨by rw [h.stamp], rfl, { hm with stamp := by simp [h.stamp], queue := by simp [h.queue, h.stamp], ids := ?_, id1 := ?_, stamps := ?_, stampLe := ?_, live := ?_, stamp0 := ?_, stampN := ?_ }⟩
  · show ((r.inside ++ (r.queue ++ [(⟨id, r.stamp + 1, 0⟩ : G)])).map (·.id)).Nodup
    rw [e, List.map_append, List.nodup_append]
    refine ⟨h.ids, by simp, fun a ha b hb => ?_⟩
    obtain ⟨x, hx, rfl⟩ := List.mem_map.1 ha
    simp only [List.map_cons, List.map_nil, List.mem_singleton] at hb
    subst hb
    exact hno x hx
  · show ∀ x ∈ r.inside ++ (r.queue ++ [(⟨id, r.stamp + 1, 0⟩ : G)]), 1 ≤ x.id
    rw [e]
    intro x hx
    rcases List.mem_append.1 hx with hx | hx
    · exact h.id1 x hx
    · rw [List.mem_singleton] at hx; subst hx; show 1 ≤ id; omega
  · show ((r.inside ++ (r.queue ++ [(⟨id, r.stamp + 1, 0⟩ : G)])).map (·.stamp)).Nodup
    rw [e, List.map_append, List.nodup_append]
    refine ⟨h.stamps, by simp, fun a ha b hb => ?_⟩
    obtain ⟨x, hx, rfl⟩ := List.mem_map.1 ha
    simp only [List.map_cons, List.map_nil, List.mem_singleton] at hb
    subst hb
    have := h.stampLe x hx
    omega
  · show ∀ x ∈ r.inside ++ (r.queue ++ [(⟨id, r.stamp + 1, 0⟩ : G)]), x.stamp ≤ r.stamp + 1
    rw [e]
    intro x hx
    rcases List.mem_append.1 hx with hx | hx
    · have := h.stampLe x hx; omega
    · rw [List.mem_singleton] at hx; subst hx; exact Int.le_refl _
  · show r.inside.length + (r.queue ++ [(⟨id, r.stamp + 1, 0⟩ : G)]).length ≤ 64
    simp; omega
  · show 0 ≤ r.stamp + 1
    have := h.stamp0; omega
  · show r.stamp + 1 ≤ n + 1
    have := h.stampN; omega

/-! ### Admit -/
theorem Sim.may {s : Gate} {r : RGate} {n : Int} (h : Sim s r n) : s.may = r.may := by
  unfold Gate.may RGate.may
  rw [h.queue, h.inside, h.most, h.logged, h.units, List.length_map]

theorem Sim.enter {s : Gate} {r : RGate} {n : Int} (h : Sim s r n) {q : G} {rest : List G} (hq : r.queue = q :: rest) : Sim s.enter r.enter n := by
  have hs : s.queue = q :: rest := h.queue.trans hq
  have e1 : s.enter = { s with queue := rest, inside := s.inside ++ [q.id], turn := rise (s.turn ++ [{ q with last := s.clock }]) s.turn.length } := by unfold Gate.enter; rw [hs]
  have e2 : r.enter = { r with queue := rest, inside := r.inside ++ [{ q with last := r.clock }] } := by unfold RGate.enter; rw [hq]
  rw [e1, e2]
  have hids := h.ids
  have hid1 := h.id1
  have hst := h.stamps
  have hsl := h.stampLe
  have hlv := h.live
  rw [hq] at hids hid1 hst hsl hlv
  refine { h with queue := rfl, inside := ?_, turn := ?_, heap := ?_, ids := ?_, id1 := ?_, stamps := ?_, stampLe := ?_, live := ?_ }
  · simp [h.inside]
  · refine (rise_perm _ _).trans ?_
    rw [h.clock]
    exact h.turn.append_right _
  · exact push_heap h.heap _
  · simpa using hids
  · intro x hx
    simp only [List.append_assoc, List.mem_append, List.mem_cons, List.mem_nil_iff, or_false] at hx
    rcases hx with hx | rfl | hx
    · exact hid1 x (by simp [hx])
    · exact hid1 q (by simp)
    · exact hid1 x (by simp [hx])
  · simpa using hst
  · intro x hx
    simp only [List.append_assoc, List.mem_append, List.mem_cons, List.mem_nil_iff, or_false] at hx
    rcases hx with hx | rfl | hx
    · exact hsl x (by simp [hx])
    · exact hsl q (by simp)
    · exact hsl x (by simp [hx])
  · simp at hlv ⊢; omega

theorem gadmit_stop {s : Gate} {out : List Int} (h : s.may = false) : s.admit out = (out, s) := by
  rw [Gate.admit]
  split
  · rfl
  · rw [if_neg (by rw [h]; simp)]
theorem gadmit_go {s : Gate} {out : List Int} {q : G} {rest : List G} (hq : s.queue = q :: rest) (h : s.may = true) : s.admit out = s.enter.admit (out ++ [q.id]) := by
  rw [Gate.admit]
  split
  · rename_i h0; rw [hq] at h0; cases h0
  · rename_i q' rest' h0
    rw [hq] at h0; cases h0
    rw [if_pos h]
theorem dadmit_stop {r : RGate} {out : List Int} (h : r.may = false) : r.admit out = (out, r) := by
  rw [RGate.admit]
  split
  · rfl
  · rw [if_neg (by rw [h]; simp)]
theorem dadmit_go {r : RGate} {out : List Int} {q : G} {rest : List G} (hq : r.queue = q :: rest) (h : r.may = true) : r.admit out = r.enter.admit (out ++ [q.id]) := by
  rw [RGate.admit]
  split
  · rename_i h0; rw [hq] at h0; cases h0
  · rename_i q' rest' h0
    rw [hq] at h0; cases h0
    rw [if_pos h]

theorem sim_admit : ∀ (k : Nat) {s : Gate} {r : RGate} {n : Int} (out : List Int), r.queue.length = k → Sim s r n → (s.admit out).1 = (r.admit out).1 ∧ Sim (s.admit out).2 (r.admit out).2 n
  | 0, s, r, n, out, hk, h => by
    have hm : r.may = false := by unfold RGate.may; simp [hk]
    rw [gadmit_stop (h.may.trans hm), dadmit_stop hm]
    exact ⟨rfl, h⟩
  | k + 1, s, r, n, out, hk, h => by
    cases hm : r.may with
    | false =>
      rw [gadmit_stop (h.may.trans hm), dadmit_stop hm]
      exact ⟨rfl, h⟩
    | true =>
      cases hq : r.queue with
      | nil => rw [hq] at hk; simp at hk
      | cons q rest =>
        rw [gadmit_go (h.queue.trans hq) (h.may.trans hm), dadmit_go hq hm]
        refine sim_admit k _ ?_ (h.enter hq)
        unfold RGate.enter
        rw [hq] at hk ⊢
        simpa using hk

/-! ### End -/
theorem Sim.find {s : Gate} {r : RGate} {n : Int} (h : Sim s r n) (id : Int) : s.inside.findIdx? (· == id) = atId r.inside id := by
  rw [h.inside, List.findIdx?_map]
  rfl

theorem sim_fin {s : Gate} {r : RGate} {n : Int} (h : Sim s r n) (id : Int) (lg : Bool) : (s.fin id lg).1 = (r.fin id lg).1 ∧ Sim (s.fin id lg).2 (r.fin id lg).2 (n + 1) := by
  have hm := h.more (show n ≤ n + 1 by omega)
  unfold Gate.fin RGate.fin
  rw [h.find id]
  cases hi : atId r.inside id with
  | none => exact ⟨rfl, hm⟩
  | some i =>
    obtain ⟨x, hx, hxid⟩ := atId_get hi
    obtain ⟨j, hj, hjx⟩ := h.at (List.mem_cons_of_mem _ (List.mem_of_getElem? hx)) hxid
    have hjl : j < s.turn.length := (List.getElem?_eq_some_iff.1 hjx).1
    rw [hj]
    have hsub : (r.inside.eraseIdx i ++ r.queue).Sublist (r.inside ++ r.queue) := (List.eraseIdx_sublist _ _).append_right _
    refine ⟨rfl, { hm with logged := ?_, inside := ?_, turn := ?_, heap := ?_, ids := ?_, id1 := ?_, stamps := ?_, stampLe := ?_, live := ?_, logged0 := ?_, loggedN := ?_ }⟩
    · simp only [h.logged]
    · show s.inside.eraseIdx i = (r.inside.eraseIdx i).map (·.id)
      rw [h.inside, erase_map]
    · exact (remove_perm hjl).trans (erase_perm (j := i + 1) h.turn hjx (by simpa using hx))
    · exact remove_heap h.heap hjl
    · exact h.ids.sublist (hsub.map _)
    · exact fun y hy => h.id1 y (hsub.subset hy)
    · exact h.stamps.sublist (hsub.map _)
    · exact fun y hy => h.stampLe y (hsub.subset hy)
    · show (r.inside.eraseIdx i).length + r.queue.length ≤ 64
      have := List.length_eraseIdx_le r.inside i
      have := h.live
      omega
    · show 0 ≤ (if lg = true then r.logged + 1 else r.logged)
      have := h.logged0
      split <;> omega
    · show (if lg = true then r.logged + 1 else r.logged) ≤ n + 1
      have := h.loggedN
      split <;> omega

theorem sim_swept {s : Gate} {r : RGate} {n : Int} (h : Sim s r n) (hn : 0 ≤ n) : Sim s.swept r.swept n :=
  { h with logged := rfl, logged0 := Int.le_refl _, loggedN := hn }

/-! ### Next -/
theorem best_mem : ∀ (l : List G) (a : G), l.foldl better a ∈ a :: l
  | [], a => by simp
  | x :: l, a => by
    rw [List.foldl_cons]
    have h := best_mem l (better a x)
    rcases List.mem_cons.1 h with h | h
    · rw [h]
      unfold better
      split <;> simp
    · exact List.mem_cons_of_mem _ (List.mem_cons_of_mem _ h)
theorem better_le (a x : G) : x.ahead (better a x) = false ∧ a.ahead (better a x) = false := by
  unfold better
  split
  · rename_i h
    refine ⟨ahead_irrefl _, not_ahead_of_ahead (ahead_iff.2 ?_)⟩
    omega
  · rename_i h
    refine ⟨not_ahead_iff.2 ?_, ahead_irrefl _⟩
    omega
theorem best_le_all : ∀ (l : List G) (a : G), ∀ y ∈ a :: l, y.ahead (l.foldl better a) = false
  | [], a, y, hy => by
    rw [List.mem_singleton] at hy; subst hy; exact ahead_irrefl _
  | x :: l, a, y, hy => by
    rw [List.foldl_cons]
    have h := best_le_all l (better a x)
    rcases List.mem_cons.1 hy with rfl | hy
    · exact not_ahead_trans (better_le y x).2 (h _ (List.mem_cons_self ..))
    rcases List.mem_cons.1 hy with rfl | hy
    · exact not_ahead_trans (better_le a y).1 (h _ (List.mem_cons_self ..))
    · exact h y (List.mem_cons_of_mem _ hy)

theorem sim_next {s : Gate} {r : RGate} {n : Int} (h : Sim s r n) (hn : n < maxStamp) : s.next = r.next := by
  unfold Gate.next RGate.next RGate.best
  have hbm := best_mem r.inside ⟨0, r.stamp + 1, r.sweeper⟩
  have hbl := best_le_all r.inside ⟨0, r.stamp + 1, r.sweeper⟩
  generalize r.inside.foldl better ⟨0, r.stamp + 1, r.sweeper⟩ = y at *
  have hsl : ∀ x ∈ r.inside, x.stamp ≤ r.stamp := fun x hx => h.stampLe x (List.mem_append_left _ hx)
  have hN := h.stampN
  have hperm := h.turn
  have hheap := h.heap
  cases ht : s.turn with
  | nil => rw [ht] at hperm; exact absurd hperm.length_eq (by simp)
  | cons t ts =>
    rw [ht] at hperm hheap
    have htop : ∀ x ∈ (⟨0, maxStamp, r.sweeper⟩ :: r.inside : List G), x.ahead t = false := fun x hx => by
      obtain ⟨k, hk⟩ := List.mem_iff_getElem?.1 (hperm.mem_iff.2 hx)
      exact heap_head hheap k x hk
    show t.id = y.id
    rcases List.mem_cons.1 (hperm.mem_iff.1 (List.mem_cons_self ..)) with rfl | htm
    · rcases List.mem_cons.1 hbm with rfl | hym
      · rfl
      · exfalso
        have a1 := htop y (List.mem_cons_of_mem _ hym)
        have a2 := hbl _ (List.mem_cons_self ..)
        have a3 := hsl y hym
        rw [not_ahead_iff] at a1 a2
        simp only at a1 a2
        omega
    · have a0 := htop _ (List.mem_cons_self ..)
      have a3 := hsl t htm
      rcases List.mem_cons.1 hbm with rfl | hym
      · exfalso
        have a2 := hbl t (List.mem_cons_of_mem _ htm)
        rw [not_ahead_iff] at a0 a2
        simp only at a0 a2
        omega
      · have a1 := htop y (List.mem_cons_of_mem _ hym)
        have a2 := hbl t (List.mem_cons_of_mem _ htm)
        rw [not_ahead_iff] at a1 a2
        have hst := h.stamps
        rw [List.map_append, List.nodup_append] at hst
        rw [nodup_inj hst.1 htm hym (by omega)]

/-! ### Picked -/
theorem modify_set {l : List G} {i : Nat} {x : G} (hx : l[i]? = some x) (f : G → G) : l.modify i f = l.set i (f x) := by
  obtain ⟨hi, rfl⟩ := List.getElem?_eq_some_iff.1 hx
  apply List.ext_getElem?
  intro j
  rw [List.getElem?_modify, List.getElem?_set]
  by_cases hij : i = j
  · subst hij; rw [if_pos rfl, if_pos hi]; simp [hi]
  · rw [if_neg hij]; simp [hij]

theorem map_modify {l : List G} {i : Nat} {f : G → G} {p : G → Int} (hp : ∀ x, p (f x) = p x) : (l.modify i f).map p = l.map p := by
  apply List.ext_getElem?
  intro j
  rw [List.getElem?_map, List.getElem?_modify, List.getElem?_map]
  by_cases hij : i = j
  · cases l[j]? <;> simp [hij, hp]
  · cases l[j]? <;> simp [hij]

theorem mem_modify {l : List G} {i : Nat} {f : G → G} {p : G → Int} (hp : ∀ x, p (f x) = p x) {y : G} (hy : y ∈ l.modify i f) : ∃ x ∈ l, p x = p y := by
  have : p y ∈ (l.modify i f).map p := List.mem_map_of_mem hy
  rw [map_modify hp] at this
  exact List.mem_map.1 this

theorem sim_picked {s : Gate} {r : RGate} {n : Int} (h : Sim s r n) (id : Int) : (s.picked id).1 = (r.picked id).1 ∧ Sim (s.picked id).2 (r.picked id).2 (n + 1) := by
  have hm := h.more (show n ≤ n + 1 by omega)
  have hc0 := h.clock0
  have hcn := h.clockN
  by_cases hid : id = 0
  · subst hid
    have hr : r.picked 0 = (0, { r with clock := r.clock + 1, sweeper := r.clock + 1 }) := by unfold RGate.picked; cases atId r.inside 0 <;> rfl
    obtain ⟨j, hj, hjx⟩ := h.at (id := 0) (x := ⟨0, maxStamp, r.sweeper⟩) (List.mem_cons_self ..) rfl
    have hjl : j < s.turn.length := (List.getElem?_eq_some_iff.1 hjx).1
    have hs : s.picked 0 = (0, { s with clock := s.clock + 1, turn := sink (rise (s.turn.set j ⟨0, maxStamp, r.clock + 1⟩) j) j }) := by
      unfold Gate.picked; rw [hj]; simp only; rw [modify_set hjx, h.clock]
    rw [hr, hs]
    refine ⟨rfl, { hm with clock := by simp [h.clock], turn := ?_, heap := fix_heap h.heap hjl _, clock0 := ?_, clockN := ?_ }⟩
    · refine (sink_perm _ _).trans ((rise_perm _ _).trans ((set_perm hjl _).trans (List.Perm.cons _ ?_)))
      exact erase_perm (j := 0) h.turn hjx rfl
    · show 0 ≤ r.clock + 1; omega
    · show r.clock + 1 ≤ n + 1; omega
  · cases hi : atId r.inside id with
    | none =>
      have hs : s.picked id = (152, s) := by unfold Gate.picked; rw [h.away hid hi]
      have hr : r.picked id = (152, r) := by unfold RGate.picked; rw [hi]; simp [hid]
      rw [hs, hr]
      exact ⟨rfl, hm⟩
    | some i =>
      obtain ⟨x, hx, hxid⟩ := atId_get hi
      obtain ⟨j, hj, hjx⟩ := h.at (List.mem_cons_of_mem _ (List.mem_of_getElem? hx)) hxid
      have hjl : j < s.turn.length := (List.getElem?_eq_some_iff.1 hjx).1
      have hil : i < r.inside.length := (List.getElem?_eq_some_iff.1 hx).1
      have hs : s.picked id = (0, { s with clock := s.clock + 1, turn := sink (rise (s.turn.set j { x with last := r.clock + 1 }) j) j }) := by
        unfold Gate.picked; rw [hj]; simp only; rw [modify_set hjx, h.clock]
      have hr : r.picked id = (0, { r with clock := r.clock + 1, inside := r.inside.modify i fun x => { x with last := r.clock + 1 } }) := by
        unfold RGate.picked; rw [hi]; simp [hid]
      rw [hs, hr]
      have eid : (r.inside.modify i fun x => { x with last := r.clock + 1 }).map (·.id) = r.inside.map (·.id) := map_modify fun _ => rfl
      have est : (r.inside.modify i fun x => { x with last := r.clock + 1 }).map (·.stamp) = r.inside.map (·.stamp) := map_modify fun _ => rfl
      refine ⟨rfl, { hm with clock := by simp [h.clock], inside := ?_, turn := ?_, heap := fix_heap h.heap hjl _, ids := ?_, id1 := ?_, stamps := ?_, stampLe := ?_, live := ?_, clock0 := ?_, clockN := ?_ }⟩
      · exact h.inside.trans eid.symm
      · refine (sink_perm _ _).trans ((rise_perm _ _).trans ((set_perm hjl _).trans ?_))
        have h1 := erase_perm (j := i + 1) h.turn hjx (by simpa using hx)
        refine (List.Perm.cons _ h1).trans ?_
        show List.Perm (_ :: ⟨0, maxStamp, r.sweeper⟩ :: r.inside.eraseIdx i) (⟨0, maxStamp, r.sweeper⟩ :: r.inside.modify i _)
        refine (List.Perm.swap _ _ _).trans (List.Perm.cons _ ?_)
        rw [modify_set hx]
        exact (set_perm hil _).symm
      · show (((r.inside.modify i fun x => { x with last := r.clock + 1 }) ++ r.queue).map (·.id)).Nodup
        have := h.ids
        rw [List.map_append] at this ⊢
        rwa [eid]
      · intro y hy
        rcases List.mem_append.1 hy with hy | hy
        · obtain ⟨z, hz, he⟩ := mem_modify (f := fun x => { x with last := r.clock + 1 }) (p := (·.id)) (fun _ => rfl) hy
          have := h.id1 z (List.mem_append_left _ hz)
          have he' : z.id = y.id := he
          omega
        · exact h.id1 y (List.mem_append_right _ hy)
      · show (((r.inside.modify i fun x => { x with last := r.clock + 1 }) ++ r.queue).map (·.stamp)).Nodup
        have := h.stamps
        rw [List.map_append] at this ⊢
        rwa [est]
      · intro y hy
        show y.stamp ≤ r.stamp
        rcases List.mem_append.1 hy with hy | hy
        · obtain ⟨z, hz, he⟩ := mem_modify (f := fun x => { x with last := r.clock + 1 }) (p := (·.stamp)) (fun _ => rfl) hy
          have := h.stampLe z (List.mem_append_left _ hz)
          have he' : z.stamp = y.stamp := he
          omega
        · exact h.stampLe y (List.mem_append_right _ hy)
      · show (r.inside.modify i _).length + r.queue.length ≤ 64
        rw [List.length_modify]
        exact h.live
      · show 0 ≤ r.clock + 1; omega
      · show r.clock + 1 ≤ n + 1; omega
end Go.Ytdmgbfkioghkeaa.Gt
