/-
  Nobody inside, nor the sweeper, sees more than most turns go by without its own; no condition but that the numbers have not run out.
-/
import Derived.Test.YtdmgbfkioghkeaaPRoom
namespace Go.Ytdmgbfkioghkeaa.Gt

/-- All that may be named. -/
def turnsOf (r : RGate) : List G := ⟨0, maxStamp, r.sweeper⟩ :: r.inside
/-- How many are ahead. -/
def cnt (L : List G) (x : G) : Nat := L.countP fun y => y.ahead x

theorem cnt_le {L : List G} {x : G} (hx : x ∈ L) : cnt L x + 1 ≤ L.length := by
  obtain ⟨l1, l2, rfl⟩ := List.append_of_mem hx
  unfold cnt
  rw [List.countP_append, List.countP_cons, ahead_irrefl]
  have h1 := List.countP_le_length (p := fun y => y.ahead x) (l := l1)
  have h2 := List.countP_le_length (p := fun y => y.ahead x) (l := l2)
  simp
  omega

/-- z: who, and how many turns went by. -/
structure Fair (r : RGate) (Z : List (G × Int)) : Prop where
  list : Z.map Prod.fst = turnsOf r
  gone0 : ∀ z ∈ Z, 0 ≤ z.2
  sum : ∀ z ∈ Z, z.2 + cnt (turnsOf r) z.1 ≤ r.most
  late : ∀ z ∈ Z, 1 ≤ z.2 → z.1.last < r.clock

def Lasts (r : RGate) : Prop := ∀ x ∈ turnsOf r, x.last ≤ r.clock

theorem Fair.same {r r' : RGate} {Z : List (G × Int)} (h : Fair r Z) (h1 : turnsOf r' = turnsOf r) (h2 : r'.most = r.most) (h3 : r'.clock = r.clock) : Fair r' Z :=
  ⟨by rw [h1]; exact h.list, h.gone0, by rw [h1, h2]; exact h.sum, by rw [h3]; exact h.late⟩
theorem Lasts.same {r r' : RGate} (h : Lasts r) (h1 : turnsOf r' = turnsOf r) (h3 : r'.clock = r.clock) : Lasts r' := by
  unfold Lasts
  rw [h1, h3]; exact h

theorem Fair.le {r : RGate} {Z : List (G × Int)} (h : Fair r Z) {z : G × Int} (hz : z ∈ Z) : z.2 ≤ r.most := by
  have := h.sum z hz; omega

theorem fair_begin (r : RGate) (h : (r.inside.length : Int) ≤ r.most) : Fair r ((turnsOf r).map fun x => (x, 0)) := by
  refine ⟨by simp [Function.comp_def], fun z hz => ?_, fun z hz => ?_, fun z hz h1 => ?_⟩
  · obtain ⟨x, hx, rfl⟩ := List.mem_map.1 hz; exact Int.le_refl _
  · obtain ⟨x, hx, rfl⟩ := List.mem_map.1 hz
    have := cnt_le hx
    have hl : (turnsOf r).length = r.inside.length + 1 := rfl
    simp only
    omega
  · obtain ⟨x, hx, rfl⟩ := List.mem_map.1 hz
    simp only at h1
    omega

/-! ### The document's Admit -/
structure Enters (r : RGate) (out : List Int) (x : List Int × RGate) : Prop where
  inside : ∃ more : List G, x.2.inside = r.inside ++ more ∧ x.1 = out ++ more.map (·.id) ∧ ∀ y ∈ more, y.last = r.clock
  most : x.2.most = r.most
  clock : x.2.clock = r.clock
  sweeper : x.2.sweeper = r.sweeper

theorem denter_eq {r : RGate} {q : G} {rest : List G} (hq : r.queue = q :: rest) : r.enter = { r with queue := rest, inside := r.inside ++ [{ q with last := r.clock }] } := by unfold RGate.enter; rw [hq]

theorem enters : ∀ (k : Nat) (r : RGate) (out : List Int), r.queue.length = k → Enters r out (r.admit out)
  | 0, r, out, hk => by
    have hm : r.may = false := by unfold RGate.may; simp [hk]
    rw [dadmit_stop hm]
    exact ⟨⟨[], by simp, by simp, by simp⟩, rfl, rfl, rfl⟩
  | k + 1, r, out, hk => by
    cases hm : r.may with
    | false =>
      rw [dadmit_stop hm]
      exact ⟨⟨[], by simp, by simp, by simp⟩, rfl, rfl, rfl⟩
    | true =>
      cases hq : r.queue with
      | nil => rw [hq] at hk; simp at hk
      | cons q rest =>
        have he := denter_eq hq
        rw [dadmit_go hq hm]
        have ih := enters k r.enter (out ++ [q.id]) (by rw [he]; rw [hq] at hk; simpa using hk)
        obtain ⟨more, h1, h2, h3⟩ := ih.inside
        refine ⟨⟨{ q with last := r.clock } :: more, ?_, ?_, ?_⟩, ?_, ?_, ?_⟩
        · rw [h1, he]; simp
        · rw [h2]; simp
        · intro y hy
          rcases List.mem_cons.1 hy with rfl | hy
          · rfl
          · rw [h3 y hy, he]
        · rw [ih.most, he]
        · rw [ih.clock, he]
        · rw [ih.sweeper, he]

theorem fair_admit {r : RGate} {Z : List (G × Int)} (h : Fair r Z) (hm : (((r.admit []).2.inside.length : Nat) : Int) ≤ r.most) :
    ∃ more : List G, (r.admit []).1 = more.map (·.id) ∧ Fair (r.admit []).2 (Z ++ more.map fun x => (x, 0)) := by
  have he := enters _ r [] rfl
  obtain ⟨more, h1, h2, h3⟩ := he.inside
  have hT : turnsOf (r.admit []).2 = turnsOf r ++ more := by unfold turnsOf; rw [h1, he.sweeper]; rfl
  have hlen : (turnsOf (r.admit []).2).length = (r.admit []).2.inside.length + 1 := rfl
  have hbig : ∀ x ∈ turnsOf (r.admit []).2, (0 : Int) + cnt (turnsOf (r.admit []).2) x ≤ (r.admit []).2.most := fun x hx => by
    have := cnt_le hx
    rw [he.most]
    omega
  refine ⟨more, by rw [h2]; rfl, ⟨?_, fun z hz => ?_, fun z hz => ?_, fun z hz hz1 => ?_⟩⟩
  · rw [List.map_append, h.list, hT]; simp [Function.comp_def]
  · rcases List.mem_append.1 hz with hz | hz
    · exact h.gone0 z hz
    · obtain ⟨x, hx, rfl⟩ := List.mem_map.1 hz; exact Int.le_refl _
  · rcases List.mem_append.1 hz with hz | hz
    · by_cases h0 : z.2 = 0
      · rw [h0]
        refine hbig _ ?_
        rw [hT, ← h.list]
        exact List.mem_append_left _ (List.mem_map_of_mem hz)
      · have hg := h.gone0 z hz
        have hl := h.late z hz (by omega)
        have hs := h.sum z hz
        have hc : cnt (turnsOf (r.admit []).2) z.1 = cnt (turnsOf r) z.1 := by
          unfold cnt
          rw [hT, List.countP_append]
          have : more.countP (fun y => y.ahead z.1) = 0 := by
            rw [List.countP_eq_zero]
            intro y hy
            rw [Bool.not_eq_true, not_ahead_iff, h3 y hy]
            exact .inl hl
          omega
        rw [hc, he.most]
        exact hs
    · obtain ⟨x, hx, rfl⟩ := List.mem_map.1 hz
      exact hbig _ (by rw [hT]; exact List.mem_append_right _ hx)
  · rcases List.mem_append.1 hz with hz | hz
    · rw [he.clock]; exact h.late z hz hz1
    · obtain ⟨x, hx, rfl⟩ := List.mem_map.1 hz
      simp only at hz1
      omega

theorem lasts_admit {r : RGate} (h : Lasts r) : Lasts (r.admit []).2 := by
  have he := enters _ r [] rfl
  obtain ⟨more, h1, h2, h3⟩ := he.inside
  intro x hx
  have hT : turnsOf (r.admit []).2 = turnsOf r ++ more := by unfold turnsOf; rw [h1, he.sweeper]; rfl
  rw [hT] at hx
  rw [he.clock]
  rcases List.mem_append.1 hx with hx | hx
  · exact h x hx
  · rw [h3 x hx]; exact Int.le_refl _

/-! ### End -/
theorem erase_filter {l : List G} (h : (l.map (·.id)).Nodup) {i : Nat} {x : G} (hx : l[i]? = some x) : l.eraseIdx i = l.filter fun y => decide (y.id ≠ x.id) := by
  induction l generalizing i with
  | nil => simp at hx
  | cons a l ih =>
    rw [List.map_cons, List.nodup_cons] at h
    cases i with
    | zero =>
      simp only [List.getElem?_cons_zero, Option.some.injEq] at hx
      subst hx
      rw [List.eraseIdx_cons_zero, List.filter_cons_of_neg (by simp)]
      symm
      rw [List.filter_eq_self]
      intro y hy
      have : y.id ≠ a.id := fun he => h.1 (he ▸ List.mem_map_of_mem (f := (·.id)) hy)
      simpa using this
    | succ i =>
      simp only [List.getElem?_cons_succ] at hx
      have hne : a.id ≠ x.id := fun he => h.1 (he ▸ List.mem_map_of_mem (f := (·.id)) (List.mem_of_getElem? hx))
      rw [List.eraseIdx_cons_succ, List.filter_cons_of_pos (by simpa using hne), ih h.2 hx]

theorem fin_turns {s : Gate} {r : RGate} {n : Int} (h : Sim s r n) (id : Int) (lg : Bool) :
    ((r.fin id lg).1 = 152 ∧ (r.fin id lg).2 = r) ∨ ((r.fin id lg).1 = 0 ∧ turnsOf (r.fin id lg).2 = (turnsOf r).filter (fun y => decide (y.id ≠ id)) ∧ (r.fin id lg).2.most = r.most ∧ (r.fin id lg).2.clock = r.clock) := by
  unfold RGate.fin
  cases hi : atId r.inside id with
  | none => exact .inl ⟨rfl, rfl⟩
  | some i =>
    obtain ⟨x, hx, hxid⟩ := atId_get hi
    have h1 := h.id1 x (List.mem_append_left _ (List.mem_of_getElem? hx))
    have hall := h.all
    rw [List.map_cons, List.nodup_cons] at hall
    refine .inr ⟨rfl, ?_, rfl, rfl⟩
    show (⟨0, maxStamp, r.sweeper⟩ :: r.inside.eraseIdx i : List G) = (⟨0, maxStamp, r.sweeper⟩ :: r.inside : List G).filter _
    rw [List.filter_cons_of_pos (by simp; omega), erase_filter hall.2 hx, hxid]

theorem fair_fin {r r' : RGate} {Z : List (G × Int)} (h : Fair r Z) {id : Int} (hT : turnsOf r' = (turnsOf r).filter fun y => decide (y.id ≠ id)) (hm : r'.most = r.most) (hc : r'.clock = r.clock) :
    Fair r' (Z.filter fun z => decide (z.1.id ≠ id)) := by
  refine ⟨?_, fun z hz => h.gone0 z (List.mem_filter.1 hz).1, fun z hz => ?_, fun z hz h1 => ?_⟩
  · rw [hT, ← h.list, List.filter_map]
    rfl
  · have hs := h.sum z (List.mem_filter.1 hz).1
    have hle : cnt (turnsOf r') z.1 ≤ cnt (turnsOf r) z.1 := by
      unfold cnt
      rw [hT]
      exact List.Sublist.countP_le (List.filter_sublist)
    rw [hm]
    omega
  · rw [hc]; exact h.late z (List.mem_filter.1 hz).1 h1

theorem lasts_fin {r r' : RGate} (h : Lasts r) {id : Int} (hT : turnsOf r' = (turnsOf r).filter fun y => decide (y.id ≠ id)) (hc : r'.clock = r.clock) : Lasts r' := by
  intro x hx
  rw [hT] at hx
  rw [hc]
  exact h x (List.mem_filter.1 hx).1

/-! ### Turns -/
theorem Sim.top {s : Gate} {r : RGate} {n : Int} (h : Sim s r n) : ∃ t ∈ turnsOf r, t.id = s.next ∧ ∀ x ∈ turnsOf r, x.ahead t = false := by
  have hperm := h.turn
  have hheap := h.heap
  cases ht : s.turn with
  | nil => rw [ht] at hperm; exact absurd hperm.length_eq (by simp)
  | cons t ts =>
    rw [ht] at hperm hheap
    refine ⟨t, hperm.mem_iff.1 (List.mem_cons_self ..), by unfold Gate.next; rw [ht], fun x hx => ?_⟩
    obtain ⟨k, hk⟩ := List.mem_iff_getElem?.1 (hperm.mem_iff.2 hx)
    exact heap_head hheap k x hk

theorem Sim.keys {s : Gate} {r : RGate} {n : Int} (h : Sim s r n) (hn : n < maxStamp) : ((turnsOf r).map (·.stamp)).Nodup := by
  unfold turnsOf
  have hst := h.stamps
  rw [List.map_append, List.nodup_append] at hst
  rw [List.map_cons, List.nodup_cons]
  refine ⟨fun hm => ?_, hst.1⟩
  obtain ⟨x, hx, he⟩ := List.mem_map.1 hm
  have := h.stampLe x (List.mem_append_left _ hx)
  have := h.stampN
  simp only at he
  omega

/-- A turn: what is counted. -/
def turned (c id : Int) (z : G × Int) : G × Int := if z.1.id = id then ({ z.1 with last := c }, 0) else (z.1, z.2 + 1)
def moved (c id : Int) (x : G) : G := if x.id = id then { x with last := c } else x

theorem picked_turns {s : Gate} {r : RGate} {n : Int} (h : Sim s r n) {t : G} (ht : t ∈ turnsOf r) :
    (r.picked t.id).1 = 0 ∧ turnsOf (r.picked t.id).2 = (turnsOf r).map (moved (r.clock + 1) t.id) ∧ (r.picked t.id).2.most = r.most ∧ (r.picked t.id).2.clock = r.clock + 1 := by
  have hin : ∀ x ∈ r.inside, 1 ≤ x.id := fun x hx => h.id1 x (List.mem_append_left _ hx)
  by_cases h0 : t.id = 0
  · have hr : r.picked t.id = (0, { r with clock := r.clock + 1, sweeper := r.clock + 1 }) := by rw [h0]; unfold RGate.picked; cases atId r.inside 0 <;> rfl
    rw [hr]
    refine ⟨rfl, ?_, rfl, rfl⟩
    unfold turnsOf
    rw [List.map_cons]
    congr 1
    · unfold moved; rw [if_pos h0.symm]
    · symm
      conv => rhs; rw [← List.map_id r.inside]
      refine List.map_congr_left fun x hx => ?_
      have := hin x hx
      unfold moved
      rw [if_neg (by omega)]
      rfl
  · have htm : t ∈ r.inside := by
      rcases List.mem_cons.1 ht with rfl | ht
      · exact absurd rfl h0
      · exact ht
    obtain ⟨i, hi⟩ := atId_yes htm rfl
    obtain ⟨x, hx, hxid⟩ := atId_get hi
    have hr : r.picked t.id = (0, { r with clock := r.clock + 1, inside := r.inside.modify i fun x => { x with last := r.clock + 1 } }) := by
      unfold RGate.picked; rw [hi]; simp [h0]
    rw [hr]
    refine ⟨rfl, ?_, rfl, rfl⟩
    unfold turnsOf
    rw [List.map_cons]
    congr 1
    · unfold moved; rw [if_neg (Ne.symm h0)]
    · have hall := h.all
      rw [List.map_cons, List.nodup_cons] at hall
      have hnd := hall.2
      apply List.ext_getElem?
      intro j
      show (r.inside.modify i fun x => { x with last := r.clock + 1 })[j]? = _
      rw [List.getElem?_modify, List.getElem?_map]
      cases hj : r.inside[j]? with
      | none => rfl
      | some y =>
        by_cases hij : i = j
        · subst hij
          rw [hx] at hj; cases hj
          simp [moved, hxid]
        · have hne : y.id ≠ t.id := fun he => hij (by
            have h1 : (r.inside.map (·.id))[i]? = some t.id := by rw [List.getElem?_map, hx]; simp [hxid]
            have h2 : (r.inside.map (·.id))[j]? = some t.id := by rw [List.getElem?_map, hj]; simp [he]
            exact (List.getElem?_inj (List.getElem?_eq_some_iff.1 h1).1 hnd).1 (h1.trans h2.symm))
          simp [moved, hne, hij]

theorem cnt_turn {L : List G} {t x : G} {c : Int} (ht : t ∈ L) (hx : x.last < c) (hah : t.ahead x = true) : cnt (L.map (moved c t.id)) x + 1 ≤ cnt L x := by
  have hno : ∀ y : G, y.id = t.id → (moved c t.id y).ahead x = false := fun y hy => by
    unfold moved
    rw [if_pos hy, not_ahead_iff]
    exact .inl hx
  have hle : ∀ l : List G, l.countP ((fun y => y.ahead x) ∘ moved c t.id) ≤ l.countP fun y => y.ahead x := fun l => by
    refine List.countP_mono_left fun y _ hy => ?_
    by_cases he : y.id = t.id
    · have := hno y he
      simp only [Function.comp_apply] at hy
      rw [this] at hy; cases hy
    · simpa [moved, he] using hy
  obtain ⟨l1, l2, rfl⟩ := List.append_of_mem ht
  unfold cnt
  rw [List.countP_map, List.countP_append, List.countP_append, List.countP_cons, List.countP_cons]
  have h1 := hle l1
  have h2 := hle l2
  have h3 : ((fun y => y.ahead x) ∘ moved c t.id) t = false := hno t rfl
  rw [h3, hah]
  simp
  omega

theorem fair_turn {s : Gate} {r : RGate} {n : Int} {Z : List (G × Int)} (hs : Sim s r n) (hn : n < maxStamp) (hl : Lasts r) (h : Fair r Z) (hm : (r.inside.length : Int) ≤ r.most) :
    Fair (r.picked s.next).2 (Z.map (turned (r.clock + 1) s.next)) ∧ Lasts (r.picked s.next).2 ∧ (r.picked s.next).1 = 0 ∧ ∃ z ∈ Z, z.1.id = s.next := by
  obtain ⟨t, ht, hid, htop⟩ := hs.top
  obtain ⟨p1, p2, p3, p4⟩ := picked_turns hs ht
  rw [← hid]
  have hnd := hs.all
  have hkeys := hs.keys hn
  have hZ : ∀ z ∈ Z, z.1 ∈ turnsOf r := fun z hz => by rw [← h.list]; exact List.mem_map_of_mem hz
  have hlen : (turnsOf r).length = r.inside.length + 1 := rfl
  refine ⟨⟨?_, fun z hz => ?_, fun z hz => ?_, fun z hz h1 => ?_⟩, ?_, p1, ?_⟩
  · rw [p2, ← h.list, List.map_map, List.map_map]
    refine List.map_congr_left fun z _ => ?_
    simp only [Function.comp_apply]
    unfold turned moved
    split <;> rfl
  · obtain ⟨z0, hz0, rfl⟩ := List.mem_map.1 hz
    have := h.gone0 z0 hz0
    unfold turned
    split
    · exact Int.le_refl _
    · simp only; omega
  · obtain ⟨z0, hz0, rfl⟩ := List.mem_map.1 hz
    rw [p2, p3]
    unfold turned
    by_cases he : z0.1.id = t.id
    · rw [if_pos he]
      have hmem : ({ z0.1 with last := r.clock + 1 } : G) ∈ (turnsOf r).map (moved (r.clock + 1) t.id) := List.mem_map.2 ⟨z0.1, hZ z0 hz0, by unfold moved; rw [if_pos he]⟩
      have := cnt_le hmem
      rw [List.length_map] at this
      show (0 : Int) + (cnt (List.map (moved (r.clock + 1) t.id) (turnsOf r)) { z0.1 with last := r.clock + 1 } : Nat) ≤ r.most
      omega
    · rw [if_neg he]
      have hsum := h.sum z0 hz0
      have hzl := hl _ (hZ z0 hz0)
      have hah : t.ahead z0.1 = true := by
        cases hc : t.ahead z0.1 with
        | true => rfl
        | false =>
          have h2 := htop _ (hZ z0 hz0)
          rw [not_ahead_iff] at hc h2
          exact absurd (congrArg G.id (nodup_inj hkeys (hZ z0 hz0) ht (by omega))) he
      have := cnt_turn (c := r.clock + 1) ht (by omega) hah
      simp only
      omega
  · obtain ⟨z0, hz0, rfl⟩ := List.mem_map.1 hz
    rw [p4]
    unfold turned at h1 ⊢
    by_cases he : z0.1.id = t.id
    · rw [if_pos he] at h1; simp only at h1; omega
    · rw [if_neg he]
      have hzl := hl _ (hZ z0 hz0)
      simp only
      omega
  · intro x hx
    rw [p2] at hx
    rw [p4]
    obtain ⟨y, hy, rfl⟩ := List.mem_map.1 hx
    have := hl y hy
    unfold moved
    split
    · exact Int.le_refl _
    · omega
  · rw [← h.list] at ht
    obtain ⟨z, hz, he⟩ := List.mem_map.1 ht
    exact ⟨z, hz, by rw [he]⟩

theorem lasts_step {s : Gate} {r : RGate} {n : Int} (hs : Sim s r n) (h : Lasts r) (o : Deed) : Lasts (r.step o) := by
  unfold RGate.step
  by_cases h1 : o.kind = 1
  · rw [if_pos h1]
    refine h.same ?_ ?_ <;> (unfold RGate.submit; split; · rfl); all_goals (split; · rfl); all_goals (split <;> rfl)
  rw [if_neg h1]
  by_cases h2 : o.kind = 2
  · rw [if_pos h2]; exact lasts_admit h
  rw [if_neg h2]
  by_cases h3 : o.kind = 3
  · rw [if_pos h3]
    rcases fin_turns hs o.id o.yes with ⟨_, he⟩ | ⟨_, hT, _, hc⟩
    · rw [he]; exact h
    · exact lasts_fin h hT hc
  rw [if_neg h3]
  by_cases h4 : o.kind = 4
  · rw [if_pos h4]; exact h.same rfl rfl
  rw [if_neg h4]
  by_cases h6 : o.kind = 6
  · rw [if_pos h6]
    by_cases hm : ∃ t ∈ turnsOf r, t.id = o.id
    · obtain ⟨t, ht, hid⟩ := hm
      obtain ⟨_, p2, _, p4⟩ := picked_turns hs ht
      rw [← hid]
      intro x hx
      rw [p2] at hx
      rw [p4]
      obtain ⟨y, hy, rfl⟩ := List.mem_map.1 hx
      have := h y hy
      unfold moved
      split
      · exact Int.le_refl _
      · omega
    · have hn : atId r.inside o.id = none := atId_no.2 fun x hx he => hm ⟨x, List.mem_cons_of_mem _ hx, he⟩
      have h0 : o.id ≠ 0 := fun h0 => hm ⟨_, List.mem_cons_self .., h0.symm⟩
      have hr : r.picked o.id = (152, r) := by unfold RGate.picked; rw [hn]; simp [h0]
      rw [hr]; exact h
  rw [if_neg h6]
  exact h
end Go.Ytdmgbfkioghkeaa.Gt
