/-
  What the law GateFair counts, kept from call to call; no condition but that the numbers have not run out.
-/
import Derived.Test.YtdmgbfkioghkeaaPFair
namespace Go.Ytdmgbfkioghkeaa.Gt

/-- How the law writes it down. -/
def turnOf (z : G × Int) : Int × Int := (z.1.id, z.2)

/-- The counts, and the gate that they are of. -/
structure Watch (s : Gate) (r : RGate) (n : Int) (A : List (Int × Int)) : Prop where
  sim : Sim s r n
  room : Room s
  lasts : Lasts r
  fair : ∃ Z, Fair r Z ∧ A = Z.map turnOf

/-- A turn, as the law counts it. -/
def passed (id : Int) (t : Int × Int) : Int × Int := if t.1 = id then (t.1, 0) else (t.1, t.2 + 1)

theorem Watch.inside {s : Gate} {r : RGate} {n : Int} {A : List (Int × Int)} (h : Watch s r n A) : s.inside.length = r.inside.length := by
  rw [h.sim.inside, List.length_map]
theorem Watch.insideMost {s : Gate} {r : RGate} {n : Int} {A : List (Int × Int)} (h : Watch s r n A) : (r.inside.length : Int) ≤ r.most := by
  have := h.room.most
  rw [h.inside, h.sim.most] at this
  exact this

theorem Watch.len {s : Gate} {r : RGate} {n : Int} {A : List (Int × Int)} (h : Watch s r n A) : A.length ≤ 17 := by
  obtain ⟨Z, hZ, rfl⟩ := h.fair
  have h1 := h.insideMost
  have h2 := h.sim.most1
  have h3 := congrArg List.length hZ.list
  rw [List.length_map] at h3
  have hlen : (turnsOf r).length = r.inside.length + 1 := rfl
  rw [List.length_map]
  omega

theorem Watch.gone {s : Gate} {r : RGate} {n : Int} {A : List (Int × Int)} (h : Watch s r n A) : ∀ t ∈ A, 0 ≤ t.2 ∧ t.2 ≤ s.most := by
  obtain ⟨Z, hZ, rfl⟩ := h.fair
  intro t ht
  obtain ⟨z, hz, rfl⟩ := List.mem_map.1 ht
  rw [h.sim.most]
  exact ⟨hZ.gone0 z hz, hZ.le hz⟩

theorem lasts_new (most units : Int) : Lasts (RGate.new most units) := by
  intro x hx
  have : turnsOf (RGate.new most units) = [⟨0, maxStamp, 0⟩] := rfl
  rw [this] at hx
  rw [List.mem_singleton.1 hx]
  exact Int.le_refl _

theorem lasts_begun {most units : Int} (h1 : 1 ≤ most) (h2 : most ≤ 16) (h3 : 1 ≤ units) (h4 : units ≤ 64) : Lasts (RGate.begun most units) := by
  have hl := lasts_step (sim_new h1 h2 h3 h4) (lasts_new most units) ⟨1, 1073741824, false⟩
  exact lasts_admit hl

theorem watch_begin {s : Gate} {r : RGate} {n : Int} (h1 : Sim s r n) (h2 : Room s) (h3 : Lasts r) : Watch s r n ((0, 0) :: s.inside.map fun x => (x, 0)) := by
  refine ⟨h1, h2, h3, _, fair_begin r ?_, ?_⟩
  · have := h2.most
    rw [h1.inside, List.length_map, h1.most] at this
    exact this
  · rw [h1.inside]
    simp [turnsOf, turnOf, Function.comp_def]

theorem watch_turn {s : Gate} {r : RGate} {n : Int} {A : List (Int × Int)} (h : Watch s r n A) (hn : n < maxStamp) :
    (s.picked s.next).1 = 0 ∧ Watch (s.picked s.next).2 (r.picked s.next).2 (n + 1) (A.map (passed s.next)) ∧ (∃ t ∈ A, t.1 = s.next) ∧ ∀ t ∈ A.map (passed s.next), 0 ≤ t.2 ∧ t.2 ≤ s.most := by
  obtain ⟨Z, hZ, rfl⟩ := h.fair
  obtain ⟨f1, f2, f3, z, hz, hid⟩ := fair_turn h.sim hn h.lasts hZ h.insideMost
  have hs := sim_picked h.sim s.next
  have hW : Watch (s.picked s.next).2 (r.picked s.next).2 (n + 1) ((Z.map turnOf).map (passed s.next)) := by
    refine ⟨hs.2, room_step h.room ⟨6, s.next, false⟩, f2, _, f1, ?_⟩
    rw [List.map_map, List.map_map]
    refine List.map_congr_left fun z _ => ?_
    simp only [Function.comp_apply]
    unfold turned passed turnOf
    split <;> rfl
  refine ⟨hs.1.trans f3, hW, ⟨turnOf z, List.mem_map_of_mem hz, hid⟩, ?_⟩
  have := hW.gone
  rw [(picked_same s s.next).2.2.1] at this
  exact this

theorem watch_end {s : Gate} {r : RGate} {n : Int} {A : List (Int × Int)} (h : Watch s r n A) (id : Int) (yes : Bool) :
    ((s.fin id yes).1 = 0 ∧ Watch (s.fin id yes).2 (r.fin id yes).2 (n + 1) (A.filter fun t => decide (t.1 ≠ id))) ∨ ((s.fin id yes).1 = 152 ∧ Watch (s.fin id yes).2 (r.fin id yes).2 (n + 1) A) := by
  obtain ⟨Z, hZ, rfl⟩ := h.fair
  have hs := sim_fin h.sim id yes
  have hr : Room (s.fin id yes).2 := room_fin h.room id yes
  rcases fin_turns h.sim id yes with ⟨e1, e2⟩ | ⟨e1, e2, e3, e4⟩
  · refine .inr ⟨hs.1.trans e1, hs.2, hr, by rw [e2]; exact h.lasts, Z, by rw [e2]; exact hZ, rfl⟩
  · refine .inl ⟨hs.1.trans e1, hs.2, hr, lasts_fin h.lasts e2 e4, _, fair_fin hZ e2 e3 e4, ?_⟩
    rw [List.filter_map]
    rfl

theorem watch_do {s : Gate} {r : RGate} {n : Int} {A : List (Int × Int)} (h : Watch s r n A) (h0 : 0 ≤ n) (o : Deed) (h3 : o.kind ≠ 3) (h6 : o.kind ≠ 6) :
    Watch (s.step o) (r.step o) (n + 1) (A ++ (s.outs o).map fun x => (x, 0)) := by
  obtain ⟨Z, hZ, rfl⟩ := h.fair
  have hs := sim_step h.sim h0 o
  have hr := room_step h.room o
  have hl := lasts_step h.sim h.lasts o
  by_cases h2 : o.kind = 2
  · have eS : s.step o = (s.admit []).2 := by unfold Gate.step; simp [h2]
    have eR : r.step o = (r.admit []).2 := by unfold RGate.step; simp [h2]
    have eO : s.outs o = (s.admit []).1 := by unfold Gate.outs; rw [if_pos h2]
    have hA := sim_admit _ [] rfl h.sim
    have hm : (((r.admit []).2.inside.length : Nat) : Int) ≤ r.most := by
      have h1 := hr.most
      rw [hs.inside, List.length_map, hs.most, eR, (enters _ r [] rfl).most] at h1
      exact h1
    obtain ⟨more, m1, m2⟩ := fair_admit hZ hm
    refine ⟨hs, hr, hl, _, by rw [eR]; exact m2, ?_⟩
    rw [eO, hA.1, m1, List.map_append, List.map_map, List.map_map]
    rfl
  · have eO : s.outs o = [] := by unfold Gate.outs; rw [if_neg h2]
    rw [eO, List.map_nil, List.append_nil]
    refine ⟨hs, hr, hl, Z, ?_, rfl⟩
    by_cases h1 : o.kind = 1
    · have eR : r.step o = (r.submit o.id).2.2 := by unfold RGate.step; rw [if_pos h1]
      rw [eR]
      refine hZ.same ?_ ?_ ?_ <;> (unfold RGate.submit; split; · rfl); all_goals (split; · rfl); all_goals (split <;> rfl)
    by_cases h4 : o.kind = 4
    · have eR : r.step o = r.swept := by unfold RGate.step; simp [h4]
      rw [eR]
      exact hZ.same rfl rfl rfl
    have eR : r.step o = r := by unfold RGate.step; rw [if_neg h1, if_neg h2, if_neg h3, if_neg h4, if_neg h6]
    rw [eR]; exact hZ
end Go.Ytdmgbfkioghkeaa.Gt
