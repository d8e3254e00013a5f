/-
  What a gate keeps to, call by call: room, order, the queue; no condition.
-/
import Derived.Test.YtdmgbfkioghkeaaPStep
namespace Go.Ytdmgbfkioghkeaa.Gt

/-- Whom a call lets in. -/
def Gate.outs (s : Gate) (o : Deed) : List Int := if o.kind = 2 then (s.admit []).1 else []

theorem enter_eq {s : Gate} {q : G} {rest : List G} (hq : s.queue = q :: rest) :
    s.enter = { s with queue := rest, inside := s.inside ++ [q.id], turn := rise (s.turn ++ [{ q with last := s.clock }]) s.turn.length } := by unfold Gate.enter; rw [hq]

theorem admit_ind {P : Gate → List Int → List Int × Gate → Prop} (hstop : ∀ s out, s.may = false → P s out (out, s))
    (hgo : ∀ s out q rest res, s.queue = q :: rest → s.may = true → P s.enter (out ++ [q.id]) res → P s out res) : ∀ (k : Nat) (s : Gate) (out : List Int), s.queue.length = k → P s out (s.admit out)
  | 0, s, out, hk => by
    have hm : s.may = false := by unfold Gate.may; simp [hk]
    rw [gadmit_stop hm]
    exact hstop s out hm
  | k + 1, s, out, hk => by
    cases hm : s.may with
    | false => rw [gadmit_stop hm]; exact hstop s out hm
    | true =>
      cases hq : s.queue with
      | nil => rw [hq] at hk; simp at hk
      | cons q rest =>
        rw [gadmit_go hq hm]
        refine hgo s out q rest _ hq hm (admit_ind hstop hgo k _ _ ?_)
        rw [enter_eq hq]
        rw [hq] at hk
        simpa using hk

/-- Never more inside than may be, never more than the log has room for. -/
structure Room (s : Gate) : Prop where
  most : (s.inside.length : Int) ≤ s.most
  units : s.logged + s.inside.length ≤ s.units
  logged : 0 ≤ s.logged

/-- What an Admit does. -/
structure Admits (s : Gate) (out : List Int) (x : List Int × Gate) : Prop where
  may : x.2.may = false
  most : x.2.most = s.most
  units : x.2.units = s.units
  logged : x.2.logged = s.logged
  stamp : x.2.stamp = s.stamp
  clock : x.2.clock = s.clock
  inside : ∃ more, x.2.inside = s.inside ++ more ∧ x.1 = out ++ more
  order : x.1 ++ x.2.queue.map (·.id) = out ++ s.queue.map (·.id)
  room : Room s → Room x.2

theorem admits (s : Gate) (out : List Int) : Admits s out (s.admit out) := by
  refine admit_ind (P := fun s out x => Admits s out x) (fun s out hm => ⟨hm, rfl, rfl, rfl, rfl, rfl, ⟨[], by simp, by simp⟩, rfl, id⟩) (fun s out q rest x hq hm h => ?_) _ s out rfl
  have he := enter_eq hq
  obtain ⟨more, h1, h2⟩ := h.inside
  refine ⟨h.may, by rw [h.most, he], by rw [h.units, he], by rw [h.logged, he], by rw [h.stamp, he], by rw [h.clock, he], ⟨q.id :: more, ?_, ?_⟩, ?_, fun hr => h.room ?_⟩
  · rw [h1, he]; simp
  · rw [h2]; simp
  · rw [h.order, he, hq]; simp
  · unfold Gate.may at hm
    simp only [Bool.and_eq_true, decide_eq_true_eq] at hm
    have := hr.logged
    rw [he]
    refine ⟨?_, ?_, hr.logged⟩
    · simp; omega
    · simp; omega

theorem room_new {most units : Int} (h1 : 1 ≤ most) (h3 : 1 ≤ units) : Room (Gate.new most units) := by
  constructor <;> simp [Gate.new] <;> omega

theorem submit_same (s : Gate) (id : Int) : (s.submit id).2.2.inside = s.inside ∧ (s.submit id).2.2.logged = s.logged ∧ (s.submit id).2.2.most = s.most ∧ (s.submit id).2.2.units = s.units := by
  unfold Gate.submit
  split
  · exact ⟨rfl, rfl, rfl, rfl⟩
  split
  · exact ⟨rfl, rfl, rfl, rfl⟩
  split <;> exact ⟨rfl, rfl, rfl, rfl⟩
theorem picked_same (s : Gate) (id : Int) : (s.picked id).2.inside = s.inside ∧ (s.picked id).2.logged = s.logged ∧ (s.picked id).2.most = s.most ∧ (s.picked id).2.units = s.units ∧ (s.picked id).2.stamp = s.stamp ∧ (s.picked id).2.queue = s.queue := by
  unfold Gate.picked
  split <;> exact ⟨rfl, rfl, rfl, rfl, rfl, rfl⟩

/-- What an End does. -/
theorem fin_does (s : Gate) (id : Int) (lg : Bool) : ((s.fin id lg).1 = 152 ∧ (s.fin id lg).2 = s) ∨
    ((s.fin id lg).1 = 0 ∧ (s.fin id lg).2.inside.length + 1 = s.inside.length ∧ (s.fin id lg).2.logged = (if lg = true then s.logged + 1 else s.logged) ∧ (s.fin id lg).2.most = s.most ∧ (s.fin id lg).2.units = s.units ∧
      (s.fin id lg).2.stamp = s.stamp ∧ (s.fin id lg).2.queue = s.queue) := by
  unfold Gate.fin
  split
  · exact .inl ⟨rfl, rfl⟩
  · rename_i i hi
    have hl : i < s.inside.length := by
      rw [List.findIdx?_eq_some_iff_getElem] at hi
      exact hi.1
    refine .inr ⟨rfl, ?_, rfl, rfl, rfl, rfl, rfl⟩
    simp only [List.length_eraseIdx, hl, if_true]
    omega

theorem room_fin {s : Gate} (h : Room s) (id : Int) (lg : Bool) : Room (s.fin id lg).2 := by
  have h1 := h.most
  have h2 := h.units
  have h3 := h.logged
  rcases fin_does s id lg with ⟨_, he⟩ | ⟨_, hi, hl, hm, hu, _, _⟩
  · rw [he]; exact h
  · refine ⟨by rw [hm]; omega, ?_, ?_⟩
    · rw [hl, hu]; split <;> omega
    · rw [hl]; split <;> omega

theorem room_step {s : Gate} (h : Room s) (o : Deed) : Room (s.step o) := by
  unfold Gate.step
  by_cases h1 : o.kind = 1
  · rw [if_pos h1]
    obtain ⟨a, b, c, d⟩ := submit_same s o.id
    exact ⟨by rw [a, c]; exact h.most, by rw [a, b, d]; exact h.units, by rw [b]; exact h.logged⟩
  rw [if_neg h1]
  by_cases h2 : o.kind = 2
  · rw [if_pos h2]; exact (admits s []).room h
  rw [if_neg h2]
  by_cases h3 : o.kind = 3
  · rw [if_pos h3]; exact room_fin h o.id o.yes
  rw [if_neg h3]
  by_cases h4 : o.kind = 4
  · rw [if_pos h4]
    have := h.units; have := h.logged
    exact ⟨h.most, by unfold Gate.swept; simp only; omega, Int.le_refl _⟩
  rw [if_neg h4]
  by_cases h6 : o.kind = 6
  · rw [if_pos h6]
    obtain ⟨a, b, c, d, _⟩ := picked_same s o.id
    exact ⟨by rw [a, c]; exact h.most, by rw [a, b, d]; exact h.units, by rw [b]; exact h.logged⟩
  rw [if_neg h6]
  exact h

/-- The gate with one number inside. -/
def Gate.begun (most units : Int) : Gate := (((Gate.new most units).submit 1073741824).2.2.admit []).2
def RGate.begun (most units : Int) : RGate := (((RGate.new most units).submit 1073741824).2.2.admit []).2

def Gate.sub1 (most units : Int) : Gate := ⟨most, units, 1, 0, [⟨1073741824, 1, 0⟩], [], [⟨0, maxStamp, 0⟩], 0⟩
theorem begun_submit (most units : Int) : (Gate.new most units).submit 1073741824 = (1, 0, Gate.sub1 most units) := by
  simp [Gate.submit, Gate.new, Gate.sub1]

theorem begun_admit {most units : Int} (h1 : 1 ≤ most) (h3 : 1 ≤ units) : (((Gate.new most units).submit 1073741824).2.2.admit []).1 = [1073741824] ∧ (Gate.begun most units).stamp = 1 ∧ (Gate.begun most units).queue = [] ∧
    (Gate.begun most units).inside = [1073741824] ∧ (Gate.begun most units).logged = 0 ∧ (Gate.begun most units).most = most ∧ (Gate.begun most units).units = units := by
  unfold Gate.begun
  rw [begun_submit]
  simp only
  have hq : (Gate.sub1 most units).queue = ⟨1073741824, 1, 0⟩ :: [] := rfl
  have hm : (Gate.sub1 most units).may = true := by
    unfold Gate.may Gate.sub1
    simp only [List.length_cons, List.length_nil, Bool.and_eq_true, decide_eq_true_eq]
    omega
  rw [gadmit_go hq hm, enter_eq hq, gadmit_stop (by simp [Gate.may])]
  exact ⟨rfl, rfl, rfl, rfl, rfl, rfl, rfl⟩

theorem sim_begun {most units : Int} (h1 : 1 ≤ most) (h2 : most ≤ 16) (h3 : 1 ≤ units) (h4 : units ≤ 64) : Sim (Gate.begun most units) (RGate.begun most units) 1 :=
  (sim_admit _ [] rfl (sim_submit (sim_new h1 h2 h3 h4) 1073741824).2.2).2
theorem room_begun {most units : Int} (h1 : 1 ≤ most) (h3 : 1 ≤ units) : Room (Gate.begun most units) := by
  obtain ⟨_, _, _, hi, hl, hm, hu⟩ := begun_admit h1 h3
  refine ⟨by rw [hi, hm]; simpa using h1, by rw [hi, hl, hu]; simpa using h3, by rw [hl]; omega⟩

/-! ### Order -/
/-- came: who was taken; so many of them have entered. -/
structure Order (s : Gate) (came : List Int) (entered : Nat) : Prop where
  queue : came.drop entered = s.queue.map (·.id)
  stamp : s.stamp = came.length + 1
  le : entered ≤ came.length

theorem order_submit {s : Gate} {came : List Int} {entered : Nat} (h : Order s came entered) (id : Int) :
    ((s.submit id).2.1 = 0 ∧ (s.submit id).1 = (came ++ [id]).length + 1 ∧ Order (s.submit id).2.2 (came ++ [id]) entered) ∨ ((s.submit id).2.1 ≠ 0 ∧ (s.submit id).1 = 0 ∧ Order (s.submit id).2.2 came entered) := by
  unfold Gate.submit
  split
  · exact .inr ⟨by show (1 : Int) ≠ 0; decide, rfl, h⟩
  split
  · exact .inr ⟨by show (151 : Int) ≠ 0; decide, rfl, h⟩
  split
  · exact .inr ⟨by show (153 : Int) ≠ 0; decide, rfl, h⟩
  · refine .inl ⟨rfl, ?_, ?_, ?_, ?_⟩
    · have := h.stamp; simp; omega
    · rw [List.drop_append_of_le_length h.le, h.queue]; simp
    · have := h.stamp; simp; omega
    · have := h.le; simp; omega

theorem step_order {s : Gate} {came : List Int} {entered : Nat} (h : Order s came entered) {o : Deed} (ho : o.kind ≠ 1) :
    came.drop entered = s.outs o ++ (s.step o).queue.map (·.id) ∧ Order (s.step o) came (entered + (s.outs o).length) := by
  have key : ∀ (s' : Gate) (l : List Int), came.drop entered = l ++ s'.queue.map (·.id) → s'.stamp = s.stamp → Order s' came (entered + l.length) := fun s' l h1 h2 => by
    have hl := congrArg List.length h1
    simp only [List.length_drop, List.length_append] at hl
    have hle := h.le
    refine ⟨?_, by rw [h2, h.stamp], by omega⟩
    rw [← List.drop_drop, h1]
    simp
  unfold Gate.step Gate.outs
  rw [if_neg ho]
  by_cases h2 : o.kind = 2
  · rw [if_pos h2, if_pos h2]
    have ha := admits s []
    have ho := ha.order
    rw [List.nil_append, ← h.queue] at ho
    exact ⟨ho.symm, key _ _ ho.symm ha.stamp⟩
  rw [if_neg h2, if_neg h2]
  have same : ∀ s' : Gate, s'.queue = s.queue → s'.stamp = s.stamp → came.drop entered = [] ++ s'.queue.map (·.id) ∧ Order s' came (entered + ([] : List Int).length) := fun s' h1 h2 =>
    have e : came.drop entered = [] ++ s'.queue.map (·.id) := by rw [h1]; exact h.queue
    ⟨e, key _ _ e h2⟩
  by_cases h3 : o.kind = 3
  · rw [if_pos h3]
    rcases fin_does s o.id o.yes with ⟨_, he⟩ | ⟨_, _, _, _, _, hst, hq⟩
    · rw [he]; exact same s rfl rfl
    · exact same _ hq hst
  rw [if_neg h3]
  by_cases h4 : o.kind = 4
  · rw [if_pos h4]; exact same _ rfl rfl
  rw [if_neg h4]
  by_cases h6 : o.kind = 6
  · rw [if_pos h6]
    obtain ⟨_, _, _, _, e, q⟩ := picked_same s o.id
    exact same _ q e
  rw [if_neg h6]
  exact same s rfl rfl

theorem order_begun {most units : Int} (h1 : 1 ≤ most) (h3 : 1 ≤ units) : Order (Gate.begun most units) [] 0 := by
  obtain ⟨_, hs, hq, _⟩ := begun_admit h1 h3
  exact ⟨by rw [hq]; rfl, by rw [hs]; rfl, Nat.le_refl _⟩
end Go.Ytdmgbfkioghkeaa.Gt
