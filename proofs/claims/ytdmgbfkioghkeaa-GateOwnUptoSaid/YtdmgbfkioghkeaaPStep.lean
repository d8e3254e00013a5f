/-
  One call of a script on both gates; no condition but that the numbers have not run out.
-/
import Derived.Test.YtdmgbfkioghkeaaPSim
namespace Go.Ytdmgbfkioghkeaa.Gt

structure Deed where
  kind : Int
  id : Int
  yes : Bool
  deriving Inhabited

def Gate.step (s : Gate) (o : Deed) : Gate :=
  if o.kind = 1 then (s.submit o.id).2.2 else if o.kind = 2 then (s.admit []).2 else if o.kind = 3 then (s.fin o.id o.yes).2 else if o.kind = 4 then s.swept else if o.kind = 6 then (s.picked o.id).2 else s
def RGate.step (r : RGate) (o : Deed) : RGate :=
  if o.kind = 1 then (r.submit o.id).2.2 else if o.kind = 2 then (r.admit []).2 else if o.kind = 3 then (r.fin o.id o.yes).2 else if o.kind = 4 then r.swept else if o.kind = 6 then (r.picked o.id).2 else r

theorem sim_step {s : Gate} {r : RGate} {n : Int} (h : Sim s r n) (hn : 0 ≤ n) (o : Deed) : Sim (s.step o) (r.step o) (n + 1) := by
  have hm := h.more (show n ≤ n + 1 by omega)
  unfold Gate.step RGate.step
  by_cases h1 : o.kind = 1
  · rw [if_pos h1, if_pos h1]; exact (sim_submit h o.id).2.2
  rw [if_neg h1, if_neg h1]
  by_cases h2 : o.kind = 2
  · rw [if_pos h2, if_pos h2]; exact (sim_admit _ [] rfl hm).2
  rw [if_neg h2, if_neg h2]
  by_cases h3 : o.kind = 3
  · rw [if_pos h3, if_pos h3]; exact (sim_fin h o.id o.yes).2
  rw [if_neg h3, if_neg h3]
  by_cases h4 : o.kind = 4
  · rw [if_pos h4, if_pos h4]; exact sim_swept hm (by omega)
  rw [if_neg h4, if_neg h4]
  by_cases h6 : o.kind = 6
  · rw [if_pos h6, if_pos h6]; exact (sim_picked h o.id).2
  rw [if_neg h6, if_neg h6]
  exact hm

/-- A script on both. -/
theorem sim_steps : ∀ (l : List Deed) {s : Gate} {r : RGate} {n : Int}, Sim s r n → 0 ≤ n → Sim (l.foldl Gate.step s) (l.foldl RGate.step r) (n + l.length)
  | [], s, r, n, h, _ => by simpa using h
  | o :: l, s, r, n, h, hn => by
    have := sim_steps l (sim_step h hn o) (by omega)
    rw [List.foldl_cons, List.foldl_cons]
    rw [show n + ((o :: l).length : Int) = n + 1 + l.length by simp; omega]
    exact this
end Go.Ytdmgbfkioghkeaa.Gt
