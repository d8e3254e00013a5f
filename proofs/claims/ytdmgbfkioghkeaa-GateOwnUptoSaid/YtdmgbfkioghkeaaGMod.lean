/-
  The gate in plain words, no program in sight: guests, the heap of turns, the gate's calls; the document's gate.
-/
namespace Go.Ytdmgbfkioghkeaa.Gt

structure G where
  id : Int
  stamp : Int
  last : Int
  deriving DecidableEq, Inhabited

def G.ahead (a b : G) : Bool := decide (a.last < b.last) || (decide (a.last = b.last) && decide (a.stamp < b.stamp))

/-- Two places exchanged. -/
def swp (l : List G) (i j : Nat) : List G :=
  match l[i]?, l[j]? with
  | some x, some y => (l.set i y).set j x
  | _, _ => l

theorem swp_length (l : List G) (i j : Nat) : (swp l i j).length = l.length := by
  unfold swp; split <;> simp

/-- Is the element at i ahead of the one at j? -/
def aheadAt (l : List G) (i j : Nat) : Bool :=
  match l[i]?, l[j]? with
  | some x, some y => x.ahead y
  | _, _ => false

def rise (l : List G) (i : Nat) : List G :=
  if _h : 0 < i ∧ aheadAt l i ((i - 1) / 2) = true then rise (swp l i ((i - 1) / 2)) ((i - 1) / 2) else l
termination_by i
decreasing_by omega

/-- The better one of k and c. -/
def best (l : List G) (k c : Nat) : Nat := if c < l.length ∧ aheadAt l c k = true then c else k

def sinkTo (l : List G) (i : Nat) : Nat := best l (best l i (2 * i + 1)) (2 * i + 2)

theorem best_le (l : List G) (k c : Nat) (h : k < c) : k ≤ best l k c := by unfold best; split <;> omega
theorem best_cases (l : List G) (k c : Nat) : best l k c = k ∨ (best l k c = c ∧ c < l.length ∧ aheadAt l c k = true) := by
  unfold best; split
  · rename_i h; exact .inr ⟨rfl, h⟩
  · exact .inl rfl
theorem sinkTo_cases (l : List G) (i : Nat) : sinkTo l i = i ∨ (i < sinkTo l i ∧ sinkTo l i < l.length) := by
  unfold sinkTo
  rcases best_cases l i (2 * i + 1) with h | ⟨h, h1, _⟩ <;> rcases best_cases l (best l i (2 * i + 1)) (2 * i + 2) with h' | ⟨h', h2, _⟩ <;> rw [h'] <;> (try rw [h]) <;> omega

def sink (l : List G) (i : Nat) : List G :=
  if _h : sinkTo l i = i then l else sink (swp l i (sinkTo l i)) (sinkTo l i)
termination_by l.length - i
decreasing_by
  rw [swp_length]
  rcases sinkTo_cases l i with h1 | h1
  · exact absurd h1 _h
  · omega

theorem rise_length (l : List G) (i : Nat) : (rise l i).length = l.length := by
  fun_induction rise l i with
  | case1 l i h ih => rw [ih, swp_length]
  | case2 => rfl
theorem sink_length (l : List G) (i : Nat) : (sink l i).length = l.length := by
  fun_induction sink l i with
  | case1 => rfl
  | case2 l i h ih => rw [ih, swp_length]

/-- Where a number stands. -/
def atId (l : List G) (id : Int) : Option Nat := l.findIdx? fun g => g.id == id

/-- The one at place i is no more. -/
def remove (l : List G) (i : Nat) : List G :=
  let n := l.length - 1
  match l[n]? with
  | none => l
  | some z =>
    let l1 := (l.set i z).take n
    if i < n then sink (rise l1 i) i else l1

structure Gate where
  most : Int
  units : Int
  stamp : Int
  clock : Int
  queue : List G
  inside : List Int
  turn : List G
  logged : Int
  deriving Inhabited

def maxStamp : Int := 9223372036854775807

def Gate.new (most units : Int) : Gate := { most, units, stamp := 0, clock := 0, queue := [], inside := [], turn := [⟨0, maxStamp, 0⟩], logged := 0 }

def Gate.submit (g : Gate) (id : Int) : Int × Int × Gate :=
  if id < 1 ∨ 1073741824 < id then (0, 1, g)
  else if g.inside.contains id || g.queue.any (fun q => q.id == id) then (0, 151, g)
  else if 64 ≤ g.inside.length + g.queue.length then (0, 153, g)
  else (g.stamp + 1, 0, { g with stamp := g.stamp + 1, queue := g.queue ++ [⟨id, g.stamp + 1, 0⟩] })

/-- May the first of the queue enter? -/
def Gate.may (g : Gate) : Bool := decide (0 < g.queue.length) && (decide ((g.inside.length : Int) < g.most) && decide (g.logged + g.inside.length < g.units))

def Gate.enter (g : Gate) : Gate :=
  match g.queue with
  | [] => g
  | q :: rest => { g with queue := rest, inside := g.inside ++ [q.id], turn := rise (g.turn ++ [{ q with last := g.clock }]) g.turn.length }

def Gate.admit (g : Gate) (out : List Int) : List Int × Gate :=
  match _hq : g.queue with
  | [] => (out, g)
  | q :: _ => if g.may then Gate.admit g.enter (out ++ [q.id]) else (out, g)
termination_by g.queue.length
decreasing_by simp [Gate.enter, _hq]

def Gate.fin (g : Gate) (id : Int) (logged : Bool) : Int × Gate :=
  match g.inside.findIdx? (· == id) with
  | none => (152, g)
  | some i => (0, { g with inside := g.inside.eraseIdx i, turn := match atId g.turn id with | some j => remove g.turn j | none => g.turn, logged := if logged then g.logged + 1 else g.logged })

def Gate.swept (g : Gate) : Gate := { g with logged := 0 }
def Gate.next (g : Gate) : Int := match g.turn with | [] => 0 | x :: _ => x.id

def Gate.picked (g : Gate) (id : Int) : Int × Gate :=
  match atId g.turn id with
  | none => (152, g)
  | some i => (0, { g with clock := g.clock + 1, turn := sink (rise (g.turn.modify i fun x => { x with last := g.clock + 1 }) i) i })

/-! ## The document's gate -/

structure RGate where
  most : Int
  units : Int
  logged : Int
  clock : Int
  sweeper : Int
  stamp : Int
  queue : List G
  inside : List G
  deriving Inhabited

def RGate.new (most units : Int) : RGate := { most, units, logged := 0, clock := 0, sweeper := 0, stamp := 0, queue := [], inside := [] }

def RGate.submit (g : RGate) (id : Int) : Int × Int × RGate :=
  if id < 1 ∨ 1073741824 < id then (0, 1, g)
  else if (atId g.queue id).isSome || (atId g.inside id).isSome then (0, 151, g)
  else if 64 ≤ g.queue.length + g.inside.length then (0, 153, g)
  else (g.stamp + 1, 0, { g with stamp := g.stamp + 1, queue := g.queue ++ [⟨id, g.stamp + 1, 0⟩] })

def RGate.may (g : RGate) : Bool := decide (0 < g.queue.length) && (decide ((g.inside.length : Int) < g.most) && decide (g.logged + g.inside.length < g.units))

def RGate.enter (g : RGate) : RGate :=
  match g.queue with
  | [] => g
  | q :: rest => { g with queue := rest, inside := g.inside ++ [{ q with last := g.clock }] }

def RGate.admit (g : RGate) (out : List Int) : List Int × RGate :=
  match _hq : g.queue with
  | [] => (out, g)
  | q :: _ => if g.may then RGate.admit g.enter (out ++ [q.id]) else (out, g)
termination_by g.queue.length
decreasing_by simp [RGate.enter, _hq]

def RGate.fin (g : RGate) (id : Int) (logged : Bool) : Int × RGate :=
  match atId g.inside id with
  | none => (152, g)
  | some i => (0, { g with inside := g.inside.eraseIdx i, logged := if logged then g.logged + 1 else g.logged })

def RGate.swept (g : RGate) : RGate := { g with logged := 0 }

/-- The better one so far, and the next. -/
def better (a : G) (x : G) : G := if x.last < a.last ∨ (x.last = a.last ∧ x.stamp < a.stamp) then x else a
def RGate.best (g : RGate) : G := g.inside.foldl better ⟨0, g.stamp + 1, g.sweeper⟩
def RGate.next (g : RGate) : Int := g.best.id

def RGate.picked (g : RGate) (id : Int) : Int × RGate :=
  match atId g.inside id with
  | none => if id = 0 then (0, { g with clock := g.clock + 1, sweeper := g.clock + 1 }) else (152, g)
  | some i => if id = 0 then (0, { g with clock := g.clock + 1, sweeper := g.clock + 1 }) else (0, { g with clock := g.clock + 1, inside := g.inside.modify i fun x => { x with last := g.clock + 1 } })

end Go.Ytdmgbfkioghkeaa.Gt
