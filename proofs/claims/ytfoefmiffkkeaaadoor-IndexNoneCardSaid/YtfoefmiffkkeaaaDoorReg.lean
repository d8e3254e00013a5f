/-
  Of no program. A region that draws its order, walked in the order of its text: where each two operations that no edge holds apart may change places (one of them touches no memory; or both only read; or a read stands ahead of a new block), every order comes to what the text's order comes to.
-/
import Derived.Orders
import Derived.Tactics
namespace Go.YtfoefmiffkkeaaaDoor.Reg
open Go

/-- Never comes to an end that is no halt. -/
def dead {α : Type} : Sem α → Prop
  | .pure _ => False
  | .load _ _ k => ∀ v, dead (k v)
  | .store _ _ _ k => dead k
  | .new _ k => ∀ r, dead (k r)
  | .shape _ k => ∀ s, dead (k s)
  | .freeze _ _ k => dead k
  | .frozen _ k => ∀ b, dead (k b)
  | .getObj _ k => ∀ o, dead (k o)
  | .setObj _ _ k => dead k
  | .choose _ k => ∀ n, dead (k n)
  | .sys _ k => ∀ r, dead (k r)
  | .program k => ∀ p, dead (k p)
  | .mark _ k => dead k
  | .halt _ => True

/-- Comes to its value without looking at memory. -/
def plain {α : Type} (P : Program) : Sem α → Prop
  | .pure _ => True
  | .halt _ => True
  | .program k => plain P (k P)
  | .mark _ k => plain P k
  | .load _ _ k => ∀ v, dead (k v)
  | .store _ _ _ k => dead k
  | .new _ k => ∀ r, dead (k r)
  | .shape _ k => ∀ s, dead (k s)
  | .freeze _ _ k => dead k
  | .frozen _ k => ∀ b, dead (k b)
  | .getObj _ k => ∀ o, dead (k o)
  | .setObj _ _ k => dead k
  | .choose _ k => ∀ n, dead (k n)
  | .sys _ k => ∀ r, dead (k r)

/-- Loads alone. -/
def loads {α : Type} (P : Program) : Sem α → Prop
  | .pure _ => True
  | .halt _ => True
  | .program k => loads P (k P)
  | .mark _ k => loads P k
  | .load _ _ k => ∀ v, loads P (k v)
  | .store _ _ _ k => dead k
  | .new _ k => ∀ r, dead (k r)
  | .shape _ k => ∀ s, dead (k s)
  | .freeze _ _ k => dead k
  | .frozen _ k => ∀ b, dead (k b)
  | .getObj _ k => ∀ o, dead (k o)
  | .setObj _ _ k => dead k
  | .choose _ k => ∀ n, dead (k n)
  | .sys _ k => ∀ r, dead (k r)

/-- New blocks alone. -/
def news {α : Type} (P : Program) : Sem α → Prop
  | .pure _ => True
  | .halt _ => True
  | .program k => news P (k P)
  | .mark _ k => news P k
  | .new _ k => ∀ r, news P (k r)
  | .load _ _ k => ∀ v, dead (k v)
  | .store _ _ _ k => dead k
  | .shape _ k => ∀ s, dead (k s)
  | .freeze _ _ k => dead k
  | .frozen _ k => ∀ b, dead (k b)
  | .getObj _ k => ∀ o, dead (k o)
  | .setObj _ _ k => dead k
  | .choose _ k => ∀ n, dead (k n)
  | .sys _ k => ∀ r, dead (k r)

section
variable {α β : Type} {P : Program}

theorem dead_run {s : Sem α} (h : dead s) : ∀ (w : World) (a : α) (w' : World), s.run P w ≠ .ok a w' := by
  induction s with
  | pure a => exact h.elim
  | load m a k ih =>
    intro w x w'
    simp only [Sem.run]
    split
    · exact ih _ (h _) _ _ _
    · split
      · exact ih _ (h _) _ _ _
      · simp
  | store m a v k ih =>
    intro w x w'
    cases v <;> simp only [Sem.run] <;> first
      | (simp; done)
      | (split
         · split
           · simp
           · exact ih h _ _ _
         · split
           · exact ih h _ _ _
           · simp)
  | new o k ih => intro w x w'; exact ih _ (h _) _ _ _
  | shape r k ih => intro w x w'; exact ih _ (h _) _ _ _
  | freeze a n k ih => intro w x w'; exact ih h _ _ _
  | frozen a k ih => intro w x w'; exact ih _ (h _) _ _ _
  | getObj r k ih =>
    intro w x w'
    simp only [Sem.run]
    split
    · simp
    · exact ih _ (h _) _ _ _
    · simp
  | setObj r o k ih =>
    intro w x w'
    simp only [Sem.run]
    split
    · simp
    · exact ih h _ _ _
    · simp
  | choose q k ih =>
    intro w x w'
    simp only [Sem.run]
    split
    · exact ih _ (h _) _ _ _
    · exact ih _ (h _) _ _ _
  | sys c k ih => intro w x w'; exact ih _ (h _) _ _ _
  | program k ih => intro w x w'; exact ih _ (h _) _ _ _
  | mark m k ih => intro w x w'; exact ih h _ _ _
  | halt h' => intro w x w'; simp [Sem.run]

theorem plain_run {s : Sem α} (h : plain P s) : (∃ a, ∀ w, s.run P w = .ok a w) ∨ (∀ (w : World) (a : α) (w' : World), s.run P w ≠ .ok a w') := by
  induction s with
  | pure a => exact .inl ⟨a, fun w => rfl⟩
  | halt h' => exact .inr fun w x w' => by simp [Sem.run]
  | program k ih => exact ih _ h
  | mark m k ih => exact ih h
  | load m a k ih => exact .inr (dead_run (s := .load m a k) h)
  | store m a v k ih => exact .inr (dead_run (s := .store m a v k) h)
  | new o k ih => exact .inr (dead_run (s := .new o k) h)
  | shape r k ih => exact .inr (dead_run (s := .shape r k) h)
  | freeze a n k ih => exact .inr (dead_run (s := .freeze a n k) h)
  | frozen a k ih => exact .inr (dead_run (s := .frozen a k) h)
  | getObj r k ih => exact .inr (dead_run (s := .getObj r k) h)
  | setObj r o k ih => exact .inr (dead_run (s := .setObj r o k) h)
  | choose q k ih => exact .inr (dead_run (s := .choose q k) h)
  | sys c k ih => exact .inr (dead_run (s := .sys c k) h)

theorem loads_same {s : Sem α} (h : loads P s) : ∀ {w : World} {a : α} {w' : World}, s.run P w = .ok a w' → w' = w := by
  induction s with
  | pure a => intro w x w' e; simp only [Sem.run, Result.ok.injEq] at e; exact e.2.symm
  | halt h' => intro w x w' e; simp [Sem.run] at e
  | program k ih => intro w x w' e; exact ih _ h e
  | mark m k ih => intro w x w' e; exact ih h e
  | load m a k ih =>
    intro w x w' e
    simp only [Sem.run] at e
    split at e
    · exact ih _ (h _) e
    · split at e
      · exact ih _ (h _) e
      · simp at e
  | store m a v k ih => intro w x w' e; exact absurd e (dead_run (s := .store m a v k) h _ _ _)
  | new o k ih => intro w x w' e; exact absurd e (dead_run (s := .new o k) h _ _ _)
  | shape r k ih => intro w x w' e; exact absurd e (dead_run (s := .shape r k) h _ _ _)
  | freeze a n k ih => intro w x w' e; exact absurd e (dead_run (s := .freeze a n k) h _ _ _)
  | frozen a k ih => intro w x w' e; exact absurd e (dead_run (s := .frozen a k) h _ _ _)
  | getObj r k ih => intro w x w' e; exact absurd e (dead_run (s := .getObj r k) h _ _ _)
  | setObj r o k ih => intro w x w' e; exact absurd e (dead_run (s := .setObj r o k) h _ _ _)
  | choose q k ih => intro w x w' e; exact absurd e (dead_run (s := .choose q k) h _ _ _)
  | sys c k ih => intro w x w' e; exact absurd e (dead_run (s := .sys c k) h _ _ _)

/-- w' is w with new blocks behind, no more. -/
def Longer (w w' : World) : Prop := ∃ l : List Obj, w' = { w with heap := w.heap ++ l.toArray }

theorem Longer.refl (w : World) : Longer w w := ⟨[], by simp⟩
theorem Longer.push {w w' : World} (h : Longer w w') (o : Obj) : Longer w { w' with heap := w'.heap.push o } := by
  obtain ⟨l, rfl⟩ := h
  exact ⟨l ++ [o], by simp⟩
theorem Longer.heap {w w' : World} (h : Longer w w') {b : Nat} {o : Obj} (hb : w.heap[b]? = some o) : w'.heap[b]? = some o := by
  obtain ⟨l, rfl⟩ := h
  have hlt := (Array.getElem?_eq_some_iff.1 hb).1
  rw [← hb]
  exact Array.getElem?_append_left hlt
theorem Longer.cell {w w' : World} (h : Longer w w') {a : Addr} {v : Value} (hc : w.cell? a = some v) : w'.cell? a = some v := by
  unfold World.cell? at *
  cases hb : w.heap[a.block]? with
  | none => simp [hb] at hc
  | some o => rw [h.heap hb]; simpa [hb] using hc
theorem seen_none {w : World} {at_ : Addr} {u : TypeId} {k : Addr} {m : Bool} (hq : w.heap[at_.block]? = none) : ∃ e, w.seen P at_ u k m = .error e := by
  unfold World.seen
  cases (k.spot.isSome || at_.spot.isSome) with
  | true => exact ⟨_, rfl⟩
  | false =>
    cases plainCell P P.depth u k.off with
    | none => exact ⟨_, rfl⟩
    | some like =>
      cases hl : like.bytes? with
      | none => exact ⟨_, by simp [hl]; rfl⟩
      | some bs =>
        cases hb : byteOfCell P P.depth u k.off with
        | none => exact ⟨_, by simp [hl, hb]; rfl⟩
        | some β => exact ⟨_, by simp [hl, hb, hq]; rfl⟩
theorem Longer.far {w w' : World} (h : Longer w w') {a : Addr} {m : Bool} {r : Value × List Addr} (hn : w.cell? a = none) (hc : w.farLoad P a m = .ok r) :
    w'.cell? a = none ∧ w'.farLoad P a m = .ok r := by
  unfold World.farLoad at *
  cases hb : w.heap[a.block]? with
  | none => simp [hb] at hc
  | some o =>
    have hb' := h.heap hb
    rw [hb'] 
    constructor
    · unfold World.cell? at *
      rw [hb']
      simpa [hb] using hn
    · rw [hb] at hc
      cases o <;> simp only at hc ⊢ <;> try (simp at hc; done)
      rename_i at_ u
      have key : ∀ x, w.viewLoad P at_ u a m = .ok x → w'.viewLoad P at_ u a m = .ok x := by
        intro x hx
        cases hq : w.heap[at_.block]? with
        | some q => unfold World.viewLoad World.seen at *; rw [h.heap hq]; simpa [hq] using hx
        | none =>
          exfalso
          obtain ⟨e, he⟩ := seen_none (P := P) (u := u) (k := a) (m := m) hq
          unfold World.viewLoad at hx
          rw [he] at hx
          cases hx
      cases hv : w.viewLoad P at_ u a m with
      | error e => simp [hv] at hc
      | ok x => rw [key x hv]; simpa [hv] using hc

theorem loads_longer {s : Sem α} (h : loads P s) : ∀ {w w' : World} {a : α}, Longer w w' → s.run P w = .ok a w → s.run P w' = .ok a w' := by
  induction s with
  | pure a => intro w w' x _ e; simp only [Sem.run, Result.ok.injEq] at e ⊢; exact ⟨e.1, trivial⟩
  | halt h' => intro w w' x _ e; simp [Sem.run] at e
  | program k ih => intro w w' x hl e; exact ih _ h hl e
  | mark m k ih => intro w w' x hl e; exact ih h hl e
  | load m a k ih =>
    intro w w' x hl e
    simp only [Sem.run] at e ⊢
    cases hc : w.cell? a with
    | some v =>
      rw [hl.cell hc]
      simp only [hc] at e
      exact ih _ (h _) hl e
    | none =>
      simp only [hc] at e
      cases hf : w.farLoad P a (m == .atomic) with
      | error e' => simp [hf] at e
      | ok r =>
        obtain ⟨h1, h2⟩ := hl.far hc hf
        rw [h1, h2]
        simp only [hf] at e
        exact ih _ (h _) hl e
  | store m a v k ih => intro w w' x hl e; exact absurd e (dead_run (s := .store m a v k) h _ _ _)
  | new o k ih => intro w w' x hl e; exact absurd e (dead_run (s := .new o k) h _ _ _)
  | shape r k ih => intro w w' x hl e; exact absurd e (dead_run (s := .shape r k) h _ _ _)
  | freeze a n k ih => intro w w' x hl e; exact absurd e (dead_run (s := .freeze a n k) h _ _ _)
  | frozen a k ih => intro w w' x hl e; exact absurd e (dead_run (s := .frozen a k) h _ _ _)
  | getObj r k ih => intro w w' x hl e; exact absurd e (dead_run (s := .getObj r k) h _ _ _)
  | setObj r o k ih => intro w w' x hl e; exact absurd e (dead_run (s := .setObj r o k) h _ _ _)
  | choose q k ih => intro w w' x hl e; exact absurd e (dead_run (s := .choose q k) h _ _ _)
  | sys c k ih => intro w w' x hl e; exact absurd e (dead_run (s := .sys c k) h _ _ _)

theorem news_longer {s : Sem α} (h : news P s) : ∀ {w w0 : World} {a : α} {w' : World}, Longer w0 w → s.run P w = .ok a w' → Longer w0 w' := by
  induction s with
  | pure a => intro w w0 x w' hl e; simp only [Sem.run, Result.ok.injEq] at e; exact e.2 ▸ hl
  | halt h' => intro w w0 x w' _ e; simp [Sem.run] at e
  | program k ih => intro w w0 x w' hl e; exact ih _ h hl e
  | mark m k ih => intro w w0 x w' hl e; exact ih h hl e
  | new o k ih => intro w w0 x w' hl e; exact ih _ (h _) (hl.push o) e
  | load m a k ih => intro w w0 x w' hl e; exact absurd e (dead_run (s := .load m a k) h _ _ _)
  | store m a v k ih => intro w w0 x w' hl e; exact absurd e (dead_run (s := .store m a v k) h _ _ _)
  | shape r k ih => intro w w0 x w' hl e; exact absurd e (dead_run (s := .shape r k) h _ _ _)
  | freeze a n k ih => intro w w0 x w' hl e; exact absurd e (dead_run (s := .freeze a n k) h _ _ _)
  | frozen a k ih => intro w w0 x w' hl e; exact absurd e (dead_run (s := .frozen a k) h _ _ _)
  | getObj r k ih => intro w w0 x w' hl e; exact absurd e (dead_run (s := .getObj r k) h _ _ _)
  | setObj r o k ih => intro w w0 x w' hl e; exact absurd e (dead_run (s := .setObj r o k) h _ _ _)
  | choose q k ih => intro w w0 x w' hl e; exact absurd e (dead_run (s := .choose q k) h _ _ _)
  | sys c k ih => intro w w0 x w' hl e; exact absurd e (dead_run (s := .sys c k) h _ _ _)

theorem dead_bind {s : Sem α} {f : α → Sem β} (h : dead s) : dead (s.bind f) := by
  induction s with
  | pure a => exact h.elim
  | halt h' => trivial
  | _ => simp_all [Sem.bind, dead]

theorem plain_bind {s : Sem α} {f : α → Sem β} (h : plain P s) (hf : ∀ a, plain P (f a)) : plain P (s.bind f) := by
  induction s with
  | pure a => exact hf a
  | halt h' => trivial
  | program k ih => exact ih _ h
  | mark m k ih => exact ih h
  | load m a k ih => intro v; exact dead_bind (h v)
  | store m a v k ih => exact dead_bind (s := k) h
  | new o k ih => intro v; exact dead_bind (h v)
  | shape r k ih => intro v; exact dead_bind (h v)
  | freeze a n k ih => exact dead_bind (s := k) h
  | frozen a k ih => intro v; exact dead_bind (h v)
  | getObj r k ih => intro v; exact dead_bind (h v)
  | setObj r o k ih => exact dead_bind (s := k) h
  | choose q k ih => intro v; exact dead_bind (h v)
  | sys c k ih => intro v; exact dead_bind (h v)

theorem loads_bind {s : Sem α} {f : α → Sem β} (h : loads P s) (hf : ∀ a, loads P (f a)) : loads P (s.bind f) := by
  induction s with
  | pure a => exact hf a
  | halt h' => trivial
  | program k ih => exact ih _ h
  | mark m k ih => exact ih h
  | load m a k ih => intro v; exact ih v (h v)
  | store m a v k ih => exact dead_bind (s := k) h
  | new o k ih => intro v; exact dead_bind (h v)
  | shape r k ih => intro v; exact dead_bind (h v)
  | freeze a n k ih => exact dead_bind (s := k) h
  | frozen a k ih => intro v; exact dead_bind (h v)
  | getObj r k ih => intro v; exact dead_bind (h v)
  | setObj r o k ih => exact dead_bind (s := k) h
  | choose q k ih => intro v; exact dead_bind (h v)
  | sys c k ih => intro v; exact dead_bind (h v)

theorem news_bind {s : Sem α} {f : α → Sem β} (h : news P s) (hf : ∀ a, news P (f a)) : news P (s.bind f) := by
  induction s with
  | pure a => exact hf a
  | halt h' => trivial
  | program k ih => exact ih _ h
  | mark m k ih => exact ih h
  | new o k ih => intro v; exact ih v (h v)
  | load m a k ih => intro v; exact dead_bind (h v)
  | store m a v k ih => exact dead_bind (s := k) h
  | shape r k ih => intro v; exact dead_bind (h v)
  | freeze a n k ih => exact dead_bind (s := k) h
  | frozen a k ih => intro v; exact dead_bind (h v)
  | getObj r k ih => intro v; exact dead_bind (h v)
  | setObj r o k ih => exact dead_bind (s := k) h
  | choose q k ih => intro v; exact dead_bind (h v)
  | sys c k ih => intro v; exact dead_bind (h v)

theorem plain_loads {s : Sem α} (h : plain P s) : loads P s := by
  induction s with
  | pure a => trivial
  | halt h' => trivial
  | program k ih => exact ih _ h
  | mark m k ih => exact ih h
  | load m a k ih =>
    intro v
    have : ∀ t : Sem α, dead t → loads P t := by
      intro t ht
      induction t with
      | pure a => exact ht.elim
      | halt h' => trivial
      | program k ih => exact ih _ (ht _)
      | mark m k ih => exact ih ht
      | load m a k ih => intro v; exact ih _ (ht v)
      | _ => exact ht
    exact this _ (h v)
  | _ => exact h
end
end Go.YtfoefmiffkkeaaaDoor.Reg
