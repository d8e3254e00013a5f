/-
  Of no program. The rule: a region that draws its order is walked in the order of its text.
-/
import Derived.Test.YtfoefmiffkkeaaaDoorRegOps
namespace Go.YtfoefmiffkkeaaaDoor.Reg
open Go

/-- 0: touches no memory (where 'flat' holds of its operands) · 1: loads · 2: makes new blocks · 3: whatever -/
def rank (P : Program) : Op → Nat
  | .move _ | .assign _ | .pick .. | .field .. | .extract .. | .nilCheck _ | .indexAddr .. | .index .. | .makeInterface .. | .makeFunc .. | .binOp .. | .unOp .. | .slice .. | .build .. => 0
  | .convert _ d _ => if toInt P d then 0 else 3
  | .fieldAddr s _ f => if sized P s f then 0 else 3
  | .call { callee := .builtin .len, .. } => 0
  | .call { callee := .builtin .cap, .. } => 0
  | .load .. => 1
  | .box .. | .alloc .. | .buildSlice .. => 2
  | _ => 3

/-- Of these the operands are looked at. -/
def cond : Op → Bool
  | .nilCheck _ | .binOp .. | .unOp .. | .convert .. | .call _ => true
  | _ => false

def flat (ρ : Operand → Value) : Op → Bool
  | .nilCheck x => match ρ x with | .pointer _ => true | _ => false
  | .binOp _ _ x y _ => flat2 (ρ x) (ρ y)
  | .unOp _ _ x => flat1 (ρ x)
  | .convert _ _ x => match ρ x with | .int .. => true | _ => false
  | .call c => match (c.args.map ρ)[0]? with | some v => flatLen v | none => false
  | _ => true

theorem flat_of_not {ρ : Operand → Value} {o : Op} (h : cond o = false) : flat ρ o = true := by
  cases o <;> simp_all [cond, flat]

theorem flat_congr {ρ ρ' : Operand → Value} {o : Op} (h : ∀ x ∈ o.operands, ρ x = ρ' x) : flat ρ o = flat ρ' o := by
  cases o <;> simp only [Op.operands] at h <;> simp only [flat]
  case nilCheck x => rw [h x (by simp)]
  case binOp x y _ => rw [h x (by simp), h y (by simp)]
  case unOp x => rw [h x (by simp)]
  case convert x => rw [h x (by simp)]
  case call c => rw [Array.map_congr_left (xs := c.args) fun x hx => h x (by simp [Call.operands, hx])]

section
variable {P : Program}

theorem form0 {ρ : Operand → Value} {o : Oper} (hr : rank P o.op = 0) (hf : flat ρ o.op = true) :
    ∃ s : Sem Value, execOp ρ o = (s >>= fun v => pure (.value v)) ∧ plain P s := by
  obtain ⟨dst, op, type, pos, after, guard⟩ := o
  simp only at hr hf
  cases op <;> simp only [rank] at hr <;> (try (simp at hr; done))
  case move x => exact ⟨pure (ρ x), rfl, True.intro⟩
  case assign x => exact ⟨pure (ρ x), rfl, True.intro⟩
  case pick c a b =>
    exact ⟨(do pure (if ← asBool (ρ c) then ρ a else ρ b)), by cases hc : ρ c <;> simp [execOp, asBool, hc] <;> rfl,
      plain_b (plain_asBool _) fun _ => True.intro⟩
  case field t x f => exact ⟨_, rfl, plain_field _ _ _⟩
  case extract x i => exact ⟨_, rfl, plain_extract _ _⟩
  case nilCheck x =>
    simp only [flat] at hf
    cases hx : ρ x with
    | pointer a =>
      cases a with
      | none => exact ⟨runtimePanic .nilDeref, by simp [execOp, hx]; rfl, plain_of_dead (dead_runtimePanic _)⟩
      | some a => exact ⟨pure (.pointer (some a)), by simp [execOp, hx], True.intro⟩
    | _ => simp [hx] at hf
  case indexAddr t x i => exact ⟨_, rfl, plain_indexAt _ _ _⟩
  case index t x i => exact ⟨_, rfl, plain_index _ _ _⟩
  case makeInterface t x => exact ⟨_, rfl, plain_makeInterface _ _⟩
  case makeFunc f a b => exact ⟨_, rfl, True.intro⟩
  case binOp op t x y u =>
    refine ⟨(do eqGuard op t x y (ρ x) (ρ y); binOp op t (ρ x) (ρ y)), rfl, plain_b (plain_eqGuard ?_) fun _ => plain_binOp ?_⟩ <;> exact hf
  case unOp op t x => exact ⟨_, rfl, plain_unary hf⟩
  case slice t x lo hi mx => exact ⟨_, rfl, plain_sliceAt _ _ _ _ _⟩
  case build t ps => exact ⟨_, rfl, plain_build _ _⟩
  case convert s d x =>
    have hd : toInt P d = true := by
      cases h : toInt P d
      · simp [h] at hr
      · rfl
    exact ⟨_, rfl, plain_convert hd hf⟩
  case fieldAddr s x f =>
    have hd : sized P s f = true := by
      cases h : sized P s f
      · simp [h] at hr
      · rfl
    exact ⟨_, rfl, plain_fieldAt hd⟩
  case call c =>
    obtain ⟨callee, args, ats⟩ := c
    cases callee <;> (try (simp at hr; done))
    rename_i b
    cases b <;> (try (simp at hr; done))
    · exact ⟨_, rfl, plain_cap hf⟩
    · exact ⟨_, rfl, plain_len hf⟩

theorem form1 {ρ : Operand → Value} {o : Oper} (hr : rank P o.op = 1) : ∃ s : Sem Value, execOp ρ o = (s >>= fun v => pure (.value v)) ∧ loads P s := by
  obtain ⟨dst, op, type, pos, after, guard⟩ := o
  simp only at hr
  cases op <;> simp only [rank] at hr <;> (try (simp at hr; done))
  case load t x => exact ⟨_, rfl, loads_loadAt _ _⟩
  case convert => split at hr <;> simp at hr
  case fieldAddr => split at hr <;> simp at hr
  case call c =>
    obtain ⟨callee, args, ats⟩ := c
    cases callee <;> (try (simp at hr; done))
    rename_i b
    cases b <;> simp at hr

theorem form2 {ρ : Operand → Value} {o : Oper} (hr : rank P o.op = 2) : ∃ s : Sem Value, execOp ρ o = (s >>= fun v => pure (.value v)) ∧ news P s := by
  obtain ⟨dst, op, type, pos, after, guard⟩ := o
  simp only at hr
  cases op <;> simp only [rank] at hr <;> (try (simp at hr; done))
  case alloc t => exact ⟨_, rfl, news_alloc _⟩
  case box t x => exact ⟨_, rfl, news_box _ _⟩
  case buildSlice t n ps => exact ⟨_, rfl, news_buildSlice _ _ _⟩
  case convert => split at hr <;> simp at hr
  case fieldAddr => split at hr <;> simp at hr
  case call c =>
    obtain ⟨callee, args, ats⟩ := c
    cases callee <;> (try (simp at hr; done))
    rename_i b
    cases b <;> simp at hr

theorem run_value {s : Sem Value} {w : World} {r : Result Next} (h : (s >>= fun v => (pure (.value v) : Sem Next)).run P w = r) :
    (∃ v w', s.run P w = .ok v w' ∧ r = .ok (.value v) w') ∨ (∃ x w', s.run P w = .halt x w' ∧ r = .halt x w') := by
  have hb : (s >>= fun v => (pure (.value v) : Sem Next)).run P w = (s.run P w).andThen fun v w' => .ok (.value v) w' := Sem.run_bind ..
  rw [hb] at h
  cases hs : s.run P w with
  | ok v w' => exact .inl ⟨v, w', rfl, by rw [hs] at h; exact h.symm⟩
  | halt x w' => exact .inr ⟨x, w', rfl, by rw [hs] at h; exact h.symm⟩

theorem run_value_ok {s : Sem Value} {w w' : World} {v : Value} (h : s.run P w = .ok v w') :
    (s >>= fun v => (pure (.value v) : Sem Next)).run P w = .ok (.value v) w' := by
  rcases run_value (P := P) (s := s) (w := w) rfl with ⟨v', w'', h1, h2⟩ | ⟨x, w'', h1, h2⟩
  · rw [h] at h1; cases h1; exact h2
  · rw [h] at h1; cases h1

variable {ops : Array Oper} {Q : Exit → Act → World → Prop}

/-- The region's frame: nothing panics, nothing runs out of room. -/
structure Calm (Q : Exit → Act → World → Prop) : Prop where
  panic : ∀ c a w, ¬ Q (.panic c) a w
  room : ∀ a w, ¬ Q .outgrown a w

theorem Calm.lets (hc : Calm Q) : ¬ LetsOut Q := fun ⟨a, w, h⟩ => hc.room a w h

/-- An operation that is carried out. -/
theorem wpOp_wanted {i : Nat} {o : Oper} {K : Act → World → Prop} {a : Act} {w : World} (hc : Calm Q) (ho : ops[i]? = some o)
    (hw : Region.wanted o (yielded ops a.tmps) = true) : wpOp P ops Q i K a w ↔ o.wp P a w K Q := by
  unfold wpOp
  simp only [ho, hw, if_true]
  exact ⟨fun h => h.resolve_right fun h => hc.lets h.2, .inl⟩
theorem wpOp_unwanted {i : Nat} {o : Oper} {K : Act → World → Prop} {a : Act} {w : World} (ho : ops[i]? = some o)
    (hw : Region.wanted o (yielded ops a.tmps) = false) : wpOp P ops Q i K a w ↔ K (a.put o.dst undef) w := by
  unfold wpOp
  simp [ho, hw]

/-- An operation of the three first ranks that ends well ends with a value. -/
theorem wp_form {o : Oper} {a : Act} {w : World} {K : Act → World → Prop} {s : Sem Value} (hc : Calm Q) (hs : execOp a.eval o = (s >>= fun v => pure (.value v))) :
    o.wp P a w K Q ↔ ∃ v w', s.run P w = .ok v w' ∧ K (a.put o.dst v) w' := by
  unfold Oper.wp
  rw [hs]
  rcases run_value (P := P) (s := s) (w := w) rfl with ⟨v, w', h1, h2⟩ | ⟨x, w', h1, h2⟩
  · rw [h2]
    constructor
    · intro h; exact ⟨v, w', h1, h⟩
    · rintro ⟨v', w'', h3, h⟩; rw [h1] at h3; cases h3; exact h
  · rw [h2]
    constructor
    · intro h
      cases x <;> simp only [Oper.upon] at h
      exact absurd h (hc.panic _ _ _)
    · rintro ⟨v', w'', h3, h⟩; rw [h1] at h3; cases h3

theorem Yields.inv {i : Nat} {o : Oper} {v : Value} {a : Act} {w : World} {K : Act → World → Prop} (hc : Calm Q) (hi : ops[i]? = some o) (hy : Yields P ops o v a)
    (h : wpOp P ops Q i K a w) : K (a.put o.dst v) w := by
  rcases hy with ⟨hw, hv⟩ | ⟨hw, rfl⟩
  · rw [wpOp_wanted hc hi hw] at h
    unfold Oper.wp at h
    rw [hv w] at h
    exact h
  · rwa [wpOp_unwanted hi hw] at h

/-- (j, i), where i yields its value at whatever time: (i, j). -/
theorem swap_back {i j : Nat} {oi oj : Oper} {v : Value} {a : Act} {w : World} {K : Act → World → Prop} (hc : Calm Q) (hi : ops[i]? = some oi) (hj : ops[j]? = some oj)
    (hap : oi.apart ops oj = true) (hsi : ∀ cs b, oi.op ≠ .select cs b) (hsj : ∀ cs b, oj.op ≠ .select cs b) (hy : Yields P ops oi v a)
    (h : wpOp P ops Q j (fun a' w' => wpOp P ops Q i K a' w') a w) : wpOp P ops Q i (fun a' w' => wpOp P ops Q j K a' w') a w := by
  refine hy.wpOp hi ?_
  obtain ⟨h1, h2, h3⟩ := Oper.apart_spec hap
  have keep : ∀ (a : Act), Yields P ops oi v a → ∀ u, Yields P ops oi v (a.put oj.dst u) := fun a hy u =>
    hy.of_same (execOp_put oi hsi a oj.dst u h3) (wanted_put oi a oj.dst u h3)
  have keepD : ∀ d, Yields P ops oi v { a with defers := d :: a.defers } := fun d => hy.of_same rfl rfl
  have back : ∀ (a : Act), Yields P ops oi v a → ∀ u w, wpOp P ops Q i K (a.put oj.dst u) w → K ((a.put oi.dst v).put oj.dst u) w := fun a hy u w h => by
    have := Yields.inv hc hi (keep a hy u) h
    rwa [← Act.put_comm a v u h2] at this
  unfold wpOp
  simp only [hj]
  have hwp := wanted_put oj a oi.dst v h1
  rw [hwp]
  cases hw : Region.wanted oj (yielded ops a.tmps) with
  | false =>
    rw [wpOp_unwanted hj hw] at h
    simp only [Bool.false_eq_true, if_false]
    exact back a hy _ _ h
  | true =>
    rw [wpOp_wanted hc hj hw] at h
    simp only [if_true]
    refine .inl ?_
    unfold Oper.wp at *
    rw [execOp_put oj hsj a oi.dst v h1]
    generalize (execOp a.eval oj).run P w = r at *
    cases r with
    | ok n w' =>
      cases n <;> simp only [Oper.upon] at h ⊢
      case value u => exact back a hy u _ h
      case skip => exact back a hy _ _ h
      case defer d =>
        have := back _ (keepD d) _ _ h
        rw [← Act.put_defers] at this
        exact this
      case enter f args =>
        refine Calls.mono h fun e w'' he => ?_
        cases e with
        | returned u => exact back a hy u _ he
        | panicked c => exact absurd he (hc.panic _ _ _)
        | outgrown => exact he
      case row row args => exact Rows.mono h fun u w'' he => back a hy u _ he
    | halt x w' =>
      cases x <;> simp only [Oper.upon] at h ⊢
      case panic u => exact absurd h (hc.panic _ _ _)

/-- One end, at least, that an operation comes to. -/
theorem wpOp_next {i : Nat} {o : Oper} {K : Act → World → Prop} {a : Act} {w : World} (hc : Calm Q) (ho : ops[i]? = some o) (h : wpOp P ops Q i K a w) :
    ∃ a' w', K a' w' ∧ ∀ t, o.dst ≠ some t → a'.tmps[t]? = a.tmps[t]? := by
  have hput : ∀ (a : Act) v t, o.dst ≠ some t → (a.put o.dst v).tmps[t]? = a.tmps[t]? := fun a v t ht => by
    cases hd : o.dst with
    | none => rfl
    | some d =>
      have hne : d ≠ t := fun e => ht (by rw [hd, e])
      simp [Act.put, Array.getElem?_setIfInBounds_ne hne]
  cases hw : Region.wanted o (yielded ops a.tmps) with
  | false =>
    rw [wpOp_unwanted ho hw] at h
    exact ⟨_, _, h, hput _ _⟩
  | true =>
    rw [wpOp_wanted hc ho hw] at h
    unfold Oper.wp at h
    generalize (execOp a.eval o).run P w = r at *
    cases r with
    | ok n w' =>
      cases n <;> simp only [Oper.upon] at h
      case value u => exact ⟨_, _, h, hput _ _⟩
      case skip => exact ⟨_, _, h, hput _ _⟩
      case defer d => exact ⟨_, _, h, hput { a with defers := d :: a.defers } _⟩
      case enter f args =>
        obtain ⟨e, w'', fr, hR, _⟩ := h []
        cases e with
        | returned u => exact ⟨_, _, hR, hput _ _⟩
        | panicked c => exact absurd hR (hc.panic _ _ _)
        | outgrown => exact absurd hR hc.lets
      case row row args =>
        obtain ⟨v, w'', hR, _⟩ := h default []
        exact ⟨_, _, hR, hput _ _⟩
    | halt x w' =>
      cases x <;> simp only [Oper.upon] at h
      case panic u => exact absurd h (hc.panic _ _ _)

theorem wpOps_end (hc : Calm Q) : ∀ (L : List Nat) (a : Act) (w : World), wpOps P ops Q L a w →
    ∃ a' w', Q .normal a' w' ∧ ∀ t, (∀ k ∈ L, ∀ o, ops[k]? = some o → o.dst ≠ some t) → a'.tmps[t]? = a.tmps[t]? := by
  intro L
  induction L with
  | nil => intro a w h; exact ⟨a, w, h, fun _ _ => rfl⟩
  | cons i L ih =>
    intro a w h
    rw [wpOps_cons] at h
    cases ho : ops[i]? with
    | none =>
      unfold wpOp at h
      simp only [ho] at h
      obtain ⟨a', w', hq, ht⟩ := ih a w h
      exact ⟨a', w', hq, fun t hk => ht t fun k hkL => hk k (List.mem_cons_of_mem _ hkL)⟩
    | some o =>
      obtain ⟨a1, w1, h1, ht1⟩ := wpOp_next hc ho h
      obtain ⟨a', w', hq, ht⟩ := ih a1 w1 h1
      exact ⟨a', w', hq, fun t hk => (ht t fun k hkL => hk k (List.mem_cons_of_mem _ hkL)).trans (ht1 t (hk i (List.mem_cons_self ..) o ho))⟩

end
end Go.YtfoefmiffkkeaaaDoor.Reg
