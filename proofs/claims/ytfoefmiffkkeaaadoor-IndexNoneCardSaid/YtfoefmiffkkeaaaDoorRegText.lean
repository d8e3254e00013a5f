/-
  Of no program. The rule 'wp_region_text': a region that draws its order is walked in the order of its text.
-/
import Derived.Test.YtfoefmiffkkeaaaDoorRegSwap
namespace Go.YtfoefmiffkkeaaaDoor.Reg
open Go

/-- Does an edge (or a chain of them) hold j ahead of i? -/
def ordered (B : Array Nat) (j i : Nat) : Bool := (B.getD i 0).testBit j

/-- What an operation looks at is written by none from it on. -/
def stable (ops : Array Oper) (i : Nat) : Bool :=
  match ops[i]? with
  | none => true
  | some o => (List.range ops.size).all fun k => Nat.blt k i || match ops[k]? with
    | none => true
    | some p => match p.dst with
      | none => true
      | some d => !(o.looksAt ops).contains d

def rk (P : Program) (ops : Array Oper) (i : Nat) : Nat :=
  match ops[i]? with
  | none => 3
  | some o => match rank P o.op with
    | 0 => if cond o.op && !stable ops i then 3 else 0
    | r => r

def apartAt (ops : Array Oper) (j i : Nat) : Bool :=
  match ops[j]?, ops[i]? with
  | some oj, some oi => oj.apart ops oi
  | _, _ => false

def pairOk (P : Program) (ops : Array Oper) (B : Array Nat) (j i : Nat) : Bool :=
  ordered B j i || (apartAt ops j i && (rk P ops j == 0 || rk P ops i == 0 || (rk P ops j == 1 && (rk P ops i == 1 || rk P ops i == 2))))

def backB (ops : Array Oper) : Bool :=
  (List.range ops.size).all fun i => match ops[i]? with
    | none => true
    | some o => o.after.all fun e => !Region.binds .any e || Nat.blt e.on i

def closedB (ops : Array Oper) (B : Array Nat) : Bool :=
  (List.range ops.size).all fun i => (List.range i).all fun j => !ordered B j i || match ops[i]? with
    | none => false
    | some o => o.after.any fun e => Region.binds .any e && (e.on == j || (Nat.blt j e.on && ordered B j e.on))

def swapB (P : Program) (ops : Array Oper) (B : Array Nat) : Bool :=
  Region.noSelect ops && backB ops && closedB ops B && (List.range ops.size).all fun i => (List.range i).all fun j => pairOk P ops B j i

/-- Whose operands are looked at, at the region's end. -/
def need (P : Program) (ops : Array Oper) (B : Array Nat) (i : Nat) : Bool :=
  (match ops[i]? with | none => false | some o => cond o.op) && rk P ops i == 0 &&
    ((List.range ops.size).any fun k => if Nat.blt k i then !ordered B k i else Nat.blt i k && !ordered B i k)

def checks (P : Program) (ops : Array Oper) (B : Array Nat) (a : Act) : Bool :=
  (List.range ops.size).all fun i => !need P ops B i || match ops[i]? with
    | none => true
    | some o => !Region.wanted o (yielded ops a.tmps) || flat a.eval o.op

/-- The post behind the walk: what the operations looked at is plain. -/
def Ends (P : Program) (ops : Array Oper) (B : Array Nat) (Q : Exit → Act → World → Prop) : Exit → Act → World → Prop
  | .normal, a, w => checks P ops B a = true ∧ Q .normal a w
  | .panic _, _, _ => False
  | .outgrown, _, _ => False
  | e, a, w => Q e a w

section
variable {P : Program} {ops : Array Oper} {B : Array Nat} {Q : Exit → Act → World → Prop}

theorem Ends.calm : Calm (Ends P ops B Q) := ⟨fun _ _ _ h => h, fun _ _ h => h⟩

theorem rk_stable {i : Nat} {o : Oper} (ho : ops[i]? = some o) (h : rk P ops i = 0) : rank P o.op = 0 ∧ (cond o.op = true → stable ops i = true) := by
  unfold rk at h
  simp only [ho] at h
  cases hr : rank P o.op with
  | zero =>
    simp only [hr] at h
    refine ⟨rfl, fun hc => ?_⟩
    cases hs : stable ops i with
    | true => rfl
    | false => simp [hc, hs] at h
  | succ n => simp [hr] at h
theorem rk_pos {i n : Nat} {o : Oper} (ho : ops[i]? = some o) (h : rk P ops i = n + 1) (hn : n < 2) : rank P o.op = n + 1 := by
  unfold rk at h
  simp only [ho] at h
  cases hr : rank P o.op with
  | zero =>
    simp only [hr] at h
    split at h <;> omega
  | succ m => simp only [hr] at h; exact h

theorem stable_spec {i : Nat} {o : Oper} (ho : ops[i]? = some o) (h : stable ops i = true) {k : Nat} (hk : i ≤ k) {p : Oper} (hp : ops[k]? = some p) {d : Tmp} (hd : p.dst = some d) :
    d ∉ o.looksAt ops := by
  unfold stable at h
  simp only [ho, List.all_eq_true, List.mem_range] at h
  have := h k (Array.getElem?_eq_some_iff.1 hp).1
  simp only [hp, hd, Bool.or_eq_true, Nat.blt_eq] at this
  rcases this with h1 | h1
  · omega
  · simpa using h1

/-- An operation of rank 0 whose operands nobody writes any more: as the check at the end says. -/
theorem flat_now {i : Nat} {o : Oper} {a : Act} {w : World} {L : List Nat} (ho : ops[i]? = some o) (hr : rk P ops i = 0) (hn : cond o.op = true → need P ops B i = true)
    (hL : ∀ k ∈ L, i ≤ k) (h : wpOps P ops (Ends P ops B Q) L a w) (hw : Region.wanted o (yielded ops a.tmps) = true) : flat a.eval o.op = true := by
  cases hcd : cond o.op with
  | false => exact flat_of_not hcd
  | true =>
    obtain ⟨a', w', hq, ht⟩ := wpOps_end Ends.calm L a w h
    have hst := (rk_stable ho hr).2 hcd
    have hlook : ∀ t, t ∈ o.looksAt ops → a'.tmps[t]? = a.tmps[t]? := fun t hm => ht t fun k hk p hp hd => stable_spec ho hst (hL k hk) hp hd hm
    have hchk := hq.1
    unfold checks at hchk
    simp only [List.all_eq_true, List.mem_range] at hchk
    have h1 := hchk i (Array.getElem?_eq_some_iff.1 ho).1
    simp only [ho, hn hcd, Bool.not_true, Bool.false_or, Bool.or_eq_true, Bool.not_eq_true'] at h1
    have hev : ∀ x ∈ o.op.operands, a'.eval x = a.eval x := fun x hx => by
      cases x with
      | tmp t =>
        have hm : t ∈ o.looksAt ops := List.mem_append_left _ (List.mem_filterMap.2 ⟨.tmp t, by simpa using hx, rfl⟩)
        simp [Act.eval, hlook t hm]
      | _ => rfl
    have hwa : Region.wanted o (yielded ops a'.tmps) = Region.wanted o (yielded ops a.tmps) := by
      unfold Region.wanted
      cases hg : o.guard with
      | none => rfl
      | some gw =>
        obtain ⟨g, want⟩ := gw
        have hy : yielded ops a'.tmps g = yielded ops a.tmps g := by
          unfold yielded
          cases ht : (ops[g]?).bind (·.dst) with
          | none => rfl
          | some t =>
            have hm : t ∈ o.looksAt ops := by simp [Oper.looksAt, hg, ht]
            simp only [Option.bind_some, hlook t hm]
        simp only [hy]
    rcases h1 with h1 | h1
    · rw [hwa, hw] at h1; cases h1
    · rwa [flat_congr hev] at h1

theorem yields0 {o : Oper} {a : Act} (hr : rank P o.op = 0) (hf : Region.wanted o (yielded ops a.tmps) = true → flat a.eval o.op = true) {i : Nat} (hi : ops[i]? = some o)
    {K : Act → World → Prop} {w : World} (hc : Calm Q) (h : wpOp P ops Q i K a w) : ∃ v, Yields P ops o v a := by
  cases hw : Region.wanted o (yielded ops a.tmps) with
  | false => exact ⟨undef, .inr ⟨hw, rfl⟩⟩
  | true =>
    obtain ⟨s, hs, hp⟩ := form0 hr (hf hw)
    rw [wpOp_wanted hc hi hw, wp_form hc hs] at h
    obtain ⟨v, w', h1, _⟩ := h
    rcases plain_run hp with ⟨u, hu⟩ | hno
    · exact ⟨u, .inl ⟨hw, fun w => by rw [hs]; exact run_value_ok (hu w)⟩⟩
    · exact absurd h1 (hno _ _ _)

/-- TWO OPERATIONS CHANGE PLACES. -/
theorem swap (hsel : Region.noSelect ops = true) {j i : Nat} {L : List Nat} {a : Act} {w : World} (hji : j < i) (hL : ∀ k ∈ L, j ≤ k) (hLi : ∀ k ∈ L, k < i ∨ i ≤ k)
    (hLp : ∀ k ∈ L, k < i → apartAt ops k i = true)
    (hno : ordered B j i = false) (hok : pairOk P ops B j i = true) (h : wpOps P ops (Ends P ops B Q) (j :: i :: L) a w) : wpOps P ops (Ends P ops B Q) (i :: j :: L) a w := by
  have hce : Calm (Ends P ops B Q) := Ends.calm
  unfold pairOk at hok
  simp only [hno, Bool.false_or, Bool.and_eq_true, Bool.or_eq_true, beq_iff_eq] at hok
  obtain ⟨hap, hrk⟩ := hok
  unfold apartAt at hap
  cases hj : ops[j]? with
  | none => simp [hj] at hap
  | some oj =>
  cases hi : ops[i]? with
  | none => simp [hj, hi] at hap
  | some oi =>
  simp only [hj, hi] at hap
  have hsj : ∀ cs b, oj.op ≠ .select cs b := fun cs b => Region.noSelect_spec hsel j oj cs b hj
  have hsi : ∀ cs b, oi.op ≠ .select cs b := fun cs b => Region.noSelect_spec hsel i oi cs b hi
  have hapS : oi.apart ops oj = true := by
    obtain ⟨h1, h2, h3⟩ := Oper.apart_spec hap
    unfold Oper.apart
    cases hdj : oj.dst with
    | none =>
      cases hdi : oi.dst with
      | none => simp
      | some di => have := h3 _ hdi; simpa using this
    | some dj =>
      have k1 := h1 _ hdj
      cases hdi : oi.dst with
      | none => simpa using k1
      | some di =>
        have k3 := h3 _ hdi
        have k2 := h2 _ hdj
        rw [hdi] at k2
        simp only [List.contains_eq_mem, Bool.and_eq_true, Bool.not_eq_true', decide_eq_false_iff_not, bne_iff_ne, ne_eq, Option.some.injEq] at k2 ⊢
        exact ⟨⟨k3, fun e => k2 e.symm⟩, k1⟩
  have hnj : cond oj.op = true → rk P ops j = 0 → need P ops B j = true := fun hcd hr => by
    unfold need
    simp only [hj, hcd, hr, Bool.true_and, beq_self_eq_true, List.any_eq_true, List.mem_range]
    exact ⟨i, (Array.getElem?_eq_some_iff.1 hi).1, by
      have h1 : Nat.blt i j = false := by rw [Bool.eq_false_iff]; intro h; rw [Nat.blt_eq] at h; omega
      have h2 : Nat.blt j i = true := by rw [Nat.blt_eq]; exact hji
      simp [h1, h2, hno]⟩
  have hni : cond oi.op = true → rk P ops i = 0 → need P ops B i = true := fun hcd hr => by
    unfold need
    simp only [hi, hcd, hr, Bool.true_and, beq_self_eq_true, List.any_eq_true, List.mem_range]
    exact ⟨j, (Array.getElem?_eq_some_iff.1 hj).1, by
      have h2 : Nat.blt j i = true := by rw [Nat.blt_eq]; exact hji
      simp [h2, hno]⟩
  have h0 := h
  rw [wpOps_cons] at h
  have h' : wpOp P ops (Ends P ops B Q) j (fun a' w' => wpOp P ops (Ends P ops B Q) i (wpOps P ops (Ends P ops B Q) L) a' w') a w := by
    refine wpOp_mono (fun a' w' hh => ?_) h
    rwa [wpOps_cons] at hh
  rw [wpOps_cons]
  have done : wpOp P ops (Ends P ops B Q) i (fun a' w' => wpOp P ops (Ends P ops B Q) j (wpOps P ops (Ends P ops B Q) L) a' w') a w →
      wpOp P ops (Ends P ops B Q) i (wpOps P ops (Ends P ops B Q) (j :: L)) a w := fun hh =>
    wpOp_mono (fun a' w' hh => by rw [wpOps_cons]; exact hh) hh
  refine done ?_
  -- j yields at whatever time
  have caseJ : ∀ v, Yields P ops oj v a → wpOp P ops (Ends P ops B Q) i (fun a' w' => wpOp P ops (Ends P ops B Q) j (wpOps P ops (Ends P ops B Q) L) a' w') a w := fun v hy => by
    have h1 := Yields.inv hce hj hy h'
    have h2 := wpOp_put hi hap hsj hsi (fun c a w hp => absurd hp (hce.panic _ _ _)) hy h1
    exact wpOp_mono (fun a' w' hh => hh.1.wpOp hj hh.2) h2
  have caseI : ∀ v, Yields P ops oi v a → wpOp P ops (Ends P ops B Q) i (fun a' w' => wpOp P ops (Ends P ops B Q) j (wpOps P ops (Ends P ops B Q) L) a' w') a w := fun v hy =>
    swap_back hce hi hj hapS hsi hsj hy h'
  obtain ⟨p1, p2, p3⟩ := Oper.apart_spec hapS
  rcases hrk with (hr | hr) | ⟨hr1, hr2⟩
  · obtain ⟨v, hy⟩ := yields0 (rk_stable hj hr).1 (flat_now hj hr (fun hcd => hnj hcd hr) (fun k hk => by
      rcases List.mem_cons.1 hk with rfl | hk
      · exact Nat.le_refl _
      · rcases List.mem_cons.1 hk with rfl | hk
        · omega
        · exact hL k hk) h0) hj hce h'
    exact caseJ v hy
  · -- i of rank 0: its operands as they stand behind j
    obtain ⟨a1, w1, hK, ht⟩ := wpOp_next hce hj h'
    have hev : ∀ x ∈ oi.op.operands, a1.eval x = a.eval x := fun x hx => by
      cases x with
      | tmp t =>
        have hm : t ∈ oi.looksAt ops := List.mem_append_left _ (List.mem_filterMap.2 ⟨.tmp t, by simpa using hx, rfl⟩)
        have := ht t (fun hd => p3 _ hd hm)
        simp [Act.eval, this]
      | _ => rfl
    have hwa : Region.wanted oi (yielded ops a1.tmps) = Region.wanted oi (yielded ops a.tmps) := by
      unfold Region.wanted
      cases hg : oi.guard with
      | none => rfl
      | some gw =>
        obtain ⟨g, want⟩ := gw
        have hy : yielded ops a1.tmps g = yielded ops a.tmps g := by
          unfold yielded
          cases htt : (ops[g]?).bind (·.dst) with
          | none => rfl
          | some t =>
            have hm : t ∈ oi.looksAt ops := by simp [Oper.looksAt, hg, htt]
            simp only [Option.bind_some, ht t (fun hd => p3 _ hd hm)]
        simp only [hy]
    -- 'flat' behind j
    have hflat : Region.wanted oi (yielded ops a1.tmps) = true → flat a1.eval oi.op = true := fun hw => by
      cases hcd : cond oi.op with
      | false => exact flat_of_not hcd
      | true =>
        have hst := (rk_stable hi hr).2 hcd
        have hK' : wpOps P ops (Ends P ops B Q) (i :: L) a1 w1 := by rw [wpOps_cons]; exact hK
        obtain ⟨a', w', hq, ht'⟩ := wpOps_end hce _ a1 w1 hK'
        have hlook : ∀ t, t ∈ oi.looksAt ops → a'.tmps[t]? = a1.tmps[t]? := fun t hm => ht' t fun k hk p hp hd => by
          rcases List.mem_cons.1 hk with rfl | hk
          · exact stable_spec hi hst (Nat.le_refl _) hp hd hm
          · rcases hLi k hk with hlt | hge
            · have := hLp k hk hlt
              unfold apartAt at this
              simp only [hp, hi] at this
              exact (Oper.apart_spec this).1 _ hd hm
            · exact stable_spec hi hst hge hp hd hm
        have hchk := hq.1
        unfold checks at hchk
        simp only [List.all_eq_true, List.mem_range] at hchk
        have h1 := hchk i (Array.getElem?_eq_some_iff.1 hi).1
        simp only [hi, hni hcd hr, Bool.not_true, Bool.false_or, Bool.or_eq_true, Bool.not_eq_true'] at h1
        have hev' : ∀ x ∈ oi.op.operands, a'.eval x = a1.eval x := fun x hx => by
          cases x with
          | tmp t =>
            have hm : t ∈ oi.looksAt ops := List.mem_append_left _ (List.mem_filterMap.2 ⟨.tmp t, by simpa using hx, rfl⟩)
            simp [Act.eval, hlook t hm]
          | _ => rfl
        have hwa' : Region.wanted oi (yielded ops a'.tmps) = Region.wanted oi (yielded ops a1.tmps) := by
          unfold Region.wanted
          cases hg : oi.guard with
          | none => rfl
          | some gw =>
            obtain ⟨g, want⟩ := gw
            have hy : yielded ops a'.tmps g = yielded ops a1.tmps g := by
              unfold yielded
              cases htt : (ops[g]?).bind (·.dst) with
              | none => rfl
              | some t =>
                have hm : t ∈ oi.looksAt ops := by simp [Oper.looksAt, hg, htt]
                simp only [Option.bind_some, hlook t hm]
            simp only [hy]
        rcases h1 with h1 | h1
        · rw [hwa', hw] at h1; cases h1
        · rwa [flat_congr hev'] at h1
    obtain ⟨v, hy⟩ := yields0 (rk_stable hi hr).1 hflat hi hce hK
    exact caseI v (hy.of_same (execOp_congr oi hsi fun x hx => (hev x hx).symm) hwa.symm)
  · -- j loads
    have rj : rank P oj.op = 1 := rk_pos hj hr1 (by omega)
    cases hwj : Region.wanted oj (yielded ops a.tmps) with
    | false => exact caseJ undef (.inr ⟨hwj, rfl⟩)
    | true =>
    cases hwi : Region.wanted oi (yielded ops a.tmps) with
    | false => exact caseI undef (.inr ⟨hwi, rfl⟩)
    | true =>
    obtain ⟨s, hs, hls⟩ := form1 (P := P) (ρ := a.eval) rj
    rw [wpOp_wanted hce hj hwj, wp_form hce hs] at h'
    obtain ⟨v, w', hrun, h1⟩ := h'
    have := loads_same hls hrun
    subst this
    have q1 : ∀ d, oj.dst = some d → d ∉ oi.looksAt ops := p3
    have q3 : ∀ d, oi.dst = some d → d ∉ oj.looksAt ops := p1
    have hwi' : Region.wanted oi (yielded ops (a.put oj.dst v).tmps) = true := by rw [wanted_put oi a oj.dst v q1]; exact hwi
    have hei := execOp_put oi hsi a oj.dst v q1
    rcases hr2 with hr2 | hr2
    · have ri : rank P oi.op = 1 := rk_pos hi hr2 (by omega)
      obtain ⟨s', hs', hls'⟩ := form1 (P := P) (ρ := a.eval) ri
      rw [wpOp_wanted hce hi hwi', wp_form hce (hei.trans hs')] at h1
      obtain ⟨u, w'', hrun', h2⟩ := h1
      have := loads_same hls' hrun'
      subst this
      rw [wpOp_wanted hce hi hwi, wp_form hce hs']
      refine ⟨u, _, hrun', ?_⟩
      have hej := execOp_put oj hsj a oi.dst u q3
      rw [wpOp_wanted hce hj (by rw [wanted_put oj a oi.dst u q3]; exact hwj), wp_form hce (hej.trans hs)]
      refine ⟨v, _, hrun, ?_⟩
      rw [Act.put_comm a u v p2]
      exact h2
    · have ri : rank P oi.op = 2 := rk_pos hi hr2 (by omega)
      obtain ⟨s', hs', hls'⟩ := form2 (P := P) (ρ := a.eval) ri
      rw [wpOp_wanted hce hi hwi', wp_form hce (hei.trans hs')] at h1
      obtain ⟨u, w'', hrun', h2⟩ := h1
      have hlong := news_longer hls' (Longer.refl _) hrun'
      rw [wpOp_wanted hce hi hwi, wp_form hce hs']
      refine ⟨u, w'', hrun', ?_⟩
      have hej := execOp_put oj hsj a oi.dst u q3
      rw [wpOp_wanted hce hj (by rw [wanted_put oj a oi.dst u q3]; exact hwj), wp_form hce (hej.trans hs)]
      refine ⟨v, w'', loads_longer hls hlong hrun, ?_⟩
      rw [Act.put_comm a u v p2]
      exact h2

/-- An operation that is ready, all others ahead of it: to the front. -/
theorem front (hsel : Region.noSelect ops = true) {i : Nat} {L2 : List Nat} (h2 : ∀ k ∈ L2, i ≤ k) :
    ∀ (L1 : List Nat) (a : Act) (w : World), (L1 ++ i :: L2).Pairwise (· < ·) → (∀ j ∈ L1, ordered B j i = false ∧ pairOk P ops B j i = true) →
      wpOps P ops (Ends P ops B Q) (L1 ++ i :: L2) a w → wpOps P ops (Ends P ops B Q) (i :: (L1 ++ L2)) a w := by
  intro L1
  induction L1 with
  | nil => intro a w _ _ h; exact h
  | cons j L1 ih =>
    intro a w hp hL h
    rw [List.cons_append] at hp h
    have hp' := List.pairwise_cons.1 hp
    have h1 : wpOps P ops (Ends P ops B Q) (j :: i :: (L1 ++ L2)) a w := by
      rw [wpOps_cons] at h ⊢
      exact wpOp_mono (fun a' w' hh => ih a' w' hp'.2 (fun k hk => hL k (List.mem_cons_of_mem _ hk)) hh) h
    have hj := hL j (List.mem_cons_self ..)
    have hlt : ∀ k ∈ L1, k < i := fun k hk => (List.pairwise_append.1 hp'.2).2.2 k hk i (List.mem_cons_self ..)
    refine swap hsel (hp'.1 i (by simp)) (fun k hk => Nat.le_of_lt (hp'.1 k (by simp at hk ⊢; rcases hk with h | h <;> simp [h]))) (fun k hk => ?_) (fun k hk hki => ?_) hj.1 hj.2 h1
    · rcases List.mem_append.1 hk with hk | hk
      · exact .inl (hlt k hk)
      · exact .inr (h2 k hk)
    · rcases List.mem_append.1 hk with hk | hk
      · have := hL k (List.mem_cons_of_mem _ hk)
        have h3 := this.2
        unfold pairOk at h3
        simp only [this.1, Bool.false_or, Bool.and_eq_true] at h3
        exact h3.1
      · have := h2 k hk; omega

/-- Those not yet done, in the order of the text. -/
def left (n : Nat) (listed : Array Bool) : List Nat := (List.range n).filter fun i => !listed.getD i true

theorem mem_left {n i : Nat} {listed : Array Bool} : i ∈ left n listed ↔ i < n ∧ listed.getD i true = false := by
  simp [left]

/-- What is done has what it waits for behind it. -/
def Closed (ops : Array Oper) (listed : Array Bool) : Prop :=
  ∀ k o, ops[k]? = some o → listed.getD k true = true → ∀ e ∈ o.after, Region.binds .any e = true → listed.getD e.on true = true

theorem ordered_listed {listed : Array Bool} (hcb : closedB ops B = true) (hback : backB ops = true) (hcl : Closed ops listed) :
    ∀ (i : Nat), (∀ o, ops[i]? = some o → ∀ e ∈ o.after, Region.binds .any e = true → listed.getD e.on true = true) → ∀ j, j < i → i < ops.size → ordered B j i = true → listed.getD j true = true := by
  intro i
  induction i using Nat.strongRecOn with
  | _ i ih =>
    intro hi j hji hin ho
    unfold closedB at hcb
    simp only [List.all_eq_true, List.mem_range] at hcb
    have h1 := hcb i hin j hji
    simp only [ho, Bool.not_true, Bool.false_or] at h1
    have hio : ops[i]? = some ops[i] := Array.getElem?_eq_getElem hin
    simp only [hio] at h1
    obtain ⟨e, he, hb⟩ := Array.any_eq_true'.1 h1
    simp only [Bool.and_eq_true, Bool.or_eq_true, beq_iff_eq, Nat.blt_eq] at hb
    have hel := hi _ hio e he hb.1
    rcases hb.2 with heq | ⟨hlt', hord⟩
    · exact heq ▸ hel
    · have hlt : e.on < i := by
        unfold backB at hback
        simp only [List.all_eq_true, List.mem_range] at hback
        have := hback i hin
        simp only [hio] at this
        have := Array.all_eq_true_iff_forall_mem.1 this e he
        simp only [hb.1, Bool.not_true, Bool.false_or, Nat.blt_eq] at this
        exact this
      exact ih e.on hlt (fun o ho' e' he' hb' => hcl e.on o ho' hel e' he' hb') j hlt' (by omega) hord

theorem getD_true_of {listed : Array Bool} {i : Nat} (h : listed.getD i false = true) : listed.getD i true = true := by
  rcases Nat.lt_or_ge i listed.size with h' | h'
  · simp [h'] at h ⊢; exact h
  · simp [Array.getElem?_eq_none h']
theorem getD_false_of {listed : Array Bool} {i : Nat} (hi : i < listed.size) (h : listed.getD i true = true) : listed.getD i false = true := by
  simp [hi] at h ⊢; exact h

theorem left_sorted (n : Nat) (listed : Array Bool) : (left n listed).Pairwise (· < ·) :=
  List.Pairwise.filter _ List.pairwise_lt_range

theorem wpAny_text (hB : swapB P ops B = true) : ∀ (fuel : Nat) (listed : Array Bool) (a : Act) (w : World), listed.size = ops.size → Closed ops listed →
    (left ops.size listed).length ≤ fuel → wpOps P ops (Ends P ops B Q) (left ops.size listed) a w → wpAny P .any ops (Ends P ops B Q) fuel listed a w := by
  unfold swapB at hB
  simp only [Bool.and_eq_true, List.all_eq_true, List.mem_range] at hB
  obtain ⟨⟨⟨hsel, hback⟩, hcb⟩, hpairs⟩ := hB
  have nready : ∀ (listed : Array Bool), left ops.size listed = [] → Region.ready .any ops listed = [] := fun listed h => by
    cases hr : Region.ready .any ops listed with
    | nil => rfl
    | cons i rs =>
      have hi : i ∈ Region.ready .any ops listed := by rw [hr]; exact List.mem_cons_self ..
      obtain ⟨h0, o, ho, _⟩ := mem_ready.1 hi
      have : i ∈ left ops.size listed := mem_left.2 ⟨(Array.getElem?_eq_some_iff.1 ho).1, h0⟩
      rw [h] at this; cases this
  have first : ∀ (listed : Array Bool) i L, listed.size = ops.size → left ops.size listed = i :: L → i ∈ Region.ready .any ops listed := fun listed i L hsz h => by
    have hm : i ∈ left ops.size listed := by rw [h]; exact List.mem_cons_self ..
    obtain ⟨hin, h0⟩ := mem_left.1 hm
    refine mem_ready.2 ⟨h0, ops[i], Array.getElem?_eq_getElem hin, fun e he hb => ?_⟩
    unfold backB at hback
    simp only [List.all_eq_true, List.mem_range] at hback
    have hb1 := hback i hin
    simp only [Array.getElem?_eq_getElem hin] at hb1
    have hlt := Array.all_eq_true_iff_forall_mem.1 hb1 e he
    simp only [hb, Bool.not_true, Bool.false_or, Nat.blt_eq] at hlt
    refine getD_false_of (by omega) ?_
    cases hx : listed.getD e.on true with
    | true => rfl
    | false =>
      have : e.on ∈ left ops.size listed := mem_left.2 ⟨by omega, hx⟩
      rw [h] at this
      have hs := left_sorted ops.size listed
      rw [h] at hs
      rcases List.mem_cons.1 this with h1 | h1
      · omega
      · have := (List.pairwise_cons.1 hs).1 _ h1; omega
  intro fuel
  induction fuel with
  | zero =>
    intro listed a w hsz hcl hlen h
    have hl : left ops.size listed = [] := List.length_eq_zero_iff.1 (Nat.le_zero.1 hlen)
    rw [hl] at h
    exact ⟨nready _ hl, h⟩
  | succ fuel ih =>
    intro listed a w hsz hcl hlen h
    refine ⟨fun hr => ?_, fun i hi => ?_⟩
    · cases hl : left ops.size listed with
      | nil => rw [hl] at h; exact h
      | cons i L =>
        have := first listed i L hsz hl
        rw [hr] at this; cases this
    · obtain ⟨h0, o, ho, hall⟩ := mem_ready.1 hi
      have hin := (Array.getElem?_eq_some_iff.1 ho).1
      have hm : i ∈ left ops.size listed := mem_left.2 ⟨hin, h0⟩
      obtain ⟨L1, L2, hsplit⟩ := List.append_of_mem hm
      have hsort := left_sorted ops.size listed
      rw [hsplit] at hsort h
      obtain ⟨_, hs2, hs3⟩ := List.pairwise_append.1 hsort
      have hs2' := (List.pairwise_cons.1 hs2).1
      have hL1 : ∀ j ∈ L1, ordered B j i = false ∧ pairOk P ops B j i = true := fun j hj => by
        have hji := hs3 j hj i (List.mem_cons_self ..)
        refine ⟨?_, hpairs i hin j hji⟩
        cases hor : ordered B j i with
        | false => rfl
        | true =>
          have h1 := ordered_listed hcb hback hcl i (fun o' ho' e he hb => by
            rw [ho] at ho'; cases ho'
            exact getD_true_of (hall e he hb)) j hji hin hor
          have h2 : j ∈ left ops.size listed := by rw [hsplit]; exact List.mem_append_left _ hj
          rw [(mem_left.1 h2).2] at h1; cases h1
      have hf := front hsel (fun k hk => Nat.le_of_lt (hs2' k hk)) L1 a w hsort hL1 h
      rw [wpOps_cons] at hf
      have hleft : left ops.size (listed.setIfInBounds i true) = L1 ++ L2 := by
        have h1 : left ops.size (listed.setIfInBounds i true) = (left ops.size listed).filter fun k => k != i := by
          unfold left
          rw [List.filter_filter]
          refine List.filter_congr fun k hk => ?_
          by_cases hki : k = i
          · subst hki
            have : k < listed.size := by rw [hsz]; exact List.mem_range.1 hk
            simp [this]
          · rw [getD_set_ne true (Ne.symm hki)]
            simp [hki]
        rw [h1, hsplit, List.filter_append, List.filter_cons]
        have e1 : L1.filter (fun k => k != i) = L1 := List.filter_eq_self.2 fun k hk => by
          have := hs3 k hk i (List.mem_cons_self ..)
          simp; omega
        have e2 : L2.filter (fun k => k != i) = L2 := List.filter_eq_self.2 fun k hk => by
          have := hs2' k hk
          simp; omega
        simp [e1, e2]
      refine wpOp_mono (fun a' w' hh => ih (listed.setIfInBounds i true) a' w' (by simp [hsz]) ?_ ?_ (by rw [hleft]; exact hh)) hf
      · intro k o' ho' hk e he hb
        by_cases hki : k = i
        · subst hki
          rw [ho] at ho'; cases ho'
          have := getD_set_true (i := k) (hall e he hb)
          exact getD_true_of this
        · rw [getD_set_ne true (Ne.symm hki)] at hk
          have h1 := hcl k o' ho' hk e he hb
          by_cases hei : e.on = i
          · rw [hei]
            have hlt : i < listed.size := by rw [hsz]; exact hin
            simp [hlt]
          · rw [getD_set_ne true (Ne.symm hei)]; exact h1
      · rw [hleft]
        have : (L1 ++ i :: L2).length ≤ fuel + 1 := by rw [← hsplit]; exact hlen
        simp at this ⊢; omega

/-- THE RULE. -/
theorem wp_region_text {id : Nat} {l : List Oper} {a : Act} {w : World} (hm : P.follows .mixedOrders = true) (hB : swapB P l.toArray (Region.before l.toArray) = true)
    (h : wpList P l.toArray (Ends P l.toArray (Region.before l.toArray) Q) l a w.drew) : (Code.region id l.toArray true).wp P Q a w := by
  have key : (Code.region id l.toArray true).wp P (Ends P l.toArray (Region.before l.toArray) Q) a w := by
    refine wp_region_any hm ?_
    have hall : left l.toArray.size (Array.replicate l.toArray.size false) = List.range l.toArray.size := by
      unfold left
      refine List.filter_eq_self.2 fun i hi => ?_
      have := List.mem_range.1 hi
      simp at this ⊢
      simp [this]
    refine wpAny_text hB _ _ a _ (by simp) (fun k o ho hk => ?_) (by rw [hall]; simp) ?_
    · have := (Array.getElem?_eq_some_iff.1 ho).1
      simp at this
      simp [this] at hk
    · rw [hall, List.range_eq_range', List.size_toArray, wpOps_eq_wpList l 0 (by simp)]
      exact h
  exact Code.wp_mono (fun e a w q => by cases e <;> first | exact q.2 | exact q.elim | exact q) key
end
end Go.YtfoefmiffkkeaaaDoor.Reg
