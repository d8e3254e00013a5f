/-
  Of no program. An append leaves the old slice as it reads: it lies in the same block, or in one of its own.
-/
import Derived.Test.YtdmgbfkioghkeaaTabDel
namespace Go.Ytdmgbfkioghkeaa
open Go Go.RowKit

/-- In place, or nothing old is touched. -/
def Aside (w w' : World) (v v' : Value) : Prop := (∃ g n m cap, v = .slice (some ⟨g, 0, none⟩) n cap ∧ v' = .slice (some ⟨g, 0, none⟩) m cap) ∨ ∀ k, k < w.heap.size → w'.heap[k]? = w.heap[k]?

theorem run_append_old {α : Type} {P : Program} {T ty : TypeId} {K : Kind α} {bytes : Nat} (hk : KindAt P T K bytes) (w : World) {v : Value} {xs : List α} (hown : Tab K w v xs)
    (a : Addr) (c : Nat) (ys : List α) (hnews : ∀ j u, (ys.flatMap K.enc)[j]? = some u → w.cell? (a.add j) = some u)
    (h63 : xs.length + ys.length ≤ maxLen) (hbytes : (xs.length + ys.length) * bytes ≤ 140737488355328) :
    ∃ v' w', (Builtin.append_ #[T, T] ty #[v, .slice (some a) ys.length c]).run P w = .ok v' w' ∧ Tab K w' v' (xs ++ ys) ∧ w.grownBy w' v.ownBlock ∧ Fresh w v v' ∧ Aside w w' v v' := by
  obtain ⟨v', w', hr, ht, hg, hf⟩ := run_append_tab (P := P) (ty := ty) hk w hown a c ys hnews h63 hbytes
  obtain ⟨i, z, hi, hz, hs, hb, hzs⟩ := hk.info
  have hlen := K.flat_len ys
  have h1 : ∀ u ∈ ys.flatMap K.enc, u.oneCell' = true := fun u hu => by
    obtain ⟨y, _, hy⟩ := List.mem_flatMap.1 hu
    exact K.one y u hy
  refine ⟨v', w', hr, ht, hg, hf, ?_⟩
  rcases hown.2 with ⟨rfl, h0⟩ | ⟨g, cap, cur, rfl, _, hgg, hnc, hcm, hcs, htake⟩
  · exact .inr fun k hk => hg.block k hk (by simp [Value.ownBlock])
  · by_cases hroom : xs.length + ys.length ≤ cap
    · have hfit : xs.length * i.size + (ys.flatMap K.enc).length ≤ cur.size := by rw [hlen, hcs, hs, ← Nat.add_mul]; exact Nat.mul_le_mul_right _ hroom
      have hr2 := run_append_room (P := P) w T ty K.e i hk.under hi g xs.length cap cur hgg a ys.length c _ (by rw [hs]; exact hlen) hnews h1 hroom hfit
      rw [hr2] at hr
      cases hr
      exact .inl ⟨_, _, _, _, rfl, rfl⟩
    · have holds : ∀ j u, (xs.flatMap K.enc)[j]? = some u → w.cell? ((⟨g, 0, none⟩ : Addr).add j) = some u := World.ownsRow.cells (g := g) hown rfl
      have hr2 := run_append_grow (P := P) w T ty K.e i z hk.under hi hz ⟨g, 0, none⟩ xs.length cap _ (by rw [hs]; exact K.flat_len xs) holds a ys.length c _ (by rw [hs]; exact hlen) hnews (by omega)
        (by simp only [maxLen] at h63; omega) (growslice_fits (by omega) (by rw [hb]; exact hbytes))
      rw [hr2] at hr
      cases hr
      exact .inr fun k hk => Below.heap_alloc _ _ k hk

theorem wpList_append_old {α : Type} {P : Program} {T : TypeId} {K : Kind α} {bytes : Nat} (hk : KindAt P T K bytes) {w : World} {ops : Array Oper} {rest : List Oper} {o : Oper} {a : Act}
    {Q : Exit → Act → World → Prop} (hgd : o.guard = none) (s x : Operand) (ho : o.op = .call { callee := .builtin .append, args := #[s, x], argTypes := #[T, T] })
    {v : Value} {xs : List α} (hs : a.eval s = v) (hown : Tab K w v xs) (ad : Addr) (m c : Nat) (ys : List α) (hx : a.eval x = .slice (some ad) m c) (hm : m = ys.length)
    (hnews : ∀ j u, (ys.flatMap K.enc)[j]? = some u → w.cell? (ad.add j) = some u)
    (h63 : xs.length + ys.length ≤ maxLen) (hbytes : (xs.length + ys.length) * bytes ≤ 140737488355328)
    (h : ∀ v' w', Tab K w' v' (xs ++ ys) → w.grownBy w' v.ownBlock → Fresh w v v' → Aside w w' v v' → wpList P ops Q rest (a.put o.dst v') w') : wpList P ops Q (o :: rest) a w := by
  subst hm
  refine wpList_plain hgd fun _ hK => ?_
  obtain ⟨v', w', hr, h2, h3, h4, h5⟩ := run_append_old (P := P) (ty := o.type) hk w hown ad c ys hnews h63 hbytes
  unfold Oper.wp execOp
  simp only [ho, resolve, invoke, builtin, Sem.run_bind, Sem.run_pure, Result.andThen_ok, List.map_toArray, List.map_cons, List.map_nil, hs, hx, hr]
  exact hK _ _ (h v' w' h2 h3 h4 h5)

theorem Tab.cap_eq {α : Type} {K : Kind α} {w : World} {g n m c d : Nat} {xs ys : List α} (h : Tab K w (.slice (some ⟨g, 0, none⟩) n c) xs) (k : Tab K w (.slice (some ⟨g, 0, none⟩) m d) ys) : c = d := by
  obtain ⟨cur, h1, _, _, _, h2, _⟩ := h.cur
  obtain ⟨cur', k1, _, _, _, k2, _⟩ := k.cur
  rw [h1] at k1
  cases k1
  exact Nat.eq_of_mul_eq_mul_right K.pos (h2.symm.trans k2)

/-- A slice that the appended one began as still reads as it did. -/
theorem Tab.aside {α : Type} {K : Kind α} {w w1 w' : World} {v v' l : Value} {xs ys zs : List α} (hl : Tab K w l xs) (hv : Tab K w v (xs ++ ys)) (hT : Tch [] w w1) (hg : w1.grownBy w' v.ownBlock) (ha : Aside w1 w' v v')
    (hv' : Tab K w' v' (xs ++ ys ++ zs)) : Tab K w' l xs := by
  rcases ha with ⟨g, n, m, cap, rfl, rfl⟩ | ha
  · rcases hl.form with ⟨rfl, rfl⟩ | ⟨g2, c2, rfl, _⟩
    · exact Tab.nil _ _
    by_cases hgg : g2 = g
    · subst hgg
      obtain rfl := hl.cap_eq hv
      have h1 := hv'.take (m := xs.length) (by simp)
      rwa [List.append_assoc, List.take_left' rfl] at h1
    · refine (hl.touch hT (by simp)).kept fun x hx => hg.block x ?_ ?_
      · have := hl.block_lt hx
        have := hT.size
        omega
      · intro e
        simp [Value.ownBlock] at hx e
        omega
  · refine (hl.touch hT (by simp)).kept fun x hx => ha x ?_
    have := hl.block_lt hx
    have := hT.size
    omega
end Go.Ytdmgbfkioghkeaa
