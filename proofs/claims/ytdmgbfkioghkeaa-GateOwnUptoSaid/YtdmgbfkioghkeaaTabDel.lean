/-
  Of no program. A row cut in its middle in place: 'append(s[:i], s[j:]...)', 'clear' of the cells behind a row's end.
-/
import Derived.Test.YtdmgbfkioghkeaaTab
namespace Go.Ytdmgbfkioghkeaa
open Go Go.RowKit

section
variable {α : Type} {P : Program} {T ty : TypeId} {K : Kind α} {bytes : Nat}

theorem Tch.setRow (w : World) (g : Nat) (cs : Array Value) : Tch [g] w (w.setRow g cs) :=
  ⟨rfl, rfl, rfl, by simp, fun k _ hn => setRow_other w g k cs (by simpa using hn)⟩

/-- The row's block, as cells. -/
theorem Tab.cur {w : World} {g n cap : Nat} {xs : List α} (h : Tab K w (.slice (some ⟨g, 0, none⟩) n cap) xs) :
    ∃ cur, w.heap[g]? = some (.cells cur K.e (0, 0)) ∧ n = xs.length ∧ xs.length ≤ cap ∧ cap ≤ maxLen ∧ cur.size = cap * K.sz ∧ cur.toList.take (xs.length * K.sz) = xs.flatMap K.enc := by
  rcases h.2 with ⟨h1, _⟩ | ⟨g', cap', cur, h1, _, h3, h4, h5, h6, h7⟩
  · cases h1
  · cases h1
    exact ⟨cur, h3, rfl, h4, h5, h6, h7⟩
theorem Tab.ofCur {w : World} {g cap : Nat} {xs : List α} {cur : Array Value} (hg : w.heap[g]? = some (.cells cur K.e (0, 0))) (hl : xs.length ≤ cap) (hm : cap ≤ maxLen) (hs : cur.size = cap * K.sz)
    (ht : cur.toList.take (xs.length * K.sz) = xs.flatMap K.enc) : Tab K w (.slice (some ⟨g, 0, none⟩) xs.length cap) xs :=
  ⟨K.flat_len xs, .inr ⟨g, cap, cur, rfl, Nat.zero_le _, hg, hl, hm, hs, ht⟩⟩

theorem run_append_cut (hk : KindAt P T K bytes) (w : World) {g cap : Nat} {xs : List α} (ht : Tab K w (.slice (some ⟨g, 0, none⟩) xs.length cap) xs) {i j : Nat} (hij : i ≤ j) (hj : j ≤ xs.length)
    (ad : Addr) (c : Nat) (had : j < xs.length → ad = ⟨g, j * K.sz, none⟩) :
    ∃ w', (Builtin.append_ #[T, T] ty #[.slice (some ⟨g, 0, none⟩) i cap, .slice (some ad) (xs.length - j) c]).run P w = .ok (.slice (some ⟨g, 0, none⟩) (i + (xs.length - j)) cap) w' ∧
      Tab K w' (.slice (some ⟨g, 0, none⟩) (i + (xs.length - j)) cap) (xs.take i ++ xs.drop j) ∧ Tch [g] w w' := by
  obtain ⟨inf, z, hi, hz, hs, hb, hzs⟩ := hk.info
  obtain ⟨cur, hg, _, hlc, hcm, hcs, htake⟩ := ht.cur
  have hl : (xs.drop j).length = xs.length - j := by simp
  have hnews : ∀ q u, ((xs.drop j).flatMap K.enc)[q]? = some u → w.cell? (ad.add q) = some u := fun q u hq => by
    have hqlt : q < ((xs.drop j).flatMap K.enc).length := (List.getElem?_eq_some_iff.1 hq).1
    rw [K.flat_len, hl] at hqlt
    have hjl : j < xs.length := by
      by_cases h : j < xs.length
      · exact h
      · have : xs.length - j = 0 := by omega
        rw [this] at hqlt; simp at hqlt
    have hadd : ad.add q = ⟨g, j * K.sz + q, none⟩ := by rw [had hjl]; unfold Addr.add; split <;> simp_all
    rw [hadd, cell_of_row w g _ cur K.e (0, 0) hg]
    have hfl : xs.flatMap K.enc = (xs.take j).flatMap K.enc ++ (xs.drop j).flatMap K.enc := by rw [← List.flatMap_append, List.take_append_drop]
    have hlen : ((xs.take j).flatMap K.enc).length = j * K.sz := by rw [K.flat_len]; simp [Nat.min_eq_left hj]
    have h1 : (xs.flatMap K.enc)[j * K.sz + q]? = some u := by
      rw [hfl, List.getElem?_append_right (by omega), hlen, Nat.add_sub_cancel_left]; exact hq
    rw [← htake, List.getElem?_take] at h1
    split at h1
    · rw [← Array.getElem?_toList]; exact h1
    · cases h1
  have h1 : ∀ u ∈ (xs.drop j).flatMap K.enc, u.oneCell' = true := fun u hu => by
    obtain ⟨y, _, hy⟩ := List.mem_flatMap.1 hu
    exact K.one y u hy
  have hlnews : ((xs.drop j).flatMap K.enc).length = (xs.length - j) * K.sz := by rw [K.flat_len, hl]
  have hfit : i * K.sz + ((xs.drop j).flatMap K.enc).length ≤ cur.size := by
    rw [hlnews, hcs, ← Nat.add_mul]; exact Nat.mul_le_mul_right _ (by omega)
  have hr := run_append_room (P := P) w T ty K.e inf hk.under hi g i cap cur hg ad (xs.length - j) c _ (by rw [hs]; exact hlnews) hnews h1 (by omega) (by rw [hs]; exact hfit)
  rw [hs] at hr
  refine ⟨_, hr, ?_, Tch.setRow _ _ _⟩
  have hL : (xs.take i ++ xs.drop j).length = i + (xs.length - j) := by simp; omega
  rw [← hL]
  refine Tab.ofCur (setRow_heap w g cur _ K.e _ hg) (by rw [hL]; omega) hcm ?_ ?_
  · simp only [List.size_toArray, List.length_append, List.length_take, List.length_drop, Array.length_toList]
    omega
  · rw [hL, List.flatMap_append]
    have htk : cur.toList.take (i * K.sz) = (xs.take i).flatMap K.enc := by
      have hfl : xs.flatMap K.enc = (xs.take i).flatMap K.enc ++ (xs.drop i).flatMap K.enc := by rw [← List.flatMap_append, List.take_append_drop]
      have hlen : ((xs.take i).flatMap K.enc).length = i * K.sz := by rw [K.flat_len, List.length_take, Nat.min_eq_left (by omega)]
      have : (xs.flatMap K.enc).take (i * K.sz) = (xs.take i).flatMap K.enc := by rw [hfl, List.take_left' hlen]
      rw [← this, ← htake, List.take_take, Nat.min_eq_left (Nat.mul_le_mul_right _ (by omega))]
    simp only [htk]
    rw [List.take_left' (by rw [List.length_append, hlnews, K.flat_len, List.length_take, Nat.min_eq_left (by omega), Nat.add_mul])]

theorem run_clear_tail (hk : KindAt P T K bytes) (w : World) {z : Value} (hz1 : ∀ w, (zeroValue K.e).run P w = .ok z w) (hzs : z.cells.size = K.sz) (hz2 : ∀ u ∈ z.cells, u.oneCell' = true) {g cap : Nat} {ys : List α}
    (ht : Tab K w (.slice (some ⟨g, 0, none⟩) ys.length cap) ys) {k : Nat} (hk0 : 0 < k) (hkc : ys.length + k ≤ cap) (c : Nat) :
    ∃ w', (Builtin.clear_ #[T] ty #[.slice (some ⟨g, ys.length * K.sz, none⟩) k c]).run P w = .ok (.tuple #[]) w' ∧ Tab K w' (.slice (some ⟨g, 0, none⟩) ys.length cap) ys ∧ Tch [g] w w' := by
  obtain ⟨cur, hg, _, hlc, hcm, hcs, htake⟩ := ht.cur
  have hzl : (Builtin.zeroCells z.cells k).toList.length = k * K.sz := by simp [size_zeroCells, hzs]
  have hfit : ys.length * K.sz + 0 + (Builtin.zeroCells z.cells k).toList.length ≤ cur.size := by
    rw [hzl, hcs, Nat.add_zero, ← Nat.add_mul]; exact Nat.mul_le_mul_right _ hkc
  have hone : ∀ v ∈ (Builtin.zeroCells z.cells k).toList, v.oneCell' = true := fun v hv => by
    simp only [Builtin.zeroCells, Array.toList_map, List.mem_map] at hv
    obtain ⟨q, _, rfl⟩ := hv
    have hpos : 0 < z.cells.size := by rw [hzs]; exact K.pos
    have hlt := Nat.mod_lt q hpos
    rw [getElem!_pos z.cells (q % z.cells.size) hlt]
    exact hz2 _ (Array.getElem_mem hlt)
  have hst := run_storeCells_at P g (ys.length * K.sz) K.e (Builtin.zeroCells z.cells k).toList 0 cur w hg hfit hone
  refine ⟨w.setRow g (cur.toList.take (ys.length * K.sz + 0) ++ (Builtin.zeroCells z.cells k).toList ++ cur.toList.drop (ys.length * K.sz + 0 + (Builtin.zeroCells z.cells k).toList.length)).toArray, ?_, ?_, Tch.setRow w g _⟩
  · obtain ⟨k', rfl⟩ : ∃ m, k = m + 1 := ⟨k - 1, by omega⟩
    unfold Builtin.clear_
    simp only [List.getElem?_toArray, List.getElem?_cons_zero, Sem.run_bind, run_underlying hk.under, Result.andThen_ok, hz1, hst, Sem.run_pure]
  · have hcl : cur.toList.length = cap * K.sz := by simp [hcs]
    have hle : ys.length * K.sz ≤ cap * K.sz := Nat.mul_le_mul_right _ hlc
    refine Tab.ofCur (setRow_heap w g cur _ K.e _ hg) hlc hcm ?_ ?_
    · rw [Nat.add_zero] at hfit
      simp only [List.size_toArray, List.length_append, List.length_take, List.length_drop, hzl, hcl, Nat.add_zero] at hfit ⊢
      omega
    · rw [← htake]
      simp only [Nat.add_zero, List.append_assoc]
      have : (cur.toList.take (ys.length * K.sz)).length = ys.length * K.sz := by
        rw [List.length_take, hcl, Nat.min_eq_left hle]
      rw [List.take_left' this]
end

/-- 'append(s[:i], s[j:]...)' in place. -/
theorem wpList_append_cut {α : Type} {P : Program} {T : TypeId} {K : Kind α} {bytes : Nat} (hk : KindAt P T K bytes) {w : World} {ops : Array Oper} {rest : List Oper} {o : Oper} {a : Act}
    {Q : Exit → Act → World → Prop} (hgd : o.guard = none) (s x : Operand) (ho : o.op = .call { callee := .builtin .append, args := #[s, x], argTypes := #[T, T] })
    {g cap : Nat} {xs : List α} (ht : Tab K w (.slice (some ⟨g, 0, none⟩) xs.length cap) xs) (i j : Nat) (hij : i ≤ j) (hj : j ≤ xs.length)
    (hs : a.eval s = .slice (some ⟨g, 0, none⟩) i cap) (ad : Addr) (m c : Nat) (hx : a.eval x = .slice (some ad) m c) (hm : m = xs.length - j) (had : j < xs.length → ad = ⟨g, j * K.sz, none⟩) (n' : Nat) (hn' : n' = i + (xs.length - j))
    (h : ∀ w', Tab K w' (.slice (some ⟨g, 0, none⟩) n' cap) (xs.take i ++ xs.drop j) → Tch [g] w w' → wpList P ops Q rest (a.put o.dst (.slice (some ⟨g, 0, none⟩) n' cap)) w') :
    wpList P ops Q (o :: rest) a w := by
  subst hm
  subst hn'
  refine wpList_plain hgd fun _ hK => ?_
  obtain ⟨w', hr, h2, h3⟩ := run_append_cut (P := P) (ty := o.type) hk w ht hij hj ad c had
  unfold Oper.wp execOp
  simp only [ho, resolve, invoke, builtin, Sem.run_bind, Sem.run_pure, Result.andThen_ok, List.map_toArray, List.map_cons, List.map_nil, hs, hx, hr]
  exact hK _ _ (h w' h2 h3)

/-- 'clear(s[len(s):old])'. -/
theorem wpList_clear_tail {α : Type} {P : Program} {T : TypeId} {K : Kind α} {bytes : Nat} (hk : KindAt P T K bytes) {w : World} {ops : Array Oper} {rest : List Oper} {o : Oper} {a : Act}
    {Q : Exit → Act → World → Prop} (hgd : o.guard = none) (x : Operand) (ho : o.op = .call { callee := .builtin .clear, args := #[x], argTypes := #[T] })
    {z : Value} (hz1 : ∀ w, (zeroValue K.e).run P w = .ok z w) (hzs : z.cells.size = K.sz) (hz2 : ∀ u ∈ z.cells, u.oneCell' = true) {g cap : Nat} {ys : List α}
    (ht : Tab K w (.slice (some ⟨g, 0, none⟩) ys.length cap) ys) (off k c : Nat) (hx : a.eval x = .slice (some ⟨g, off, none⟩) k c) (hoff : off = ys.length * K.sz) (hk0 : 0 < k) (hkc : ys.length + k ≤ cap)
    (h : ∀ w', Tab K w' (.slice (some ⟨g, 0, none⟩) ys.length cap) ys → Tch [g] w w' → wpList P ops Q rest (a.put o.dst (.tuple #[])) w') :
    wpList P ops Q (o :: rest) a w := by
  subst hoff
  refine wpList_plain hgd fun _ hK => ?_
  obtain ⟨w', hr, h2, h3⟩ := run_clear_tail (P := P) (ty := o.type) hk w hz1 hzs hz2 ht hk0 hkc c
  unfold Oper.wp execOp
  simp only [ho, resolve, invoke, builtin, Sem.run_bind, Sem.run_pure, Result.andThen_ok, List.map_toArray, List.map_cons, List.map_nil, hx, hr]
  exact hK _ _ (h w' h2 h3)

/-- 'append(s, x...)' where s and x are both slices of the program's own (nil among them). -/
theorem wpList_append_both {α : Type} {P : Program} {T : TypeId} {K : Kind α} {bytes : Nat} (hk : KindAt P T K bytes) {w : World} {ops : Array Oper} {rest : List Oper} {o : Oper} {a : Act}
    {Q : Exit → Act → World → Prop} (hgd : o.guard = none) (s x : Operand) (ho : o.op = .call { callee := .builtin .append, args := #[s, x], argTypes := #[T, T] })
    {v : Value} {xs : List α} (hs : a.eval s = v) (hown : Tab K w v xs) {u : Value} {ys : List α} (hx : a.eval x = u) (hu : Tab K w u ys)
    (h63 : xs.length + ys.length ≤ maxLen) (hbytes : (xs.length + ys.length) * bytes ≤ 140737488355328)
    (h : ∀ v' w', Tab K w' v' (xs ++ ys) → w.grownBy w' v.ownBlock → Fresh w v v' → wpList P ops Q rest (a.put o.dst v') w') : wpList P ops Q (o :: rest) a w := by
  rcases hu.form with ⟨rfl, rfl⟩ | ⟨g, cap, rfl, hlc, hcm, hgl⟩
  · refine wpList_plain hgd fun _ hK => ?_
    obtain ⟨i, z, hi, hz, hsz, hb, hzs⟩ := hk.info
    have hr : (Builtin.append_ #[T, T] o.type #[v, .slice none 0 0]).run P w = .ok v w := by
      rcases hown.form with ⟨rfl, _⟩ | ⟨g, cap, rfl, hlc, _, _⟩
      · simp [Builtin.append_, run_underlying hk.under, sizeOf, typeInfo, hi, Builtin.lenOf, Builtin.firstCells]
      · have hg0 : xs.length + 0 ≤ cap := by omega
        simp [Builtin.append_, run_underlying hk.under, sizeOf, typeInfo, hi, Builtin.lenOf, Builtin.firstCells, hlc, storeCells]
    unfold Oper.wp execOp
    simp only [ho, resolve, invoke, builtin, Sem.run_bind, Sem.run_pure, Result.andThen_ok, List.map_toArray, List.map_cons, List.map_nil, hs, hx, hr]
    exact hK _ _ (h v w (by simpa using hown) ⟨rfl, rfl, rfl, Nat.le_refl _, fun _ _ _ => rfl⟩ (fun k hk => .inl hk))
  · exact wpList_append_tab hk hgd s x ho hs hown ⟨g, 0, none⟩ ys.length cap ys hx rfl (World.ownsRow.cells (g := g) hu rfl) h63 hbytes h
end Go.Ytdmgbfkioghkeaa
