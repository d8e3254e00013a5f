/-
  The gate's heap of turns, walked: sink, push, remove.
-/
import Derived.Test.YtdmgbfkioghkeaaGHeap
namespace Go.Proofs.Ytdmgbfkioghkeaa
open Go.RowKit Go.Ytdmgbfkioghkeaa Go.Ytdmgbfkioghkeaa.Gt Go.Ytdmgbfkioghkeaa.Reg

/-- The best so far, behind j rounds. -/
def bestAt (l : List G) (i j : Nat) : Nat := match j with | 0 => i | 1 => best l i (2 * i + 1) | _ => sinkTo l i

theorem bestAt_lt {l : List G} {i : Nat} (hi : i < l.length) (j : Nat) : bestAt l i j < l.length := by
  unfold bestAt
  split
  · exact hi
  · rcases best_cases l i (2 * i + 1) with h | ⟨h, h1, _⟩ <;> omega
  · rcases sinkTo_cases l i with h | ⟨_, h⟩ <;> omega
theorem bestAt_succ {l : List G} {i j : Nat} (hj : j < 2) : bestAt l i (j + 1) = best l (bestAt l i j) (2 * i + 1 + j) := by
  match j, hj with
  | 0, _ => rfl
  | 1, _ => rfl

set_option maxRecDepth 100000 in
set_option maxHeartbeats 1000000 in
theorem sink_any (g n cap i : Nat) (xs : List G) (w : World) (ht : Tab GuestK w (.slice (some ⟨g, 0, none⟩) n cap) xs) (hi : i < xs.length) (hmax : xs.length ≤ 1000000) :
    Rets Try.prog 40 #[.slice (some ⟨g, 0, none⟩) n cap, .int .i64 i] w fun u w' => u = .tuple #[] ∧ Tab GuestK w' (.slice (some ⟨g, 0, none⟩) n cap) (sink xs i) ∧ Tch [g] w w' := by
  unfold Rets
  obtain rfl : n = xs.length := by
    rcases ht.form with ⟨h, _⟩ | ⟨_, _, h, _⟩ <;> cases h; rfl
  go_enter Try.func40, Try.ntmps40
  go_wp2
  go_loopw [1] (fun v wr => ∃ (k : Nat) (ys : List G), k < xs.length ∧ v = .int .i64 k ∧ ys.length = xs.length ∧ sink ys k = sink xs i ∧ Tab GuestK wr (.slice (some ⟨g, 0, none⟩) xs.length cap) ys ∧ Tch [g] w wr) (fun i _ => xs.length - (intOf i).toNat)
  case atStart => exact ⟨i, xs, hi, rfl, rfl, rfl, ht, Tch.refl _ _⟩
  case round =>
    obtain ⟨k, ys, hk, rfl, hl, hr, htw, hT⟩ := hrel
    have HL := Lib.hid hl
    have HR := Lib.hid hr
    clear hl hr
    have hgl : g < wr.heap.size := htw.block_lt rfl
    obtain ⟨wo, rfl⟩ : ∃ wo : World, wo = wr := ⟨_, rfl⟩
    go_wp2
    go_loopw [4, 15] (fun v c wi => ∃ j : Nat, j ≤ 2 ∧ c = .int .i64 j ∧ v = .int .i64 (bestAt ys k j) ∧ Tch [] wo wi) (fun _ c _ => 2 - (intOf c).toNat)
    case atStart => exact ⟨0, by omega, rfl, rfl, Tch.refl _ _⟩
    case round =>
      obtain ⟨j, hj, rfl, rfl, hTi⟩ := hrel
      have hti := htw.touch hTi (by simp)
      have hmlt : bestAt ys k j < ys.length := bestAt_lt (by rw [HL.out]; exact hk) j
      have hbs := fun h : j < 2 => bestAt_succ (l := ys) (i := k) h
      obtain ⟨m, hm⟩ : ∃ m, bestAt ys k j = m := ⟨_, rfl⟩
      rw [hm] at hmlt hbs ⊢
      have hmx : m < xs.length := by rw [← HL.out]; exact hmlt
      have HM := Lib.hid hm
      have HB := Lib.hid hbs
      have HML := Lib.hid hmlt
      clear hm hbs hmlt
      by_cases hj2 : j = 2
      · subst hj2
        have hks : sinkTo ys k = m := HM.out
        by_cases hmk : m = k
        · have hs : sink ys k = ys := by rw [sink, dif_pos (hks.trans hmk)]
          have HS := Lib.hid (hs.symm.trans HR.out)
          subst hmk
          clear hs hks HB
          go_wp2
          refine bodyPost_ret (results_none rfl _ _ _) rfl ?_
          exact ⟨_, rfl, rfl, by rw [← HS.out]; exact hti, hT.trans hTi (by simp)⟩
        · have hkm : k < m := by rcases sinkTo_cases ys k with h | h <;> omega
          have hs : sink ys k = sink (swp ys k m) m := by rw [sink, dif_neg (fun h => hmk (hks.symm.trans h)), hks]
          have HS := Lib.hid (hs.symm.trans HR.out)
          have hb : ((m : Int) == (k : Int)) = false := by simpa using (fun h : (m : Int) = k => hmk (by omega))
          obtain ⟨x, hx⟩ : ∃ x, ys[k]? = some x := ⟨_, List.getElem?_eq_getElem (by rw [HL.out]; exact hk)⟩
          obtain ⟨p, hp⟩ : ∃ p, ys[m]? = some p := ⟨_, List.getElem?_eq_getElem HML.out⟩
          obtain ⟨c0, c1, c2⟩ := guest_cells hti hx
          obtain ⟨d0, d1, d2⟩ := guest_cells hti hp
          have fz : ∀ j, wr.frozen? ⟨g, j, none⟩ = false := fun j => hti.frozen j
          have HX := Lib.hid hx
          have HP := Lib.hid hp
          clear hs hks hmk HB hx hp
          go_wp2
          refine wp_region_text (by kernel_rfl) (by kernel_rfl) ?_
          go_wp2
          refine ⟨by kernel_rfl, ?_⟩
          go_wp2
          have hk' : k < ys.length := by rw [HL.out]; exact hk
          refine ⟨⟨m, swp ys k m, hmx, rfl, by rw [swp_length]; exact HL.out, HS.out, ?_, ?_⟩, by simp [intOf]; omega⟩
          · rw [swp_of HX.out HP.out]
            exact (put_guest (put_guest hti hk' p) (by simp; exact HML.out) x).drew
          · have hT2 := hT.trans hTi (by simp)
            exact ((((((hT2.setCell (.inl (by simp)) _).setCell (.inl (by simp)) _).setCell (.inl (by simp)) _).setCell (.inl (by simp)) _).setCell (.inl (by simp)) _).setCell (.inl (by simp)) _).drew
      · have hj01 : j = 0 ∨ j = 1 := by omega
        clear hj hj2
        rcases hj01 with rfl | rfl
        · obtain ⟨p, hp⟩ : ∃ p, ys[m]? = some p := ⟨_, List.getElem?_eq_getElem HML.out⟩
          obtain ⟨d0, d1, d2⟩ := guest_cells hti hp
          have hstep : bestAt ys k 1 = best ys m (2 * k + 1) := HB.out (by omega)
          clear HB
          rw [show ((0 : Nat) : Int) = 0 from rfl]
          have i0 : ∀ (x0 x1 : Value) (w : World), (Instr.index 95 (.agg #[x0, x1]) (.int .i64 0)).run Try.prog w = .ok x0 w := fun _ _ _ => by kernel_rfl
          by_cases hcl : 2 * k + 1 < xs.length
          · obtain ⟨x, hx⟩ : ∃ x, ys[2 * k + 1]? = some x := ⟨_, List.getElem?_eq_getElem (by rw [HL.out]; exact hcl)⟩
            obtain ⟨c0, c1, c2⟩ := guest_cells hti hx
            by_cases ha : x.ahead p = true
            · have hb : best ys m (2 * k + 1) = 2 * k + 1 := by unfold best; rw [if_pos ⟨by rw [HL.out]; exact hcl, by rw [aheadAt_of hx hp]; exact ha⟩]
              have HC := Lib.hid (hstep.trans hb)
              clear hb hstep hx hp
              go_wp2
              refine wp_region_text (by kernel_rfl) (by kernel_rfl) ?_
              go_wp2_with (go_at_call 59; refine (ahead_any x p true ha _).use ?_; rintro _ w1 ⟨rfl, hT1⟩)
              refine ⟨by kernel_rfl, ?_⟩
              go_wp2
              refine ⟨⟨1, by omega, by go_num, by rw [HC.out]; go_num, hTi.drew.trans hT1 (by simp)⟩, by simp [intOf]⟩
            · have ha' : x.ahead p = false := by simpa using ha
              have hb : best ys m (2 * k + 1) = m := by unfold best; rw [if_neg (by rintro ⟨_, h⟩; rw [aheadAt_of hx hp] at h; exact ha h)]
              have HC := Lib.hid (hstep.trans hb)
              clear hb hstep hx hp ha
              go_wp2
              refine wp_region_text (by kernel_rfl) (by kernel_rfl) ?_
              go_wp2_with (go_at_call 59; refine (ahead_any x p false ha' _).use ?_; rintro _ w1 ⟨rfl, hT1⟩)
              refine ⟨by kernel_rfl, ?_⟩
              go_wp2
              refine ⟨⟨1, by omega, by go_num, by rw [HC.out], hTi.drew.trans hT1 (by simp)⟩, by simp [intOf]⟩
          · have hb : best ys m (2 * k + 1) = m := by unfold best; rw [if_neg (by rintro ⟨h, _⟩; rw [HL.out] at h; exact hcl h)]
            have HC := Lib.hid (hstep.trans hb)
            have hd : decide (2 * (k : Int) + 1 < (xs.length : Int)) = false := by simp; omega
            clear hb hstep hp hcl
            go_wp2
            refine wp_region_text (by kernel_rfl) (by kernel_rfl) ?_
            go_wp2
            refine ⟨by kernel_rfl, ?_⟩
            go_wp2
            refine ⟨⟨1, by omega, by go_num, by rw [HC.out], hTi.drew⟩, by simp [intOf]⟩
        · obtain ⟨p, hp⟩ : ∃ p, ys[m]? = some p := ⟨_, List.getElem?_eq_getElem HML.out⟩
          obtain ⟨d0, d1, d2⟩ := guest_cells hti hp
          have hstep : bestAt ys k 2 = best ys m (2 * k + 2) := HB.out (by omega)
          clear HB
          rw [show ((1 : Nat) : Int) = 1 from rfl]
          have i0 : ∀ (x0 x1 : Value) (w : World), (Instr.index 95 (.agg #[x0, x1]) (.int .i64 1)).run Try.prog w = .ok x1 w := fun _ _ _ => by kernel_rfl
          by_cases hcl : 2 * k + 2 < xs.length
          · obtain ⟨x, hx⟩ : ∃ x, ys[2 * k + 2]? = some x := ⟨_, List.getElem?_eq_getElem (by rw [HL.out]; exact hcl)⟩
            obtain ⟨c0, c1, c2⟩ := guest_cells hti hx
            by_cases ha : x.ahead p = true
            · have hb : best ys m (2 * k + 2) = 2 * k + 2 := by unfold best; rw [if_pos ⟨by rw [HL.out]; exact hcl, by rw [aheadAt_of hx hp]; exact ha⟩]
              have HC := Lib.hid (hstep.trans hb)
              clear hb hstep hx hp
              go_wp2
              refine wp_region_text (by kernel_rfl) (by kernel_rfl) ?_
              go_wp2_with (go_at_call 59; refine (ahead_any x p true ha _).use ?_; rintro _ w1 ⟨rfl, hT1⟩)
              refine ⟨by kernel_rfl, ?_⟩
              go_wp2
              refine ⟨⟨2, by omega, by go_num, by rw [HC.out]; go_num, hTi.drew.trans hT1 (by simp)⟩, by simp [intOf]⟩
            · have ha' : x.ahead p = false := by simpa using ha
              have hb : best ys m (2 * k + 2) = m := by unfold best; rw [if_neg (by rintro ⟨_, h⟩; rw [aheadAt_of hx hp] at h; exact ha h)]
              have HC := Lib.hid (hstep.trans hb)
              clear hb hstep hx hp ha
              go_wp2
              refine wp_region_text (by kernel_rfl) (by kernel_rfl) ?_
              go_wp2_with (go_at_call 59; refine (ahead_any x p false ha' _).use ?_; rintro _ w1 ⟨rfl, hT1⟩)
              refine ⟨by kernel_rfl, ?_⟩
              go_wp2
              refine ⟨⟨2, by omega, by go_num, by rw [HC.out], hTi.drew.trans hT1 (by simp)⟩, by simp [intOf]⟩
          · have hb : best ys m (2 * k + 2) = m := by unfold best; rw [if_neg (by rintro ⟨h, _⟩; rw [HL.out] at h; exact hcl h)]
            have HC := Lib.hid (hstep.trans hb)
            have hd : decide (2 * (k : Int) + 2 < (xs.length : Int)) = false := by simp; omega
            clear hb hstep hp hcl
            go_wp2
            refine wp_region_text (by kernel_rfl) (by kernel_rfl) ?_
            go_wp2
            refine ⟨by kernel_rfl, ?_⟩
            go_wp2
            refine ⟨⟨2, by omega, by go_num, by rw [HC.out], hTi.drew⟩, by simp [intOf]⟩

theorem guestAt : KindAt Try.prog 64 GuestK 24 := KindAt.mk' (by kernel_rfl) (by kernel_rfl)
theorem guestAt' : KindAt Try.prog 63 GuestK 24 := KindAt.mk' (by kernel_rfl) (by kernel_rfl)

/-- What became of the slice in cell o of block b. -/
def SlotPost (w : World) (b o : Nat) (cs : Array Value) (t : TypeId) (v : Value) (ys : List G) (w' : World) : Prop :=
  ∃ v', Blk w' b (cs.setIfInBounds o v') t ∧ Tab GuestK w' v' ys ∧ NewOr w v v' ∧ Tch (b :: v.ownBlock.toList) w w'

theorem push_any (b o : Nat) (cs : Array Value) (t : TypeId) (v : Value) (xs : List G) (x : G) (w : World) (hb : Blk w b cs t) (ho : cs[o]? = some v) (ht : Tab GuestK w v xs) (hne : v.ownBlock ≠ some b)
    (hmax : xs.length ≤ 1000) :
    Rets Try.prog 48 #[.pointer (some ⟨b, o, none⟩), .agg #[.int .i64 x.id, .int .i64 x.stamp, .int .i64 x.last]] w fun u w' => u = .tuple #[] ∧ SlotPost w b o cs t v (rise (xs ++ [x]) xs.length) w' := by
  unfold Rets
  have hc : w.cell? ⟨b, o, none⟩ = some v := (hb.cell o).trans ho
  have hf := hb.frozen o
  have hbl := hb.lt
  have hv : ∃ a cap, v = .slice a xs.length cap := ht.slice
  obtain ⟨a, cap, rfl⟩ := hv
  go_enter Try.func48, Try.ntmps48
  go_wp2
  refine wp_region_text (by kernel_rfl) (by kernel_rfl) ?_
  go_wp2_with (at_builtin; refine wpList_append_tab (v := .slice a xs.length cap) guestAt rfl _ _ rfl rfl (((ht.alloc _).alloc _).drew) _ _ _ [x] rfl rfl (by exact news_one GuestK x (Blk.last _ _ _ (by simp)).drew) (by simp [maxLen]; omega) (by simp; omega) ?_; intro v' w1 ht1 hg1 hfr1; obtain ⟨a1, cap1, hv1⟩ := ht1.slice; rw [show (xs ++ [x]).length = xs.length + 1 from by simp] at hv1; subst hv1; have hb1 := (((hb.alloc _).alloc _).drew).grown hg1 (Ne.symm hne); have hc1 := (hb1.cell o).trans ho; have hf1 := hb1.frozen o)
  refine ⟨by kernel_rfl, ?_⟩
  have hb2 := hb1.set o (Value.slice a1 (xs.length + 1) cap1)
  have hT1 := ((((Tch.refl ((Value.slice a xs.length cap).ownBlock.toList) w).alloc _).alloc _).drew).grown hg1 (fun k hk => .inl (by rw [hk]; simp))
  have hne1 : (Value.slice a1 (xs.length + 1) cap1).ownBlock ≠ some b := fun h => by
    rcases hfr1 b h with h1 | h1
    · exact hne h1
    · simp at h1; omega
  have ho2 : b < w.heap.size := hbl
  have hos : o < cs.size := (Array.getElem?_eq_some_iff.1 ho).1
  have ht2 := ht1.other (p := ⟨b, o, none⟩) hne1 (Value.slice a1 (xs.length + 1) cap1)
  have hc2 : (w1.setCell ⟨b, o, none⟩ (Value.slice a1 (xs.length + 1) cap1)).cell? ⟨b, o, none⟩ = some (Value.slice a1 (xs.length + 1) cap1) := (hb2.cell o).trans (by simp [hos])
  have hT2 := (hT1.mono (S' := b :: (Value.slice a xs.length cap).ownBlock.toList) (fun x hx => .inl (by simp at hx ⊢; exact .inr hx))).setCell (p := ⟨b, o, none⟩) (.inl (by simp)) (Value.slice a1 (xs.length + 1) cap1)
  have hnew : NewOr w (Value.slice a xs.length cap) (Value.slice a1 (xs.length + 1) cap1) := hfr1.newOr (by simp; omega)
  clear hc hf hc1 hf1 hg1 hfr1 hT1 ht1 hb1
  generalize w1.setCell ⟨b, o, none⟩ (Value.slice a1 (xs.length + 1) cap1) = w2 at *
  go_wp2
  refine wp_region_text (by kernel_rfl) (by kernel_rfl) ?_
  have hf2 := ht2.form
  rcases hf2 with ⟨_, h0⟩ | ⟨g2, cap2, hv2, _⟩
  · simp at h0
  rw [show (xs ++ [x]).length = xs.length + 1 from by simp] at hv2
  cases hv2
  go_wp2_with (go_at_call 39; refine (rise_any g2 _ _ xs.length (xs ++ [x]) _ ht2.drew (by simp)).use ?_; rintro _ w3 ⟨rfl, ht3, hT3⟩)
  refine ⟨by kernel_rfl, ?_⟩
  go_wp2
  go_end0
  have hg2 : g2 ≠ b := fun h => hne1 (by rw [h]; rfl)
  refine ⟨_, rfl, rfl, _, hb2.drew.touch hT3 (by simpa using Ne.symm hg2), ht3, hnew, hT2.drew.trans hT3 fun y hy => ?_⟩
  simp only [List.mem_singleton] at hy
  subst hy
  rcases hnew y rfl with h | h
  · exact .inl (by rw [h]; simp)
  · exact .inr h

/-- The heap behind 'remove', by what stands at the end. -/
theorem remove_last {xs : List G} {z : G} {i : Nat} (hz : xs[xs.length - 1]? = some z) (hi : ¬ i < xs.length - 1) : remove xs i = (xs.set i z).take (xs.length - 1) := by
  unfold remove; simp only [hz, if_neg hi]
theorem remove_mid {xs : List G} {z : G} {i : Nat} (hz : xs[xs.length - 1]? = some z) (hi : i < xs.length - 1) : remove xs i = sink (rise ((xs.set i z).take (xs.length - 1)) i) i := by
  unfold remove; simp only [hz, if_pos hi]

set_option maxHeartbeats 1000000 in
theorem remove_any (b o i : Nat) (cs : Array Value) (t : TypeId) (v : Value) (xs : List G) (w : World) (hb : Blk w b cs t) (ho : cs[o]? = some v) (ht : Tab GuestK w v xs) (hne : v.ownBlock ≠ some b)
    (hmax : xs.length ≤ 1000) (hi : i < xs.length) :
    Rets Try.prog 43 #[.pointer (some ⟨b, o, none⟩), .int .i64 i] w fun u w' => u = .tuple #[] ∧ SlotPost w b o cs t v (remove xs i) w' := by
  unfold Rets
  have hc : w.cell? ⟨b, o, none⟩ = some v := (hb.cell o).trans ho
  have hf := hb.frozen o
  have hbl := hb.lt
  rcases ht.form with ⟨_, h0⟩ | ⟨g, cap, hv, hcap, _, hgl⟩
  · rw [h0] at hi; simp at hi
  subst hv
  have hgb : g ≠ b := fun h => hne (by rw [h]; rfl)
  obtain ⟨x, hx⟩ : ∃ x, xs[i]? = some x := ⟨_, List.getElem?_eq_getElem hi⟩
  obtain ⟨z, hz⟩ : ∃ z, xs[xs.length - 1]? = some z := ⟨_, List.getElem?_eq_getElem (by omega)⟩
  obtain ⟨d0, d1, d2⟩ := guest_cells ht hz
  obtain ⟨c0, c1, c2⟩ := guest_cells ht hx
  have hn1 : 1 ≤ xs.length := by omega
  have fz : ∀ j, w.frozen? ⟨g, j, none⟩ = false := fun j => ht.frozen j
  have hos : o < cs.size := (Array.getElem?_eq_some_iff.1 ho).1
  have HX := Lib.hid hx
  have HZ := Lib.hid hz
  clear hx hz
  go_enter Try.func43, Try.ntmps43
  go_wp2
  refine wp_region_text (by kernel_rfl) (by kernel_rfl) ?_
  go_wp2
  refine ⟨by kernel_rfl, ?_⟩
  have ht1 := (put_guest ht hi z).drew
  have hb1 := ((((hb.other (p := ⟨g, i * 3, none⟩) (Ne.symm hgb) (.int .i64 z.id)).other (p := ⟨g, i * 3 + 1, none⟩) (Ne.symm hgb) (.int .i64 z.stamp)).other (p := ⟨g, i * 3 + 2, none⟩) (Ne.symm hgb) (.int .i64 z.last))).drew
  have hT1 := ((((Tch.refl [b, g] w).setCell (p := ⟨g, i * 3, none⟩) (.inl (by simp)) (.int .i64 z.id)).setCell (p := ⟨g, i * 3 + 1, none⟩) (.inl (by simp)) (.int .i64 z.stamp)).setCell (p := ⟨g, i * 3 + 2, none⟩) (.inl (by simp)) (.int .i64 z.last)).drew
  clear c0 c1 c2 d0 d1 d2 fz hf hc
  generalize (((w.setCell ⟨g, i * 3, none⟩ (.int .i64 z.id)).setCell ⟨g, i * 3 + 1, none⟩ (.int .i64 z.stamp)).setCell ⟨g, i * 3 + 2, none⟩ (.int .i64 z.last)).drew = w1 at *
  have hc1 : w1.cell? ⟨b, o, none⟩ = some _ := (hb1.cell o).trans ho
  have hf1 := hb1.frozen o
  have hlen : (xs.set i z).length = xs.length := by simp
  have ht2 := (ht1.take (m := xs.length - 1) (by rw [hlen]; omega)).other (p := ⟨b, o, none⟩) hne (.slice (some ⟨g, 0, none⟩) (xs.length - 1) cap)
  have hb2 := hb1.set o (.slice (some ⟨g, 0, none⟩) (xs.length - 1) cap)
  have hT2 := hT1.setCell (p := ⟨b, o, none⟩) (.inl (by simp)) (.slice (some ⟨g, 0, none⟩) (xs.length - 1) cap)
  have hnew : NewOr w (Value.slice (some ⟨g, 0, none⟩) xs.length cap) (Value.slice (some ⟨g, 0, none⟩) (xs.length - 1) cap) := fun k hk => .inl hk
  have Hl := Lib.hid hlen
  clear hlen
  by_cases hlast : i < xs.length - 1
  · have hR := remove_mid HZ.out hlast
    have HR := Lib.hid hR
    clear hR
    have hi2 : i < ((xs.set i z).take (xs.length - 1)).length := by simp; omega
    have hm2 : ((xs.set i z).take (xs.length - 1)).length ≤ 1000000 := by simp; omega
    have hl3 : i < (rise ((xs.set i z).take (xs.length - 1)) i).length := by rw [rise_length]; exact hi2
    have hm3 : (rise ((xs.set i z).take (xs.length - 1)) i).length ≤ 1000000 := by rw [rise_length]; exact hm2
    have H2 := Lib.hid hi2
    have M2 := Lib.hid hm2
    have H3 := Lib.hid hl3
    have M3 := Lib.hid hm3
    clear hi2 hm2 hl3 hm3
    go_wp2_with fail
    refine (rise_any g _ cap i _ _ ht2 H2.out).use ?_
    rintro _ w3 ⟨rfl, ht3, hT3⟩
    have hb3 := hb2.touch hT3 (by simpa using Ne.symm hgb)
    have hc3 : w3.cell? ⟨b, o, none⟩ = some _ := (hb3.cell o).trans (by simp [hos]; rfl)
    go_wp2_with fail
    refine (sink_any g _ cap i _ _ ht3 H3.out M3.out).use ?_
    rintro _ w4 ⟨rfl, ht4, hT4⟩
    have hb4 := hb3.touch hT4 (by simpa using Ne.symm hgb)
    go_wp2
    go_end0
    refine ⟨_, rfl, rfl, _, hb4, by rw [HR.out]; exact ht4, hnew, ?_⟩
    have hT5 := (hT2.trans hT3 (by simp)).trans hT4 (by simp)
    exact hT5.mono (by simp [Value.ownBlock])
  · have hR := remove_last HZ.out hlast
    have HR := Lib.hid hR
    clear hR
    go_wp2_with fail
    go_end0
    refine ⟨_, rfl, rfl, _, hb2, by rw [HR.out]; exact ht2, hnew, hT2.mono (by simp [Value.ownBlock])⟩
end Go.Proofs.Ytdmgbfkioghkeaa
