/-
  The gate's heap of turns, walked: ahead, at, rise, sink.
-/
import Derived.Test.YtdmgbfkioghkeaaRows
import Derived.Test.YtdmgbfkioghkeaaRegText
import Derived.Test.YtdmgbfkioghkeaaTab
import Derived.Test.YtdmgbfkioghkeaaGMod
import Derived.WalkSpells
import Derived.BigQuiet
import Derived.Lib.Hide
namespace Go.Proofs.Ytdmgbfkioghkeaa
open Go.RowKit Go.Ytdmgbfkioghkeaa Go.Ytdmgbfkioghkeaa.Gt Go.Ytdmgbfkioghkeaa.Reg

def GuestK : Kind G := ⟨62, 3, fun g => [.int .i64 g.id, .int .i64 g.stamp, .int .i64 g.last], fun _ => rfl, by decide, fun x u hu => by simp at hu; rcases hu with rfl | rfl | rfl <;> rfl⟩
def IntK : Kind Int := ⟨3, 1, fun x => [.int .i64 x], fun _ => rfl, by decide, fun x u hu => by simp at hu; subst hu; rfl⟩

/-- A place, as Go tells it. -/
def ix (o : Option Nat) : Int := match o with | some i => i | none => -1

theorem guest_cells {w : World} {g n cap k : Nat} {xs : List G} {x : G} (h : Tab GuestK w (.slice (some ⟨g, 0, none⟩) n cap) xs) (hx : xs[k]? = some x) :
    w.cell? ⟨g, k * 3, none⟩ = some (.int .i64 x.id) ∧ w.cell? ⟨g, k * 3 + 1, none⟩ = some (.int .i64 x.stamp) ∧ w.cell? ⟨g, k * 3 + 2, none⟩ = some (.int .i64 x.last) :=
  ⟨h.cell (f := 0) hx rfl, h.cell (f := 1) hx rfl, h.cell (f := 2) hx rfl⟩

theorem atId_none {xs : List G} {id : Int} (h : ∀ (j : Nat) (x : G), xs[j]? = some x → x.id ≠ id) : atId xs id = none := by
  unfold atId
  rw [List.findIdx?_eq_none_iff]
  intro x hx
  obtain ⟨j, hj⟩ := List.mem_iff_getElem?.1 hx
  simpa using h j x hj
theorem atId_some {xs : List G} {id : Int} {k : Nat} {x : G} (hx : xs[k]? = some x) (hid : x.id = id) (h : ∀ (j : Nat) (y : G), j < k → xs[j]? = some y → y.id ≠ id) : atId xs id = some k := by
  unfold atId
  rw [List.findIdx?_eq_some_iff_getElem]
  obtain ⟨hk, rfl⟩ := List.getElem?_eq_some_iff.1 hx
  exact ⟨hk, by simpa using hid, fun j hj => by simpa using h j _ hj (List.getElem?_eq_getElem (by omega))⟩

theorem ahead_any (x y : G) (b : Bool) (hb : x.ahead y = b) (w : World) :
    Rets Try.prog 59 #[.agg #[.int .i64 x.id, .int .i64 x.stamp, .int .i64 x.last], .agg #[.int .i64 y.id, .int .i64 y.stamp, .int .i64 y.last]] w fun v w' => v = .bool b ∧ Tch [] w w' := by
  subst hb
  obtain ⟨xi, xs, xl⟩ := x
  obtain ⟨yi, ys, yl⟩ := y
  dsimp only
  unfold G.ahead
  dsimp only
  unfold Rets
  by_cases h1 : xl < yl
  · go_enter Try.func59, Try.ntmps59
    go_wp2
    go_ret
    exact ⟨_, rfl, by simp [h1], ((Tch.refl _ _).alloc _).alloc _⟩
  · have hd1 : decide (xl < yl) = false := by simpa using h1
    by_cases h2 : xl = yl
    · have hd2 : (xl == yl) = true := by simpa using h2
      have H2 := Lib.hid h2
      clear h2
      by_cases h3 : xs < ys
      · go_enter Try.func59, Try.ntmps59
        go_wp2
        go_ret
        exact ⟨_, rfl, by simp [H2.out], ((Tch.refl _ _).alloc _).alloc _⟩
      · have hd3 : decide (xs < ys) = false := by simpa using h3
        go_enter Try.func59, Try.ntmps59
        go_wp2
        go_ret
        exact ⟨_, rfl, by simp [H2.out], ((Tch.refl _ _).alloc _).alloc _⟩
    · have hd2 : (xl == yl) = false := by simpa using h2
      go_enter Try.func59, Try.ntmps59
      go_wp2
      go_ret
      exact ⟨_, rfl, by simp, ((Tch.refl _ _).alloc _).alloc _⟩

theorem atfn_any (x : G) (id : Int) (b : Nat) (w : World) (hc : w.cell? ⟨b, 0, none⟩ = some (.int .i64 id)) :
    Rets Try.prog 58 #[.agg #[.int .i64 x.id, .int .i64 x.stamp, .int .i64 x.last], .pointer (some ⟨b, 0, none⟩)] w fun v w' => v = .bool (x.id == id) ∧ Tch [] w w' := by
  unfold Rets
  have hb : b < w.heap.size := World.block_lt_of_cell? w _ hc
  go_enter Try.func58, Try.ntmps58
  go_wp2
  go_ret
  exact ⟨_, rfl, rfl, (Tch.refl _ _).alloc _⟩

theorem indexFunc_any (b : Nat) (v : Value) (xs : List G) (id : Int) (w : World) (ht : Tab GuestK w v xs) (hc : w.cell? ⟨b, 0, none⟩ = some (.int .i64 id)) :
    Rets Try.prog 57 #[v, .func (.func 58) #[] #[.pointer (some ⟨b, 0, none⟩)]] w fun u w' => u = .int .i64 (ix (atId xs id)) ∧ Tch [] w w' := by
  unfold Rets
  have hmax := ht.lenMax
  unfold maxLen at hmax
  obtain ⟨a, cap, rfl⟩ := ht.slice
  go_enter Try.func57, Try.ntmps57
  go_wp2
  go_loopw [8] (fun i wr => ∃ k : Nat, k ≤ xs.length ∧ i = .int .i64 k ∧ (∀ j x, j < k → xs[j]? = some x → x.id ≠ id) ∧ Tch [] w wr) (fun i _ => xs.length - (intOf i).toNat)
  case atStart => exact ⟨0, Nat.zero_le _, rfl, fun _ _ h => absurd h (by omega), Tch.refl _ _⟩
  case round =>
    obtain ⟨k, hk, rfl, hno, hT⟩ := hrel
    have htw := ht.touch hT (by simp)
    have hcw : wr.cell? ⟨b, 0, none⟩ = some (.int .i64 id) := (hT.cell (p := ⟨b, 0, none⟩) (World.block_lt_of_cell? w _ hc) (by simp)).trans hc
    by_cases hlt : k < xs.length
    · obtain ⟨x, hx⟩ : ∃ x, xs[k]? = some x := ⟨_, List.getElem?_eq_getElem hlt⟩
      rcases ht.form with ⟨_, h0⟩ | ⟨g, cap', hv, _⟩
      · rw [h0] at hlt; simp at hlt
      · cases hv
        obtain ⟨c0, c1, c2⟩ := guest_cells htw hx
        by_cases hid : x.id = id
        · have hid' : (x.id == id) = true := by simpa using hid
          have hfin : atId xs id = some k := atId_some hx hid hno
          have HF := Lib.hid hfin
          have HI := Lib.hid hid
          clear hfin hid hx hno
          go_wp2_with (go_at_call 58; refine (atfn_any _ _ _ _ hcw).use ?_; rintro _ w' ⟨rfl, hT'⟩)
          go_ret
          exact ⟨_, rfl, by rw [HF.out]; rfl, hT.trans' hT'⟩
        · have hid' : (x.id == id) = false := by simpa using hid
          have hno' : ∀ j y, j < k + 1 → xs[j]? = some y → y.id ≠ id := fun j y hj hy => by
            rcases Nat.lt_succ_iff_lt_or_eq.1 hj with h | rfl
            · exact hno j y h hy
            · rw [hx] at hy; cases hy; exact hid
          have HN := Lib.hid hno'
          clear hno' hno hid hx
          go_wp2_with (go_at_call 58; refine (atfn_any _ _ _ _ hcw).use ?_; rintro _ w' ⟨rfl, hT'⟩)
          go_roundw
          case rel => exact ⟨k + 1, by omega, by go_num, HN.out, hT.trans' hT'⟩
          case measure => simp [intOf]; omega
    · have hfin : atId xs id = none := atId_none fun j x hj => hno j x (by have := (List.getElem?_eq_some_iff.1 hj).1; omega) hj
      have HF := Lib.hid hfin
      clear hfin hno
      go_wp2
      go_ret
      exact ⟨_, rfl, by rw [HF.out]; rfl, hT⟩

theorem at_any (v : Value) (xs : List G) (id : Int) (w : World) (ht : Tab GuestK w v xs) :
    Rets Try.prog 38 #[v, .int .i64 id] w fun u w' => u = .int .i64 (ix (atId xs id)) ∧ Tch [] w w' := by
  unfold Rets
  go_enter Try.func38, Try.ntmps38
  have hmf : ∀ (fn : Fn) (first cap : Array Value) (w : World), (Instr.makeFunc fn first cap).run Try.prog w = .ok (.func fn first cap) w := fun _ _ _ _ => rfl
  go_wp2_with (go_at_call 57; refine (indexFunc_any w.heap.size _ xs id _ (ht.alloc _) (by simp)).use ?_; rintro _ w' ⟨rfl, hT'⟩)
  go_ret
  exact ⟨_, rfl, rfl, ((Tch.refl _ _).alloc _).trans' hT'⟩

/-- A guest's three cells written. -/
theorem put_guest {w : World} {g n cap i : Nat} {xs : List G} (h : Tab GuestK w (.slice (some ⟨g, 0, none⟩) n cap) xs) (hi : i < xs.length) (y : G) :
    Tab GuestK (((w.setCell ⟨g, i * 3, none⟩ (.int .i64 y.id)).setCell ⟨g, i * 3 + 1, none⟩ (.int .i64 y.stamp)).setCell ⟨g, i * 3 + 2, none⟩ (.int .i64 y.last)) (.slice (some ⟨g, 0, none⟩) n cap) (xs.set i y) := by
  obtain ⟨x, hx⟩ : ∃ x, xs[i]? = some x := ⟨_, List.getElem?_eq_getElem hi⟩
  have h1 := h.put (f := 0) { x with id := y.id } (.int .i64 y.id) hx (by decide) rfl
  have e1 : (xs.set i { x with id := y.id })[i]? = some { x with id := y.id } := by simp [hi]
  have h2 := h1.put (f := 1) { x with id := y.id, stamp := y.stamp } (.int .i64 y.stamp) e1 (by decide) rfl
  have e2 : ((xs.set i { x with id := y.id }).set i { x with id := y.id, stamp := y.stamp })[i]? = some { x with id := y.id, stamp := y.stamp } := by simp [hi]
  have h3 := h2.put (f := 2) y (.int .i64 y.last) e2 (by decide) rfl
  simpa [show GuestK.sz = 3 from rfl] using h3

theorem aheadAt_of {l : List G} {i j : Nat} {x y : G} (hi : l[i]? = some x) (hj : l[j]? = some y) : aheadAt l i j = x.ahead y := by simp [aheadAt, hi, hj]
theorem swp_of {l : List G} {i j : Nat} {x y : G} (hi : l[i]? = some x) (hj : l[j]? = some y) : swp l i j = (l.set i y).set j x := by simp [swp, hi, hj]

theorem rise_any (g n cap i : Nat) (xs : List G) (w : World) (ht : Tab GuestK w (.slice (some ⟨g, 0, none⟩) n cap) xs) (hi : i < xs.length) :
    Rets Try.prog 39 #[.slice (some ⟨g, 0, none⟩) n cap, .int .i64 i] w fun u w' => u = .tuple #[] ∧ Tab GuestK w' (.slice (some ⟨g, 0, none⟩) n cap) (rise xs i) ∧ Tch [g] w w' := by
  unfold Rets
  have hmax : xs.length ≤ 9223372036854775807 := ht.lenMax
  obtain rfl : n = xs.length := by
    rcases ht.form with ⟨h, _⟩ | ⟨_, _, h, _⟩ <;> cases h; rfl
  go_enter Try.func39, Try.ntmps39
  go_wp2
  go_loopw [1] (fun v wr => ∃ (k : Nat) (ys : List G), k < xs.length ∧ v = .int .i64 k ∧ ys.length = xs.length ∧ rise ys k = rise xs i ∧ Tab GuestK wr (.slice (some ⟨g, 0, none⟩) xs.length cap) ys ∧ Tch [g] w wr) (fun i _ => (intOf i).toNat)
  case atStart => exact ⟨i, xs, hi, rfl, rfl, rfl, ht, Tch.refl _ _⟩
  case round =>
    obtain ⟨k, ys, hk, rfl, hl, hr, htw, hT⟩ := hrel
    obtain ⟨x, hx⟩ : ∃ x, ys[k]? = some x := ⟨_, List.getElem?_eq_getElem (by omega)⟩
    have HL := Lib.hid hl
    clear hl
    by_cases hk0 : 0 < k
    · obtain ⟨p, hp⟩ : ∃ p, ys[(k - 1) / 2]? = some p := ⟨_, List.getElem?_eq_getElem (by have := HL.out; omega)⟩
      obtain ⟨c0, c1, c2⟩ := guest_cells htw hx
      obtain ⟨d0, d1, d2⟩ := guest_cells htw hp
      have hgl : g < wr.heap.size := htw.block_lt rfl
      by_cases ha : x.ahead p = true
      · have hrr : rise ys k = rise (swp ys k ((k - 1) / 2)) ((k - 1) / 2) := by
          rw [rise, dif_pos ⟨hk0, by rw [aheadAt_of hx hp]; exact ha⟩]
        have HR := Lib.hid (hrr.symm.trans hr)
        have HX := Lib.hid hx
        have HP := Lib.hid hp
        clear hrr hr hx hp
        go_wp2
        refine wp_region_text (by kernel_rfl) (by kernel_rfl) ?_
        go_wp2_with (go_at_call 59; refine (ahead_any x p true ha _).use ?_; rintro _ w1 ⟨rfl, hT1⟩)
        refine ⟨by kernel_rfl, ?_⟩
        have ht1 := htw.drew.touch hT1 (by simp)
        have hT2 := hT.drew.trans hT1 (by simp)
        clear c0 c1 c2 d0 d1 d2
        obtain ⟨c0, c1, c2⟩ := guest_cells ht1 HX.out
        obtain ⟨d0, d1, d2⟩ := guest_cells ht1 HP.out
        have fz : ∀ j, w1.frozen? ⟨g, j, none⟩ = false := fun j => ht1.frozen j
        go_wp2
        refine wp_region_text (by kernel_rfl) (by kernel_rfl) ?_
        go_wp2
        refine ⟨by kernel_rfl, ?_⟩
        go_wp2
        refine ⟨⟨(k - 1) / 2, swp ys k ((k - 1) / 2), by omega, by go_num, by rw [swp_length]; exact HL.out, HR.out, ?_, ?_⟩, by simp [intOf]; omega⟩
        · rw [swp_of HX.out HP.out]
          have hk' : k < ys.length := by rw [HL.out]; exact hk
          exact (put_guest (put_guest ht1 hk' p) (by simp; omega) x).drew
        · exact ((((((hT2.setCell (.inl (by simp)) _).setCell (.inl (by simp)) _).setCell (.inl (by simp)) _).setCell (.inl (by simp)) _).setCell (.inl (by simp)) _).setCell (.inl (by simp)) _).drew
      · have ha' : x.ahead p = false := by simpa using ha
        have hrr : rise ys k = ys := by
          rw [rise, dif_neg (by rintro ⟨_, h⟩; rw [aheadAt_of hx hp] at h; exact ha h)]
        have HR := Lib.hid (hrr.symm.trans hr)
        clear hrr hr hx hp ha
        go_wp2
        refine wp_region_text (by kernel_rfl) (by kernel_rfl) ?_
        go_wp2_with (go_at_call 59; refine (ahead_any x p false ha' _).use ?_; rintro _ w1 ⟨rfl, hT1⟩)
        refine ⟨by kernel_rfl, ?_⟩
        go_wp2
        go_end0
        exact ⟨_, rfl, rfl, by rw [← HR.out]; exact htw.drew.touch hT1 (by simp), hT.drew.trans hT1 (by simp)⟩
    · obtain rfl : k = 0 := by omega
      have hrr : rise ys 0 = ys := by
        rw [rise, dif_neg (by rintro ⟨h, _⟩; exact hk0 h)]
      have HR := Lib.hid (hrr.symm.trans hr)
      clear hrr hr hx hk0
      go_wp2
      refine wp_region_text (by kernel_rfl) (by kernel_rfl) ?_
      go_wp2
      refine ⟨by kernel_rfl, ?_⟩
      go_wp2
      go_end0
      exact ⟨_, rfl, rfl, by rw [← HR.out]; exact htw.drew, hT.drew⟩
end Go.Proofs.Ytdmgbfkioghkeaa
