/-
  The law's walk, walked: a script on both gates answers true; no condition.
-/
import Derived.Test.YtdmgbfkioghkeaaLScript
import Derived.Test.YtdmgbfkioghkeaaLPlays
namespace Go.Proofs.Ytdmgbfkioghkeaa
open Go.ChangeShapes Go.WideShapes Go.ChangeAt Go.RowKit Go.Ytdmgbfkioghkeaa Go.Ytdmgbfkioghkeaa.Gt Go.Ytdmgbfkioghkeaa.Reg

theorem take_step {os : List Deed} {k : Nat} {o : Deed} (ho : os[k]? = some o) : os.take (k + 1) = os.take k ++ [o] := by
  rw [List.take_add_one, ho]; rfl

theorem pair_steps {w0 w : World} {b br : Nat} {s : Gate} {r : RGate} {os : List Deed} {k : Nat} {o : Deed} (ho : os[k]? = some o)
    (h : Pair w0 w b br (((os.take k).foldl Gate.step s).step o) (((os.take k).foldl RGate.step r).step o)) : Pair w0 w b br ((os.take (k + 1)).foldl Gate.step s) ((os.take (k + 1)).foldl RGate.step r) := by
  rw [take_step ho]
  simpa [List.foldl_append] using h

theorem pair_tch {w0 w : World} {b br : Nat} {s : Gate} {r : RGate} (h : Pair w0 w b br s r) : Tch [] w0 w := by
  obtain ⟨_, _, _, _, _, _, hT⟩ := h
  exact hT

theorem sim_at {most units : Int} (h1 : 1 ≤ most) (h2 : most ≤ 16) (h3 : 1 ≤ units) (h4 : units ≤ 64) (os : List Deed) (k : Nat) (hk : k ≤ os.length) (hl : os.length ≤ 10000000000000) :
    Sim ((os.take k).foldl Gate.step (Gate.new most units)) ((os.take k).foldl RGate.step (RGate.new most units)) 10000000000000 := by
  have h := sim_steps (os.take k) (sim_new h1 h2 h3 h4) (Int.le_refl 0)
  refine h.more ?_
  simp only [List.length_take]
  omega

set_option maxRecDepth 100000 in
set_option maxHeartbeats 1000000 in
theorem walk_any (most units lo hi : Int) (v : Value) (os : List Deed) (w : World) (hs : Script w v os) :
    Rets Try.prog 20 #[.int .i64 most, .int .i64 units, v, .int .i64 lo, .int .i64 hi] w fun u w' => u = .bool true ∧ Tch [] w w' := by
  unfold Rets
  by_cases h : 1 ≤ most ∧ most ≤ 16 ∧ 1 ≤ units ∧ units ≤ 64
  · obtain ⟨h1, h2, h3, h4⟩ := h
    have hs0 := hs
    obtain ⟨a, cap, rfl, hl, _⟩ := hs0
    go_enter Try.func20, Try.ntmps20
    go_wp2_with (first
      | (go_at_call 16; refine (new_yes most units _ h1 h2 h3 h4).use ?_; rintro _ w1 hN; obtain ⟨b, F, rfl, hg, hT, hF⟩ := hN)
      | (go_at_call 17; refine (rnew_yes most units _ h1 h2 h3 h4).use ?_; rintro _ w2 hN2; obtain ⟨br, Fr, rfl, hr, hT2, hFr⟩ := hN2))
    have hP0 : Pair w w2 b br (Gate.new most units) (RGate.new most units) :=
      ⟨F, Fr, hg.kept hT2 (by simp), hr, fun k hk => ⟨fun h2 => by have := hg.mem k hk; have := hFr k h2; omega, hF k hk⟩, fun k hk => by have := hFr k hk; have := hT.size; omega, hT.trans hT2 (by simp)⟩
    clear hg hT hF hr hT2 hFr
    go_loopw [15] (fun j wr => ∃ k : Nat, k ≤ os.length ∧ j = .int .i64 k ∧ Pair w wr b br ((os.take k).foldl Gate.step (Gate.new most units)) ((os.take k).foldl RGate.step (RGate.new most units))) (fun j _ => os.length - (intOf j).toNat)
    case atStart => exact ⟨0, Nat.zero_le _, rfl, hP0⟩
    case round =>
      obtain ⟨k, hk, rfl, hP⟩ := hrel
      by_cases hlt : k < os.length
      · obtain ⟨o, ho⟩ : ∃ o, os[k]? = some o := ⟨_, List.getElem?_eq_getElem hlt⟩
        obtain ⟨a', cap', hv, _, hc⟩ := hs.kept (pair_tch hP)
        cases hv
        obtain ⟨bs, off, ha, c0, c1, c2⟩ := hc k o ho
        subst ha
        have c1' : wr.cell? ⟨bs, off + k * 3 + 1, none⟩ = some (.int .i64 o.id) := by rw [Nat.add_assoc]; exact c1
        have c2' : wr.cell? ⟨bs, off + k * 3 + 2, none⟩ = some (.bool o.yes) := by rw [Nat.add_assoc]; exact c2
        have hsim := sim_at h1 h2 h3 h4 os k hk hl
        have HO := Lib.hid ho
        clear ho hc
        go_wp2_with (go_at_call 33; refine (plays_any w b br _ _ _ o _ hP hsim (by omega)).use ?_; rintro _ w3 ⟨rfl, hP3⟩)
        go_roundw
        case rel => exact ⟨k + 1, by omega, by go_num, pair_steps HO.out hP3⟩
        case measure => simp [intOf]; omega
      · go_wp2
        go_ret
        exact ⟨_, rfl, rfl, pair_tch hP⟩
  · have hn : most < 1 ∨ 16 < most ∨ units < 1 ∨ 64 < units := by omega
    go_enter Try.func20, Try.ntmps20
    go_wp2_with (first
      | (go_at_call 16; refine (new_no most units _ hn).use ?_; rintro _ w1 ⟨rfl, hT⟩)
      | (go_at_call 17; refine (rnew_no most units _ hn).use ?_; rintro _ w2 ⟨rfl, hT2⟩))
    go_ret
    exact ⟨_, rfl, rfl, hT.trans hT2 (by simp)⟩
end Go.Proofs.Ytdmgbfkioghkeaa
