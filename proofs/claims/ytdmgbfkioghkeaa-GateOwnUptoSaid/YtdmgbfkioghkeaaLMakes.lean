/-
  The law GateMakes holds: New's error, a gate just where there is one, empty and with its limits; no condition.
-/
import Derived.Test.YtdmgbfkioghkeaaLPost
import Derived.Test.YtdmgbfkioghkeaaLSame
namespace Go.Proofs.Ytdmgbfkioghkeaa
open Go.ChangeShapes Go.WideShapes Go.ChangeAt Go.RowKit Go.Ytdmgbfkioghkeaa Go.Ytdmgbfkioghkeaa.Gt Go.Ytdmgbfkioghkeaa.Reg

theorem fits_new {most units : Int} (h1 : 1 ≤ most) (h2 : most ≤ 16) (h3 : 1 ≤ units) (h4 : units ≤ 64) : Fits (Gate.new most units) :=
  ⟨by simp [Gate.new], by simp [Gate.new], by simp [Gate.new], by simp [Gate.new], by simp [Gate.new], by simp [Gate.new], by simp [Gate.new], by simp [Gate.new], by simp [Gate.new], by simp [Gate.new], h1, h2, h3, h4, by simp [Gate.new]⟩
theorem rfits_new {most units : Int} (h2 : most ≤ 16) : RFits (RGate.new most units) :=
  ⟨by simp [RGate.new], by simp [RGate.new], by simp [RGate.new], by simp [RGate.new], by simp [RGate.new], by simp [RGate.new], by simp [RGate.new], by simp [RGate.new], h2⟩

theorem RefAt.kept {w w' : World} {b : Nat} {F : List Nat} {r : RGate} (h : RefAt w b F r) {S : List Nat} (ht : Tch S w w') (hS : ∀ k ∈ F, k ∉ S) : RefAt w' b F r := by
  obtain ⟨vq, vi, h, rfl⟩ := h
  exact ⟨vq, vi, h.kept ht hS, rfl⟩
theorem RefAt.mem {w : World} {b : Nat} {F : List Nat} {r : RGate} (h : RefAt w b F r) : ∀ k ∈ F, k < w.heap.size := by
  obtain ⟨vq, vi, h, rfl⟩ := h
  exact h.mem
theorem GateAt.kept {w w' : World} {b : Nat} {F : List Nat} {s : Gate} (h : GateAt w b F s) {S : List Nat} (ht : Tch S w w') (hS : ∀ k ∈ F, k ∉ S) : GateAt w' b F s := by
  obtain ⟨vq, vi, vt, h, rfl⟩ := h
  exact ⟨vq, vi, vt, h.kept ht hS, rfl⟩
theorem GateAt.mem {w : World} {b : Nat} {F : List Nat} {s : Gate} (h : GateAt w b F s) : ∀ k ∈ F, k < w.heap.size := by
  obtain ⟨vq, vi, vt, h, rfl⟩ := h
  exact h.mem

set_option maxRecDepth 100000 in
set_option maxHeartbeats 1000000 in
theorem gateMakes_any (most units : Int) (w : World) : Rets Try.prog 4 #[.int .i64 most, .int .i64 units] w fun u w' => u = .bool true ∧ Tch [] w w' := by
  unfold Rets
  by_cases h : 1 ≤ most ∧ most ≤ 16 ∧ 1 ≤ units ∧ units ≤ 64
  · obtain ⟨h1, h2, h3, h4⟩ := h
    go_enter Try.func4, Try.ntmps4
    go_wp2_with (first
      | (go_at_call 16; refine (new_yes most units _ h1 h2 h3 h4).use ?_; rintro _ w1 hN; obtain ⟨b, F, rfl, hg, hT, hF⟩ := hN)
      | (go_at_call 17; refine (rnew_yes most units _ h1 h2 h3 h4).use ?_; rintro _ w2 hN2; obtain ⟨br, Fr, rfl, hr, hT2, hFr⟩ := hN2; have hg2 := hg.kept hT2 (by simp))
      | (go_at_call 19; refine (stat_any b F _ _ hg2 (fits_new h1 h2 h3 h4)).use ?_; rintro _ w3 hS; obtain ⟨vI, vQ, rfl, hg3, hT3, hI, hQ, _⟩ := hS; have hr3 := hr.kept hT3 (fun k hk hk2 => by have := hFr k hk; have := hg.mem k hk2; omega))
      | (go_at_call 18; refine (stat_true (Gate.new most units) vI vQ br Fr (RGate.new most units) _ hI hQ hr3 (rfits_new h2) rfl rfl rfl rfl rfl).use ?_; rintro _ w4 ⟨rfl, hT4⟩))
    go_ret
    exact ⟨_, rfl, rfl, ((hT.trans hT2 (by simp)).trans hT3 (fun k hk => .inr (hF k hk))).trans hT4 (by simp)⟩
  · have hn : most < 1 ∨ 16 < most ∨ units < 1 ∨ 64 < units := by omega
    go_enter Try.func4, Try.ntmps4
    go_wp2_with (first
      | (go_at_call 16; refine (new_no most units _ hn).use ?_; rintro _ w1 ⟨rfl, hT⟩)
      | (go_at_call 17; refine (rnew_no most units _ hn).use ?_; rintro _ w2 ⟨rfl, hT2⟩))
    go_ret
    exact ⟨_, rfl, rfl, hT.trans hT2 (by simp)⟩

set_option maxRecDepth 100000 in
theorem gateMakes_lifted (os : Os) (started : os.Started) (H : Type) (enc : TypeId × Value → H) :
    ReturnsInHanded {} Try.checked os 4 .any (Rows.gateMakesSpec.pre6 enc Try.prog Try.f4 Rows.gateMakesRow.domain false) (Rows.gateMakesSpec.post enc Try.prog Try.f4 false true false false) := by
  refine returnsInHanded_of_change (C := Try.checked) Try.own started (by kernel_rfl) Try.func4
    (ChangeSpec.witness6 (enc := enc) (C := Try.checked) false ⟨#[], #[.int .i64 0, .int .i64 0], []⟩ 8 (by kernel_rfl) (by kernel_rfl) (by kernel_rfl) (by kernel_rfl)) ?_
  intro W base args ds gs before hval0 hW hcnd _
  have hval : ∀ (j : Nat) t v, Try.f4.params[j]? = some t → args[j]? = some v → Value.okWide Try.prog W .any base t v := hval0
  have hW' := hW
  obtain ⟨p, q, hA0, hV, rfl, hfz, hnd⟩ := hW
  have hA : DataW.TrodAll enc Try.prog W 0 (fun _ => true) true Try.f4.params.toList args.toList ds p := hA0
  rw [Try.params4] at hA hval
  obtain ⟨v0, v1, d0, d1, p0, p1, rfl, rfl, rfl, h0, h1⟩ := trodAll_two hA
  obtain ⟨rfl, rfl⟩ := trodVars_none hV
  obtain ⟨a, rfl, rfl, rfl, wa⟩ := open_int Try.underlying3 (hval 0 3 v0 rfl rfl) h0
  obtain ⟨b, rfl, rfl, rfl, wb⟩ := open_int Try.underlying3 (hval 1 3 v1 rfl rfl) h1
  refine (gateMakes_any a b W).use fun e W' ⟨he, hT⟩ => ?_
  subst he
  exact ⟨_, rfl, post_true Try.laidOut hW' hA0 (by kernel_rfl) hT rfl (by kernel_rfl) rfl rfl⟩

theorem gateMakes_holds : Rows.GateMakesSaid :=
  OpenClaim.holds_of_wide 4 Try.f4 rfl rfl rfl rfl rfl rfl rfl ⟨rfl, rfl, rfl, rfl, rfl⟩ rfl rfl rfl rfl rfl (by kernel_rfl) Try.func4 (by kernel_rfl)
    (of_decide_eq_true (by kernel_rfl)) (by unfold Func.isWrapper; first | (rw [if_pos (by decide +kernel)]; kernel_rfl) | (rw [if_neg (by decide +kernel)]; exact ⟨rfl, rfl⟩))
    (fun os started H enc _ => gateMakes_lifted os started H enc)
end Go.Proofs.Ytdmgbfkioghkeaa
