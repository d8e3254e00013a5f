/-
  The law GateNil holds: a nil gate answers as the document says, and one that is there takes its first; no condition.
-/
import Derived.Test.YtdmgbfkioghkeaaLMakes
namespace Go.Proofs.Ytdmgbfkioghkeaa
open Go.ChangeShapes Go.WideShapes Go.ChangeAt Go.RowKit Go.Ytdmgbfkioghkeaa Go.Ytdmgbfkioghkeaa.Gt Go.Ytdmgbfkioghkeaa.Reg

theorem submit_nil (id : Int) (w : World) : Rets Try.prog 28 #[.pointer none, .int .i64 id] w fun u w' => u = .tuple #[.int .i64 0, .int .i64 1] ∧ Tch [] w w' := by
  unfold Rets
  have hP : Tch [] w (w.alloc (.cells #[.int .i64 id] 3)) := (Tch.refl _ _).alloc _
  go_enter_defers Try.func28, Try.ntmps28
  go_wp2
  exact ⟨_, results_tmp2 rfl _ _ _, _, rfl, rfl, hP⟩
theorem admit_nil (w : World) : Rets Try.prog 30 #[.pointer none] w fun u w' => u = .slice none 0 0 ∧ Tch [] w w' := by
  unfold Rets
  go_enter_defers Try.func30, Try.ntmps30
  go_wp2
  exact ⟨_, results_tmp rfl _ _ _, _, rfl, rfl, Tch.refl _ _⟩
theorem end_nil (id : Int) (lg : Bool) (w : World) : Rets Try.prog 26 #[.pointer none, .int .i64 id, .bool lg] w fun u w' => u = .int .i64 1 ∧ Tch [] w w' := by
  unfold Rets
  go_enter_defers Try.func26, Try.ntmps26
  go_wp2
  exact ⟨_, results_tmp rfl _ _ _, _, rfl, rfl, Tch.refl _ _⟩
theorem picked_nil (id : Int) (w : World) : Rets Try.prog 25 #[.pointer none, .int .i64 id] w fun u w' => u = .int .i64 1 ∧ Tch [] w w' := by
  unfold Rets
  go_enter_defers Try.func25, Try.ntmps25
  go_wp2
  exact ⟨_, results_tmp rfl _ _ _, _, rfl, rfl, Tch.refl _ _⟩
theorem swept_nil (w : World) : Rets Try.prog 34 #[.pointer none] w fun u w' => u = .tuple #[] ∧ Tch [] w w' := by
  unfold Rets
  go_enter_defers Try.func34, Try.ntmps34
  go_wp2
  exact ⟨_, results_none rfl _ _ _, _, rfl, rfl, Tch.refl _ _⟩
theorem next_nil (w : World) : Rets Try.prog 24 #[.pointer none] w fun u w' => u = .int .i64 0 ∧ Tch [] w w' := by
  unfold Rets
  go_enter_defers Try.func24, Try.ntmps24
  go_wp2
  exact ⟨_, results_tmp rfl _ _ _, _, rfl, rfl, Tch.refl _ _⟩
theorem stat_nil (w : World) : Rets Try.prog 19 #[.pointer none] w fun u w' => u = .agg #[.slice none 0 0, .slice none 0 0, .int .i64 0, .int .i64 0, .int .i64 0] ∧ Tch [] w w' := by
  unfold Rets
  have hn := Blk.new w #[.slice none 0 0, .slice none 0 0, .int .i64 0, .int .i64 0, .int .i64 0] 33
  have hP : Tch [] w (w.alloc (.cells #[.slice none 0 0, .slice none 0 0, .int .i64 0, .int .i64 0, .int .i64 0] 33)) := (Tch.refl _ _).alloc _
  go_enter_defers Try.func19, Try.ntmps19
  go_wp2
  exact ⟨_, results_cell_row (P := Try.prog) rfl _ _ w.heap.size 33 _ (0, 0) _ rfl hn Try.underlying33 rfl (by kernel_rfl), _, rfl, rfl, hP⟩

theorem submit_first : ((Gate.new 1 1).submit 1).1 = 1 ∧ ((Gate.new 1 1).submit 1).2.1 = 0 := by decide

set_option maxRecDepth 100000 in
set_option maxHeartbeats 1000000 in
theorem gateNil_any (id : Int) (yes : Bool) (w : World) : Rets Try.prog 15 #[.int .i64 id, .bool yes] w fun u w' => u = .bool true ∧ Tch [] w w' := by
  unfold Rets
  have h1 := submit_first
  go_enter Try.func15, Try.ntmps15
  go_wp2_with (first
    | (go_at_call 16; refine (new_yes 1 1 _ (by omega) (by omega) (by omega) (by omega)).use ?_; rintro _ w1 hN; obtain ⟨b, F, rfl, hg, hT, hF⟩ := hN)
    | (go_at_call 28; first
      | (refine (submit_nil id w2).use ?_; rintro _ w3 ⟨rfl, hT3⟩)
      | (refine (submit_any b F _ 1 _ hg (fits_new (by omega) (by omega) (by omega) (by omega))).use ?_; rintro _ w2 ⟨rfl, hp⟩; obtain ⟨F2, hg2, hT2, hF2⟩ := hp))
    | (go_at_call 30; refine (admit_nil _).use ?_; rintro _ w4 ⟨rfl, hT4⟩)
    | (go_at_call 26; refine (end_nil id yes _).use ?_; rintro _ w5 ⟨rfl, hT5⟩)
    | (go_at_call 25; refine (picked_nil id _).use ?_; rintro _ w6 ⟨rfl, hT6⟩)
    | (go_at_call 34; refine (swept_nil _).use ?_; rintro _ w7 ⟨rfl, hT7⟩)
    | (go_at_call 19; refine (stat_nil _).use ?_; rintro _ w8 ⟨rfl, hT8⟩)
    | (go_at_call 24; refine (next_nil _).use ?_; rintro _ w9 ⟨rfl, hT9⟩; have hbox := (Blk.new w8 #[.slice none 0 0, .slice none 0 0, .int .i64 0, .int .i64 0, .int .i64 0] 33).touch hT9 (by simp); have k0 := hbox.cell 0; have k1 := hbox.cell 1; have k2 := hbox.cell 2; have k3 := hbox.cell 3; have k4 := hbox.cell 4))
  go_ret
  exact ⟨_, rfl, rfl, ((((((((hT.trans hT2 (fun k hk => .inr (hF k hk))).trans hT3 (by simp)).trans hT4 (by simp)).trans hT5 (by simp)).trans hT6 (by simp)).trans hT7 (by simp)).trans hT8 (by simp)).alloc _).trans hT9 (by simp)⟩

set_option maxRecDepth 100000 in
theorem gateNil_lifted (os : Os) (started : os.Started) (H : Type) (enc : TypeId × Value → H) :
    ReturnsInHanded {} Try.checked os 15 .any (Rows.gateNilSpec.pre6 enc Try.prog Try.f15 Rows.gateNilRow.domain false) (Rows.gateNilSpec.post enc Try.prog Try.f15 false true false false) := by
  refine returnsInHanded_of_change (C := Try.checked) Try.own started (by kernel_rfl) Try.func15
    (ChangeSpec.witness6 (enc := enc) (C := Try.checked) false ⟨#[], #[.int .i64 0, .bool false], []⟩ 8 (by kernel_rfl) (by kernel_rfl) (by kernel_rfl) (by kernel_rfl)) ?_
  intro W base args ds gs before hval0 hW hcnd _
  have hval : ∀ (j : Nat) t v, Try.f15.params[j]? = some t → args[j]? = some v → Value.okWide Try.prog W .any base t v := hval0
  have hW' := hW
  obtain ⟨p, q, hA0, hV, rfl, hfz, hnd⟩ := hW
  have hA : DataW.TrodAll enc Try.prog W 0 (fun _ => true) true Try.f15.params.toList args.toList ds p := hA0
  rw [Try.params15] at hA hval
  obtain ⟨v0, v1, d0, d1, p0, p1, rfl, rfl, rfl, h0, h1⟩ := trodAll_two hA
  obtain ⟨rfl, rfl⟩ := trodVars_none hV
  obtain ⟨a, rfl, rfl, rfl, wa⟩ := open_int Try.underlying3 (hval 0 3 v0 rfl rfl) h0
  obtain ⟨b, rfl⟩ := okWide_bool Try.underlying4 (hval 1 4 v1 rfl rfl)
  refine (gateNil_any a b W).use fun e W' ⟨he, hT⟩ => ?_
  subst he
  exact ⟨_, rfl, post_true Try.laidOut hW' hA0 (by kernel_rfl) hT rfl (by kernel_rfl) rfl rfl⟩

theorem gateNil_holds : Rows.GateNilSaid :=
  OpenClaim.holds_of_wide 15 Try.f15 rfl rfl rfl rfl rfl rfl rfl ⟨rfl, rfl, rfl, rfl, rfl⟩ rfl rfl rfl rfl rfl (by kernel_rfl) Try.func15 (by kernel_rfl)
    (of_decide_eq_true (by kernel_rfl)) (by unfold Func.isWrapper; first | (rw [if_pos (by decide +kernel)]; kernel_rfl) | (rw [if_neg (by decide +kernel)]; exact ⟨rfl, rfl⟩))
    (fun os started H enc _ => gateNil_lifted os started H enc)
end Go.Proofs.Ytdmgbfkioghkeaa
