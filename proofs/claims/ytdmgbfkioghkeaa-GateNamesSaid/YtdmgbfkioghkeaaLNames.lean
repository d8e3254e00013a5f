/-
  The law GateNames holds: New(16, 64) answers a gate and no error; no condition.
-/
import Derived.Test.YtdmgbfkioghkeaaLPost
import Derived.Test.YtdmgbfkioghkeaaGStat
namespace Go.Proofs.Ytdmgbfkioghkeaa
open Go.ChangeShapes Go.WideShapes Go.ChangeAt Go.RowKit Go.Ytdmgbfkioghkeaa Go.Ytdmgbfkioghkeaa.Gt Go.Ytdmgbfkioghkeaa.Reg

theorem gateNames_any (w : World) : Rets Try.prog 3 #[] w fun u w' => u = .bool true ∧ Tch [] w w' := by
  unfold Rets
  go_enter Try.func3, Try.ntmps3
  go_wp2_with (go_at_call 16; refine (new_yes 16 64 _ (by omega) (by omega) (by omega) (by omega)).use ?_; rintro _ w1 hN; obtain ⟨b, F, rfl, hg, hT, hF⟩ := hN)
  go_ret
  exact ⟨_, rfl, rfl, hT⟩

set_option maxRecDepth 100000 in
theorem gateNames_lifted (os : Os) (started : os.Started) (H : Type) (enc : TypeId × Value → H) :
    ReturnsInHanded {} Try.checked os 3 .any (Rows.gateNamesSpec.pre6 enc Try.prog Try.f3 Rows.gateNamesRow.domain false) (Rows.gateNamesSpec.post enc Try.prog Try.f3 false true false false) := by
  refine returnsInHanded_of_change (C := Try.checked) Try.own started (by kernel_rfl) Try.func3
    (ChangeSpec.witness6 (enc := enc) (C := Try.checked) false ⟨#[], #[], []⟩ 8 (by kernel_rfl) (by kernel_rfl) (by kernel_rfl) (by kernel_rfl)) ?_
  intro W base args ds gs before hval0 hW hcnd _
  have hW' := hW
  obtain ⟨p, q, hA0, hV, rfl, hfz, hnd⟩ := hW
  have hA : DataW.TrodAll enc Try.prog W 0 (fun _ => true) true Try.f3.params.toList args.toList ds p := hA0
  rw [Try.params3] at hA
  obtain ⟨rfl, rfl, rfl⟩ := trodAll_none hA
  obtain ⟨rfl, rfl⟩ := trodVars_none hV
  refine (gateNames_any W).use fun e W' ⟨he, hT⟩ => ?_
  subst he
  exact ⟨_, rfl, post_true Try.laidOut hW' hA0 (by kernel_rfl) hT rfl (by kernel_rfl) rfl rfl⟩

theorem gateNames_holds : Rows.GateNamesSaid :=
  OpenClaim.holds_of_wide 3 Try.f3 rfl rfl rfl rfl rfl rfl rfl ⟨rfl, rfl, rfl, rfl, rfl⟩ rfl rfl rfl rfl rfl (by kernel_rfl) Try.func3 (by kernel_rfl)
    (of_decide_eq_true (by kernel_rfl)) (by unfold Func.isWrapper; first | (rw [if_pos (by decide +kernel)]; kernel_rfl) | (rw [if_neg (by decide +kernel)]; exact ⟨rfl, rfl⟩))
    (fun os started H enc _ => gateNames_lifted os started H enc)
end Go.Proofs.Ytdmgbfkioghkeaa
