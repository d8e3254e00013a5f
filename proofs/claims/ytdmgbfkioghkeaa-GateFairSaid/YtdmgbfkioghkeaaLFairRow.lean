/-
  The law GateFair holds for every two scripts; no condition.
-/
import Derived.Test.YtdmgbfkioghkeaaLFair
namespace Go.Proofs.Ytdmgbfkioghkeaa
open Go.ChangeShapes Go.WideShapes Go.ChangeAt Go.RowKit Go.Ytdmgbfkioghkeaa Go.Ytdmgbfkioghkeaa.Gt Go.Ytdmgbfkioghkeaa.Reg

set_option maxRecDepth 100000 in
theorem gateFair_lifted (os : Os) (started : os.Started) (H : Type) (enc : TypeId × Value → H) :
    ReturnsInHanded {} Try.checked os 11 .any (Rows.gateFairSpec.pre6 enc Try.prog Try.f11 Rows.gateFairRow.domain false) (Rows.gateFairSpec.post enc Try.prog Try.f11 false true false false) := by
  refine returnsInHanded_of_change_sized (C := Try.checked) Try.own started (by kernel_rfl) Try.func11
    (ChangeSpec.witness6 (enc := enc) (C := Try.checked) false ⟨#[], #[.int .i64 0, .int .i64 0, .slice none 0 0, .slice none 0 0], []⟩ 8 (by kernel_rfl) (by kernel_rfl) (by kernel_rfl) (by kernel_rfl)) ?_
  intro W base args ds gs before hval0 hW _ hsz0 _
  have hsz : (DataW.weightsEach Try.prog (Try.f11.params.toList ++ Rows.gateFairSpec.plain.varTypes Try.prog) (ds ++ gs)).all (· ≤ reachBytes) = true := hsz0
  have hval : ∀ (j : Nat) t v, Try.f11.params[j]? = some t → args[j]? = some v → Value.okWide Try.prog W .any base t v := hval0
  have hW' := hW
  obtain ⟨p, q, hA0, hV, rfl, hfz, hnd⟩ := hW
  have hA : DataW.TrodAll enc Try.prog W 0 (fun _ => true) true Try.f11.params.toList args.toList ds p := hA0
  rw [Try.params11] at hA hval hsz
  obtain ⟨v0, v1, v2, v3, d0, d1, d2, d3, p0, p1, p2, p3, rfl, rfl, rfl, h0, h1, h2, h3⟩ := trodAll_four hA
  obtain ⟨rfl, rfl⟩ := trodVars_none hV
  obtain ⟨a, rfl, rfl, rfl, wa⟩ := open_int Try.underlying3 (hval 0 3 v0 rfl rfl) h0
  obtain ⟨b, rfl, rfl, rfl, wb⟩ := open_int Try.underlying3 (hval 1 3 v1 rfl rfl) h1
  obtain ⟨l, hl⟩ := script_of (hval 2 36 v2 rfl rfl) h2 hsz (j := 2) rfl rfl
  obtain ⟨m, hm⟩ := script_of (hval 3 36 v3 rfl rfl) h3 hsz (j := 3) rfl rfl
  refine (gateFair_any a b v2 v3 l m W hl hm).use fun e W' ⟨he, hT⟩ => ?_
  subst he
  exact ⟨_, rfl, post_true Try.laidOut hW' hA0 (by kernel_rfl) hT rfl (by kernel_rfl) rfl rfl⟩

theorem gateFair_holds : Rows.GateFairSaid :=
  OpenClaim.holds_of_wide 11 Try.f11 rfl rfl rfl rfl rfl rfl rfl ⟨rfl, rfl, rfl, rfl, rfl⟩ rfl rfl rfl rfl rfl (by kernel_rfl) Try.func11 (by kernel_rfl)
    (of_decide_eq_true (by kernel_rfl)) (by unfold Func.isWrapper; first | (rw [if_pos (by decide +kernel)]; kernel_rfl) | (rw [if_neg (by decide +kernel)]; exact ⟨rfl, rfl⟩))
    (fun os started H enc _ => gateFair_lifted os started H enc)
end Go.Proofs.Ytdmgbfkioghkeaa
