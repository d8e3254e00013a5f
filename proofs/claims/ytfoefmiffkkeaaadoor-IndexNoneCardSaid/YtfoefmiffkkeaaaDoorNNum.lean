/-
  IndexNone: what is answered where there is nothing to read from: through an interface that holds a nil pointer.
-/
import Derived.Test.YtfoefmiffkkeaaaDoorRows
import Derived.Test.YtfoefmiffkkeaaaDoorTab
import Derived.WalkKit
import Derived.ProofKit
namespace Go.Proofs.YtfoefmiffkkeaaaDoor
open Go.RowKit Go.YtfoefmiffkkeaaaDoor


set_option maxRecDepth 100000 in
theorem rootB (i : Int) (w : World) : Rets Tryd.prog 9 #[.pointer none, .int .i64 i] w fun u w' => u = .tuple #[.int .i64 0, .int .i64 1] ∧ w' = w := by
  unfold Rets
  go_enter Tryd.func9, Tryd.ntmps9
  go_wp2
  go_ret2
  exact ⟨_, rfl, rfl, rfl⟩
theorem methB (w : World) : (method 289 27 (.pointer none) "Root").run Tryd.prog w = .ok (9, .pointer none) w := by kernel_rfl

set_option maxRecDepth 100000 in
theorem numbersB (w : World) : Rets Tryd.prog 24 #[.iface 27 (.pointer none)] w fun u w' => u = .tuple #[.int .i64 0, .int .i64 0, .int .i64 1] ∧ w' = w := by
  unfold Rets
  have hm := methB
  go_enter Tryd.func24, Tryd.ntmps24
  go_wp2_with (go_at_call 9; refine (rootB 0 _).use ?_; rintro _ w1 ⟨rfl, rfl⟩)
  go_ret3
  exact ⟨_, rfl, rfl, rfl⟩

set_option maxRecDepth 100000 in
theorem countB (w : World) : Rets Tryd.prog 20 #[.iface 27 (.pointer none)] w fun u w' => u = .tuple #[.int .i64 0, .int .i64 1] ∧ w' = w := by
  unfold Rets
  have hm := methB
  have hn : ∀ w : World, (binOp .eql 56 (.iface 27 (.pointer none)) .nilIface).run Tryd.prog w = .ok (.bool false) w := fun _ => by rfl
  go_enter Tryd.func20, Tryd.ntmps20
  go_wp2_with (go_at_call 9; refine (rootB 1 _).use ?_; rintro _ w1 ⟨rfl, rfl⟩)
  go_ret2
  exact ⟨_, rfl, rfl, rfl⟩
set_option maxRecDepth 100000 in
theorem heightB (w : World) : Rets Tryd.prog 21 #[.iface 27 (.pointer none)] w fun u w' => u = .tuple #[.int .i64 0, .int .i64 1] ∧ w' = w := by
  unfold Rets
  have hm := methB
  have hn : ∀ w : World, (binOp .eql 56 (.iface 27 (.pointer none)) .nilIface).run Tryd.prog w = .ok (.bool false) w := fun _ => by rfl
  go_enter Tryd.func21, Tryd.ntmps21
  go_wp2_with (go_at_call 9; refine (rootB 2 _).use ?_; rintro _ w1 ⟨rfl, rfl⟩)
  go_ret2
  exact ⟨_, rfl, rfl, rfl⟩

set_option maxRecDepth 100000 in
theorem rootS (i : Int) (w : World) : Rets Tryd.prog 99 #[.pointer none, .int .i64 i] w fun u w' => u = .tuple #[.int .i64 0, .int .i64 1] ∧ w' = w := by
  unfold Rets
  go_enter Tryd.func99, Tryd.ntmps99
  go_wp2
  go_ret2
  exact ⟨_, rfl, rfl, rfl⟩
theorem methS (w : World) : (method 289 26 (.pointer none) "Root").run Tryd.prog w = .ok (99, .pointer none) w := by kernel_rfl

set_option maxRecDepth 100000 in
theorem numbersS (w : World) : Rets Tryd.prog 24 #[.iface 26 (.pointer none)] w fun u w' => u = .tuple #[.int .i64 0, .int .i64 0, .int .i64 1] ∧ w' = w := by
  unfold Rets
  have hm := methS
  go_enter Tryd.func24, Tryd.ntmps24
  go_wp2_with (go_at_call 99; refine (rootS 0 _).use ?_; rintro _ w1 ⟨rfl, rfl⟩)
  go_ret3
  exact ⟨_, rfl, rfl, rfl⟩

set_option maxRecDepth 100000 in
theorem countS (w : World) : Rets Tryd.prog 20 #[.iface 26 (.pointer none)] w fun u w' => u = .tuple #[.int .i64 0, .int .i64 1] ∧ w' = w := by
  unfold Rets
  have hm := methS
  have hn : ∀ w : World, (binOp .eql 56 (.iface 26 (.pointer none)) .nilIface).run Tryd.prog w = .ok (.bool false) w := fun _ => by rfl
  go_enter Tryd.func20, Tryd.ntmps20
  go_wp2_with (go_at_call 99; refine (rootS 1 _).use ?_; rintro _ w1 ⟨rfl, rfl⟩)
  go_ret2
  exact ⟨_, rfl, rfl, rfl⟩
set_option maxRecDepth 100000 in
theorem heightS (w : World) : Rets Tryd.prog 21 #[.iface 26 (.pointer none)] w fun u w' => u = .tuple #[.int .i64 0, .int .i64 1] ∧ w' = w := by
  unfold Rets
  have hm := methS
  have hn : ∀ w : World, (binOp .eql 56 (.iface 26 (.pointer none)) .nilIface).run Tryd.prog w = .ok (.bool false) w := fun _ => by rfl
  go_enter Tryd.func21, Tryd.ntmps21
  go_wp2_with (go_at_call 99; refine (rootS 2 _).use ?_; rintro _ w1 ⟨rfl, rfl⟩)
  go_ret2
  exact ⟨_, rfl, rfl, rfl⟩

set_option maxRecDepth 100000 in
theorem countN (w : World) : Rets Tryd.prog 20 #[.nilIface] w fun u w' => u = .tuple #[.int .i64 0, .int .i64 1] ∧ w' = w := by
  unfold Rets
  go_enter Tryd.func20, Tryd.ntmps20
  go_wp2
  go_ret2
  exact ⟨_, rfl, rfl, rfl⟩
set_option maxRecDepth 100000 in
theorem heightN (w : World) : Rets Tryd.prog 21 #[.nilIface] w fun u w' => u = .tuple #[.int .i64 0, .int .i64 1] ∧ w' = w := by
  unfold Rets
  go_enter Tryd.func21, Tryd.ntmps21
  go_wp2
  go_ret2
  exact ⟨_, rfl, rfl, rfl⟩

end Go.Proofs.YtfoefmiffkkeaaaDoor
