/-
  IndexNone: Has and its way where there is nothing to read from.
-/
import Derived.Test.YtfoefmiffkkeaaaDoorNNum
import Derived.Test.YtfoefmiffkkeaaaDoorArr
import Derived.Lib.Hide
namespace Go.Proofs.YtfoefmiffkkeaaaDoor
open Go.RowKit Go.YtfoefmiffkkeaaaDoor

theorem arr23 : ArrAt Tryd.prog 23 24 := ⟨⟨_, (by kernel_rfl : Tryd.prog.underlying 23 = some (.array 24 5)), rfl⟩, by kernel_rfl⟩
theorem key_new {c : Array Value} (hc : c.size = 24) (w : World) : (Instr.loadAt 23 (.pointer (some ⟨w.heap.size, 0, none⟩))).run Tryd.prog (w.alloc (.cells c 23)) = .ok (.agg c) (w.alloc (.cells c 23)) :=
  (Blk.new w c 23).load arr23 hc

set_option maxRecDepth 100000 in
theorem hasN (c : Array Value) (w : World) : Rets Tryd.prog 19 #[.nilIface, .agg c] w fun u w' => u = .tuple #[.bool false, .int .i64 1] ∧ Tch [] w w' := by
  unfold Rets
  go_enter Tryd.func19, Tryd.ntmps19
  go_wp2
  go_ret2
  exact ⟨_, rfl, rfl, (Tch.refl [] w).alloc _⟩

set_option maxRecDepth 100000 in
theorem wayB (c : Array Value) (w : World) : Rets Tryd.prog 7 #[.iface 27 (.pointer none), .agg c] w fun u w' => u = .tuple #[.slice none 0 0, .int .i64 1] ∧ Tch [] w w' := by
  unfold Rets
  go_enter Tryd.func7, Tryd.ntmps7
  go_wp2_with (go_at_call 24; refine (numbersB _).use ?_; rintro _ w1 ⟨rfl, rfl⟩)
  go_ret2
  exact ⟨_, rfl, rfl, (Tch.refl [] w).alloc _⟩
set_option maxRecDepth 100000 in
theorem hasB (c : Array Value) (hc : c.size = 24) (w : World) : Rets Tryd.prog 19 #[.iface 27 (.pointer none), .agg c] w fun u w' => u = .tuple #[.bool false, .int .i64 1] ∧ Tch [] w w' := by
  unfold Rets
  have hn : ∀ w : World, (binOp .eql 56 (.iface 27 (.pointer none)) .nilIface).run Tryd.prog w = .ok (.bool false) w := fun _ => by rfl
  have HC := Lib.hid hc
  clear hc
  go_enter Tryd.func19, Tryd.ntmps19
  go_wp2_with (first
    | (refine wpList_load (T := 23) (v := .agg c) ?_ ?_; exact key_new HC.out w)
    | (go_at_call 7; refine (wayB c _).use ?_; rintro _ w1 ⟨rfl, hT⟩))
  go_ret2
  exact ⟨_, rfl, rfl, ((Tch.refl [] w).alloc _).trans hT (by simp)⟩

set_option maxRecDepth 100000 in
theorem wayS (c : Array Value) (w : World) : Rets Tryd.prog 7 #[.iface 26 (.pointer none), .agg c] w fun u w' => u = .tuple #[.slice none 0 0, .int .i64 1] ∧ Tch [] w w' := by
  unfold Rets
  go_enter Tryd.func7, Tryd.ntmps7
  go_wp2_with (go_at_call 24; refine (numbersS _).use ?_; rintro _ w1 ⟨rfl, rfl⟩)
  go_ret2
  exact ⟨_, rfl, rfl, (Tch.refl [] w).alloc _⟩
set_option maxRecDepth 100000 in
theorem hasS (c : Array Value) (hc : c.size = 24) (w : World) : Rets Tryd.prog 19 #[.iface 26 (.pointer none), .agg c] w fun u w' => u = .tuple #[.bool false, .int .i64 1] ∧ Tch [] w w' := by
  unfold Rets
  have hn : ∀ w : World, (binOp .eql 56 (.iface 26 (.pointer none)) .nilIface).run Tryd.prog w = .ok (.bool false) w := fun _ => by rfl
  have HC := Lib.hid hc
  clear hc
  go_enter Tryd.func19, Tryd.ntmps19
  go_wp2_with (first
    | (refine wpList_load (T := 23) (v := .agg c) ?_ ?_; exact key_new HC.out w)
    | (go_at_call 7; refine (wayS c _).use ?_; rintro _ w1 ⟨rfl, hT⟩))
  go_ret2
  exact ⟨_, rfl, rfl, ((Tch.refl [] w).alloc _).trans hT (by simp)⟩
end Go.Proofs.YtfoefmiffkkeaaaDoor
