/-
  IndexNone, walked: no batch, nothing to read from; no condition.
-/
import Derived.Test.YtfoefmiffkkeaaaDoorNScan
namespace Go.Proofs.YtfoefmiffkkeaaaDoor
open Go.RowKit Go.Shelf Go.YtfoefmiffkkeaaaDoor Go.YtfoefmiffkkeaaaDoor.Reg

set_option maxRecDepth 100000 in
theorem insertN (c : Array Value) (w : World) : Rets Tryd.prog 4 #[.pointer none, .agg c] w fun u w' => u = .int .i64 1 ∧ Tch [] w w' := by
  unfold Rets
  go_enter Tryd.func4, Tryd.ntmps4
  go_wp2
  go_ret
  exact ⟨_, rfl, rfl, (Tch.refl [] w).alloc _⟩
set_option maxRecDepth 100000 in
theorem deleteN (c : Array Value) (w : World) : Rets Tryd.prog 5 #[.pointer none, .agg c] w fun u w' => u = .int .i64 1 ∧ Tch [] w w' := by
  unfold Rets
  go_enter Tryd.func5, Tryd.ntmps5
  go_wp2
  go_ret
  exact ⟨_, rfl, rfl, (Tch.refl [] w).alloc _⟩

set_option maxRecDepth 100000 in
set_option maxHeartbeats 1000000 in
theorem nothingN (c d : Array Value) (hc : c.size = 24) (hd : d.size = 24) (n : Int) (w : World) : Rets Tryd.prog 6 #[.nilIface, .agg c, .agg d, .int .i64 n] w fun u w' => u = .bool true ∧ Tch [] w w' := by
  have hfn : ∀ (lb : Array Value) (w : World), (binOp .eql 64 (.func (.func 42) #[] lb) .nilFunc).run Tryd.prog w = .ok (.bool false) w := fun _ _ => by rfl
  have HC := Lib.hid hc
  have HD := Lib.hid hd
  have hA := ((Tch.refl [] w).alloc (.cells c 23)).alloc (.cells d 23)
  have hB5 := (Blk.new w c 23).alloc (.cells d 23)
  have hB6 := Blk.last (w.alloc (.cells c 23)) d 23 (n := w.heap.size + 1) (by simp)
  have HA := Lib.hid hA
  have H5 := Lib.hid hB5
  have H6 := Lib.hid hB6
  clear hc hd hA hB5 hB6
  unfold Rets
  refine (callsIn_wide (n := 3)).1 ?_
  refine callsIn_of_wp_marks Tryd.func6 rfl trivial ?_ rfl
  simp only [Tryd.ntmps6, List.size_toArray, List.length_cons, List.length_nil, Nat.reduceAdd, Nat.reduceSub, Array.replicate_succ, Array.replicate_zero, List.push_toArray, List.append_toArray, List.nil_append, List.cons_append]
  refine wpIn_wide.2 ?_
  go_wp2_with (first
    | (refine wpList_load (T := 23) (v := .agg c) ?_ ?_; first | exact H5.out.load arr23 HC.out | exact (H5.out.touch hT1 (by simp)).load arr23 HC.out | exact ((H5.out.touch hT1 (by simp)).touch hT2 (by simp) |>.alloc _).load arr23 HC.out)
    | (refine wpList_load (T := 23) (v := .agg d) ?_ ?_; first | exact (H6.out.touch hT1 (by simp)).load arr23 HD.out | exact ((H6.out.touch hT1 (by simp)).touch hT2 (by simp) |>.alloc _).load arr23 HD.out)
    | (go_at_call 19; refine (hasN c _).use ?_; rintro _ w1 ⟨rfl, hT1⟩)
    | (go_at_call 20; refine (countN _).use ?_; rintro _ _ ⟨rfl, rfl⟩)
    | (go_at_call 21; refine (heightN _).use ?_; rintro _ _ ⟨rfl, rfl⟩)
    | (go_at_call 22; refine (scanN c d n _).use ?_; rintro _ w2 ⟨rfl, hT2⟩)
    | (go_at_call 23; refine (walkN c d _).use ?_; rintro _ w3 hW; obtain ⟨p1, p2, p3, rfl, hB1, hB2, hB3, hT3⟩ := hW))
  have k0 : w3.cell? ⟨w2.heap.size, 0, none⟩ = some (.int .i64 0) := ((Blk.new w2 #[.int .i64 0] 3).touch hT3 (by simp)).cell 0
  have hs3 : w2.heap.size + 1 ≤ w3.heap.size := by simpa using hT3.size
  refine (wpIn_wide (n := 3)).1 ?_
  refine wpIn_rangeFunc_none (F := Fence.wide) (n := 3) rfl (by omega) (gf := 42) (first := #[]) (lb := #[.pointer (some ⟨p1, 0, none⟩), .pointer (some ⟨p2, 0, none⟩), .pointer (some ⟨p3, 0, none⟩)]) rfl trivial (enters_of Tryd.func42 (by kernel_rfl) rfl) (S := []) (by simp)
    (Φ := fun _ => True) (fun _ _ _ _ => trivial) ?call ?done
  case call =>
    intro l' W hl hT'
    refine (callsIn_wide.2 (walkInN p1 p2 p3 l' W (hB1.touch hT' (by simp)))).mono ?_
    rintro e W' ⟨v, rfl, hT''⟩
    exact ⟨⟨_, rfl⟩, hT'', trivial⟩
  case done =>
    intro D W hD hT' _ hK
    have k1 := cell_kept hT' (by simp) k0
    go_wp2
    gi_wp2
    refine ⟨by simp, .inl ⟨_, _, rfl, run_takeDeferred hK, ?_⟩⟩
    exact ⟨_, results_tmp rfl _ _ _, ⟨_, rfl, rfl, ((((HA.out.trans hT1 (by simp)).trans hT2 (by simp)).alloc _).trans hT3 (by simp) |>.trans hT' (by simp)).putObj (by have := HA.out.size; have := hT1.size; have := hT2.size; simp at *; omega) _⟩⟩

set_option maxRecDepth 100000 in
set_option maxHeartbeats 1000000 in
theorem nothingB (c d : Array Value) (hc : c.size = 24) (hd : d.size = 24) (n : Int) (w : World) : Rets Tryd.prog 6 #[.iface 27 (.pointer none), .agg c, .agg d, .int .i64 n] w fun u w' => u = .bool true ∧ Tch [] w w' := by
  have hfn : ∀ (lb : Array Value) (w : World), (binOp .eql 64 (.func (.func 42) #[] lb) .nilFunc).run Tryd.prog w = .ok (.bool false) w := fun _ _ => by rfl
  have HC := Lib.hid hc
  have HD := Lib.hid hd
  have hA := ((Tch.refl [] w).alloc (.cells c 23)).alloc (.cells d 23)
  have hB5 := (Blk.new w c 23).alloc (.cells d 23)
  have hB6 := Blk.last (w.alloc (.cells c 23)) d 23 (n := w.heap.size + 1) (by simp)
  have HA := Lib.hid hA
  have H5 := Lib.hid hB5
  have H6 := Lib.hid hB6
  clear hc hd hA hB5 hB6
  unfold Rets
  refine (callsIn_wide (n := 3)).1 ?_
  refine callsIn_of_wp_marks Tryd.func6 rfl trivial ?_ rfl
  simp only [Tryd.ntmps6, List.size_toArray, List.length_cons, List.length_nil, Nat.reduceAdd, Nat.reduceSub, Array.replicate_succ, Array.replicate_zero, List.push_toArray, List.append_toArray, List.nil_append, List.cons_append]
  refine wpIn_wide.2 ?_
  go_wp2_with (first
    | (refine wpList_load (T := 23) (v := .agg c) ?_ ?_; first | exact H5.out.load arr23 HC.out | exact (H5.out.touch hT1 (by simp)).load arr23 HC.out | exact ((H5.out.touch hT1 (by simp)).touch hT2 (by simp) |>.alloc _).load arr23 HC.out)
    | (refine wpList_load (T := 23) (v := .agg d) ?_ ?_; first | exact (H6.out.touch hT1 (by simp)).load arr23 HD.out | exact ((H6.out.touch hT1 (by simp)).touch hT2 (by simp) |>.alloc _).load arr23 HD.out)
    | (go_at_call 19; refine (hasB c HC.out _).use ?_; rintro _ w1 ⟨rfl, hT1⟩)
    | (go_at_call 20; refine (countB _).use ?_; rintro _ _ ⟨rfl, rfl⟩)
    | (go_at_call 21; refine (heightB _).use ?_; rintro _ _ ⟨rfl, rfl⟩)
    | (go_at_call 22; refine (scanB c d HC.out HD.out n _).use ?_; rintro _ w2 ⟨rfl, hT2⟩)
    | (go_at_call 23; refine (walkB c d _).use ?_; rintro _ w3 hW; obtain ⟨p1, p2, p3, rfl, hB1, hB2, hB3, hT3⟩ := hW))
  have k0 : w3.cell? ⟨w2.heap.size, 0, none⟩ = some (.int .i64 0) := ((Blk.new w2 #[.int .i64 0] 3).touch hT3 (by simp)).cell 0
  have hs3 : w2.heap.size + 1 ≤ w3.heap.size := by simpa using hT3.size
  refine (wpIn_wide (n := 3)).1 ?_
  refine wpIn_rangeFunc_none (F := Fence.wide) (n := 3) rfl (by omega) (gf := 42) (first := #[]) (lb := #[.pointer (some ⟨p1, 0, none⟩), .pointer (some ⟨p2, 0, none⟩), .pointer (some ⟨p3, 0, none⟩)]) rfl trivial (enters_of Tryd.func42 (by kernel_rfl) rfl) (S := []) (by simp)
    (Φ := fun _ => True) (fun _ _ _ _ => trivial) ?call ?done
  case call =>
    intro l' W hl hT'
    refine (callsIn_wide.2 (walkInB p1 p2 p3 l' c d W (hB1.touch hT' (by simp)) (hB2.touch hT' (by simp)) (hB3.touch hT' (by simp)) HC.out HD.out)).mono ?_
    rintro e W' ⟨v, rfl, hT''⟩
    exact ⟨⟨_, rfl⟩, hT'', trivial⟩
  case done =>
    intro D W hD hT' _ hK
    have k1 := cell_kept hT' (by simp) k0
    go_wp2
    gi_wp2
    refine ⟨by simp, .inl ⟨_, _, rfl, run_takeDeferred hK, ?_⟩⟩
    exact ⟨_, results_tmp rfl _ _ _, ⟨_, rfl, rfl, ((((HA.out.trans hT1 (by simp)).trans hT2 (by simp)).alloc _).trans hT3 (by simp) |>.trans hT' (by simp)).putObj (by have := HA.out.size; have := hT1.size; have := hT2.size; simp at *; omega) _⟩⟩

set_option maxRecDepth 100000 in
set_option maxHeartbeats 1000000 in
theorem nothingS (c d : Array Value) (hc : c.size = 24) (hd : d.size = 24) (n : Int) (w : World) : Rets Tryd.prog 6 #[.iface 26 (.pointer none), .agg c, .agg d, .int .i64 n] w fun u w' => u = .bool true ∧ Tch [] w w' := by
  have hfn : ∀ (lb : Array Value) (w : World), (binOp .eql 64 (.func (.func 42) #[] lb) .nilFunc).run Tryd.prog w = .ok (.bool false) w := fun _ _ => by rfl
  have HC := Lib.hid hc
  have HD := Lib.hid hd
  have hA := ((Tch.refl [] w).alloc (.cells c 23)).alloc (.cells d 23)
  have hB5 := (Blk.new w c 23).alloc (.cells d 23)
  have hB6 := Blk.last (w.alloc (.cells c 23)) d 23 (n := w.heap.size + 1) (by simp)
  have HA := Lib.hid hA
  have H5 := Lib.hid hB5
  have H6 := Lib.hid hB6
  clear hc hd hA hB5 hB6
  unfold Rets
  refine (callsIn_wide (n := 3)).1 ?_
  refine callsIn_of_wp_marks Tryd.func6 rfl trivial ?_ rfl
  simp only [Tryd.ntmps6, List.size_toArray, List.length_cons, List.length_nil, Nat.reduceAdd, Nat.reduceSub, Array.replicate_succ, Array.replicate_zero, List.push_toArray, List.append_toArray, List.nil_append, List.cons_append]
  refine wpIn_wide.2 ?_
  go_wp2_with (first
    | (refine wpList_load (T := 23) (v := .agg c) ?_ ?_; first | exact H5.out.load arr23 HC.out | exact (H5.out.touch hT1 (by simp)).load arr23 HC.out | exact ((H5.out.touch hT1 (by simp)).touch hT2 (by simp) |>.alloc _).load arr23 HC.out)
    | (refine wpList_load (T := 23) (v := .agg d) ?_ ?_; first | exact (H6.out.touch hT1 (by simp)).load arr23 HD.out | exact ((H6.out.touch hT1 (by simp)).touch hT2 (by simp) |>.alloc _).load arr23 HD.out)
    | (go_at_call 19; refine (hasS c HC.out _).use ?_; rintro _ w1 ⟨rfl, hT1⟩)
    | (go_at_call 20; refine (countS _).use ?_; rintro _ _ ⟨rfl, rfl⟩)
    | (go_at_call 21; refine (heightS _).use ?_; rintro _ _ ⟨rfl, rfl⟩)
    | (go_at_call 22; refine (scanS c d HC.out HD.out n _).use ?_; rintro _ w2 ⟨rfl, hT2⟩)
    | (go_at_call 23; refine (walkS c d _).use ?_; rintro _ w3 hW; obtain ⟨p1, p2, p3, rfl, hB1, hB2, hB3, hT3⟩ := hW))
  have k0 : w3.cell? ⟨w2.heap.size, 0, none⟩ = some (.int .i64 0) := ((Blk.new w2 #[.int .i64 0] 3).touch hT3 (by simp)).cell 0
  have hs3 : w2.heap.size + 1 ≤ w3.heap.size := by simpa using hT3.size
  refine (wpIn_wide (n := 3)).1 ?_
  refine wpIn_rangeFunc_none (F := Fence.wide) (n := 3) rfl (by omega) (gf := 42) (first := #[]) (lb := #[.pointer (some ⟨p1, 0, none⟩), .pointer (some ⟨p2, 0, none⟩), .pointer (some ⟨p3, 0, none⟩)]) rfl trivial (enters_of Tryd.func42 (by kernel_rfl) rfl) (S := []) (by simp)
    (Φ := fun _ => True) (fun _ _ _ _ => trivial) ?call ?done
  case call =>
    intro l' W hl hT'
    refine (callsIn_wide.2 (walkInS p1 p2 p3 l' c d W (hB1.touch hT' (by simp)) (hB2.touch hT' (by simp)) (hB3.touch hT' (by simp)) HC.out HD.out)).mono ?_
    rintro e W' ⟨v, rfl, hT''⟩
    exact ⟨⟨_, rfl⟩, hT'', trivial⟩
  case done =>
    intro D W hD hT' _ hK
    have k1 := cell_kept hT' (by simp) k0
    go_wp2
    gi_wp2
    refine ⟨by simp, .inl ⟨_, _, rfl, run_takeDeferred hK, ?_⟩⟩
    exact ⟨_, results_tmp rfl _ _ _, ⟨_, rfl, rfl, ((((HA.out.trans hT1 (by simp)).trans hT2 (by simp)).alloc _).trans hT3 (by simp) |>.trans hT' (by simp)).putObj (by have := HA.out.size; have := hT1.size; have := hT2.size; simp at *; omega) _⟩⟩

set_option maxRecDepth 100000 in
set_option maxHeartbeats 1000000 in
theorem indexNone_any (c d : Array Value) (hc : c.size = 24) (hd : d.size = 24) (n : Int) (w : World) : Rets Tryd.prog 3 #[.agg c, .agg d, .int .i64 n] w fun u w' => u = .bool true ∧ Tch [] w w' := by
  have HC := Lib.hid hc
  have HD := Lib.hid hd
  have hA := ((Tch.refl [] w).alloc (.cells c 23)).alloc (.cells d 23)
  have hB5 := (Blk.new w c 23).alloc (.cells d 23)
  have hB6 := Blk.last (w.alloc (.cells c 23)) d 23 (n := w.heap.size + 1) (by simp)
  have HA := Lib.hid hA
  have H5 := Lib.hid hB5
  have H6 := Lib.hid hB6
  clear hc hd hA hB5 hB6
  unfold Rets
  go_enter Tryd.func3, Tryd.ntmps3
  go_wp2_with (first
    | (refine wpList_load_on (T := 23) (v := .agg c) (by kernel_rfl) ?_ ?_; first | exact (H5.out.touch hT4 (by simp)).load arr23 HC.out | exact (H5.out.touch hT3 (by simp)).load arr23 HC.out | exact (H5.out.touch hT2 (by simp)).load arr23 HC.out | exact (H5.out.touch hT1 (by simp)).load arr23 HC.out | exact H5.out.load arr23 HC.out)
    | (refine wpList_load_on (T := 23) (v := .agg d) (by kernel_rfl) ?_ ?_; first | exact (H6.out.touch hT4 (by simp)).load arr23 HD.out | exact (H6.out.touch hT3 (by simp)).load arr23 HD.out | exact (H6.out.touch hT2 (by simp)).load arr23 HD.out)
    | (go_at_call 4; refine (insertN c _).use ?_; rintro _ w1 ⟨rfl, hU1⟩; have hT1 := hU1)
    | (go_at_call 5; refine (deleteN c _).use ?_; rintro _ w2 ⟨rfl, hU2⟩; have hT2 := hT1.trans hU2 (by simp))
    | (go_at_call 6; have hT4' := hT4; refine (nothingB c d HC.out HD.out n _).use ?_; rintro _ w5 ⟨rfl, hU5⟩; have hT5 := hT4'.trans hU5 (by simp))
    | (go_at_call 6; have hT3' := hT3; refine (nothingS c d HC.out HD.out n _).use ?_; rintro _ w4 ⟨rfl, hU4⟩; have hT4 := hT3'.trans hU4 (by simp))
    | (go_at_call 6; refine (nothingN c d HC.out HD.out n _).use ?_; rintro _ w3 ⟨rfl, hU3⟩; have hT3 := hT2.trans hU3 (by simp)))
  go_ret
  exact ⟨_, rfl, rfl, HA.out.trans hT5 (by simp)⟩
end Go.Proofs.YtfoefmiffkkeaaaDoor
