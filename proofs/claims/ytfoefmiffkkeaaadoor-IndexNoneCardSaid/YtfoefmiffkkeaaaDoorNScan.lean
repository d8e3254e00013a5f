/-
  IndexNone: Scan and Walk where there is nothing to read from.
-/
import Derived.Test.YtfoefmiffkkeaaaDoorNSpan
namespace Go.Proofs.YtfoefmiffkkeaaaDoor
open Go.RowKit Go.Shelf Go.YtfoefmiffkkeaaaDoor Go.YtfoefmiffkkeaaaDoor.Reg

/-- What Walk hands out: its iterator over three boxes of its own. -/
def WalkPost (w : World) (r : Value) (c d : Array Value) (u : Value) (w' : World) : Prop :=
  ∃ p1 p2 p3 : Nat, u = .func (.func 42) #[] #[.pointer (some ⟨p1, 0, none⟩), .pointer (some ⟨p2, 0, none⟩), .pointer (some ⟨p3, 0, none⟩)] ∧
    Blk w' p1 #[r] 56 ∧ Blk w' p2 c 23 ∧ Blk w' p3 d 23 ∧ Tch [] w w'

set_option maxRecDepth 100000 in
theorem scanN (c d : Array Value) (n : Int) (w : World) : Rets Tryd.prog 22 #[.nilIface, .agg c, .agg d, .int .i64 n] w fun u w' => u = .tuple #[.slice none 0 0, .int .i64 1] ∧ Tch [] w w' := by
  unfold Rets
  go_enter Tryd.func22, Tryd.ntmps22
  go_wp2
  go_ret2
  exact ⟨_, rfl, rfl, (((Tch.refl [] w).alloc _).alloc _).alloc _⟩

set_option maxRecDepth 100000 in
theorem walkInN (p1 p2 p3 l : Nat) (w : World) (h1 : Blk w p1 #[.nilIface] 56) :
    Rets Tryd.prog 42 #[.func (.yield l) #[] #[], .pointer (some ⟨p1, 0, none⟩), .pointer (some ⟨p2, 0, none⟩), .pointer (some ⟨p3, 0, none⟩)] w fun _ w' => Tch [] w w' := by
  have k1 : w.cell? ⟨p1, 0, none⟩ = some .nilIface := h1.cell 0
  have l1 := h1.lt
  unfold Rets
  go_enter Tryd.func42, Tryd.ntmps42
  go_wp2
  refine bodyPost_ret (results_none rfl _ _ _) rfl ?_
  exact ⟨_, rfl, (Tch.refl [] w).alloc _⟩

set_option maxRecDepth 100000 in
theorem walkN (c d : Array Value) (w : World) : Rets Tryd.prog 23 #[.nilIface, .agg c, .agg d] w (WalkPost w (.nilIface) c d) := by
  unfold Rets
  have hmf : ∀ (fn : Fn) (first cap : Array Value) (w : World), (Instr.makeFunc fn first cap).run Tryd.prog w = .ok (.func fn first cap) w := fun _ _ _ _ => rfl
  go_enter Tryd.func23, Tryd.ntmps23
  go_wp2
  go_ret
  exact ⟨_, rfl, _, _, _, rfl, ((Blk.new w _ _).alloc _).alloc _, (Blk.last _ c 23 (by simp)).alloc _, Blk.last _ d 23 (by simp), (((Tch.refl [] w).alloc _).alloc _).alloc _⟩

set_option maxRecDepth 100000 in
theorem walkB (c d : Array Value) (w : World) : Rets Tryd.prog 23 #[.iface 27 (.pointer none), .agg c, .agg d] w (WalkPost w (.iface 27 (.pointer none)) c d) := by
  unfold Rets
  have hmf : ∀ (fn : Fn) (first cap : Array Value) (w : World), (Instr.makeFunc fn first cap).run Tryd.prog w = .ok (.func fn first cap) w := fun _ _ _ _ => rfl
  go_enter Tryd.func23, Tryd.ntmps23
  go_wp2
  go_ret
  exact ⟨_, rfl, _, _, _, rfl, ((Blk.new w _ _).alloc _).alloc _, (Blk.last _ c 23 (by simp)).alloc _, Blk.last _ d 23 (by simp), (((Tch.refl [] w).alloc _).alloc _).alloc _⟩

set_option maxRecDepth 100000 in
theorem walkS (c d : Array Value) (w : World) : Rets Tryd.prog 23 #[.iface 26 (.pointer none), .agg c, .agg d] w (WalkPost w (.iface 26 (.pointer none)) c d) := by
  unfold Rets
  have hmf : ∀ (fn : Fn) (first cap : Array Value) (w : World), (Instr.makeFunc fn first cap).run Tryd.prog w = .ok (.func fn first cap) w := fun _ _ _ _ => rfl
  go_enter Tryd.func23, Tryd.ntmps23
  go_wp2
  go_ret
  exact ⟨_, rfl, _, _, _, rfl, ((Blk.new w _ _).alloc _).alloc _, (Blk.last _ c 23 (by simp)).alloc _, Blk.last _ d 23 (by simp), (((Tch.refl [] w).alloc _).alloc _).alloc _⟩

set_option maxRecDepth 100000 in
theorem scanB (c d : Array Value) (hc : c.size = 24) (hd : d.size = 24) (n : Int) (w : World) : Rets Tryd.prog 22 #[.iface 27 (.pointer none), .agg c, .agg d, .int .i64 n] w fun u w' => u = .tuple #[.slice none 0 0, .int .i64 1] ∧ Tch [] w w' := by
  have hn : ∀ w : World, (binOp .eql 56 (.iface 27 (.pointer none)) .nilIface).run Tryd.prog w = .ok (.bool false) w := fun _ => by rfl
  by_cases h0 : n < 0
  · have d0 : decide (n < 0) = true := by simpa using h0
    unfold Rets
    go_enter Tryd.func22, Tryd.ntmps22
    go_wp2
    go_ret2
    exact ⟨_, rfl, rfl, (((Tch.refl [] w).alloc _).alloc _).alloc _⟩
  have d0 : decide (n < 0) = false := by simpa using h0
  by_cases h1 : n = 0
  · subst h1
    unfold Rets
    go_enter Tryd.func22, Tryd.ntmps22
    go_wp2_with (go_at_call 24; refine (numbersB _).use ?_; rintro _ w1 ⟨rfl, hw⟩; subst hw)
    go_ret2
    exact ⟨_, rfl, rfl, (((Tch.refl [] w).alloc _).alloc _).alloc _⟩
  have d1 : (n == 0) = false := by simpa using h1
  obtain ⟨cells, hbd, hs0, hs49⟩ := span_built 27 c d hc hd
  have hmf : ∀ (fn : Fn) (first cap : Array Value) (w : World), (Instr.makeFunc fn first cap).run Tryd.prog w = .ok (.func fn first cap) w := fun _ _ _ _ => rfl
  have HC := Lib.hid hc
  have HD := Lib.hid hd
  have HBD := Lib.hid hbd
  have HS0 := Lib.hid hs0
  have HS49 := Lib.hid hs49
  clear hc hd hbd hs0 hs49 h0 h1
  unfold Rets
  refine (callsIn_wide (n := 3)).1 ?_
  refine callsIn_of_wp_marks Tryd.func22 rfl trivial ?_ rfl
  simp only [Tryd.ntmps22, List.size_toArray, List.length_cons, List.length_nil, Nat.reduceAdd, Nat.reduceSub, Array.replicate_succ, Array.replicate_zero, List.push_toArray, List.append_toArray, List.nil_append, List.cons_append]
  gi_wp2_with (first
    | (refine wpListIn_load (T := 23) (v := .agg c) ?_ ?_; exact (((Blk.new w c 23).alloc _).alloc _).load arr23 HC.out)
    | (refine wpListIn_load (T := 23) (v := .agg d) ?_ ?_; exact ((Blk.last _ d 23 (by simp)).alloc _).load arr23 HD.out)
    | (refine wpListIn_build (T := 92) (v := .agg cells) ?_ ?_; (simp only [List.map_toArray, List.map_cons, List.map_nil]; exact HBD.out _)))
  refine wpIn_rangeFunc_none (F := Fence.wide) rfl (by omega) (gf := 41) (first := #[.pointer (some ⟨w.heap.size + 3, 0, none⟩)]) (lb := #[]) rfl trivial (enters_of Tryd.func41 (by kernel_rfl) rfl) (S := [w.heap.size + 3]) (by simp)
    (Φ := fun W => W.cell? ⟨w.heap.size + 3, 49, none⟩ = some (.int .i64 1)) ?keep ?call ?done
  case keep => exact fun W W' hk h => (World.cell?_of_block (hk _ (by simp))).trans h
  case call =>
    intro l' W hl hT
    have hB : Blk W (w.heap.size + 3) cells 92 := ((Blk.last _ cells 92 (by simp)).alloc _).touch hT (by simp)
    refine (callsIn_wide.2 (allB (w.heap.size + 3) (.func (.yield l') #[] #[]) cells _ W hB HS0.out HS49.out)).mono ?_
    rintro e W' ⟨v, rfl, hT', hc⟩
    exact ⟨⟨_, rfl⟩, hT', hc⟩
  case done =>
    intro D W hD hT hc hK
    gi_wp2
    refine wpIn_wide.2 ?_
    refine wp_region_text (by kernel_rfl) (by kernel_rfl) ?_
    go_wp2
    refine ⟨by kernel_rfl, ?_⟩
    go_wp2
    gi_wp2
    refine ⟨by simp, .inl ⟨_, _, rfl, run_takeDeferred (w := W.drew) hK, ?_⟩⟩
    have hT5 : Tch [] w W := ((((((Tch.refl [] w).alloc _).alloc _).alloc _).alloc _).alloc _).trans hT (fun x hx => .inr (by simp at hx; omega))
    exact ⟨_, results_tmp2 rfl _ _ _, ⟨_, rfl, rfl, hT5.drew.putObj (by simp at hD; omega) _⟩⟩

set_option maxRecDepth 100000 in
theorem scanS (c d : Array Value) (hc : c.size = 24) (hd : d.size = 24) (n : Int) (w : World) : Rets Tryd.prog 22 #[.iface 26 (.pointer none), .agg c, .agg d, .int .i64 n] w fun u w' => u = .tuple #[.slice none 0 0, .int .i64 1] ∧ Tch [] w w' := by
  have hn : ∀ w : World, (binOp .eql 56 (.iface 26 (.pointer none)) .nilIface).run Tryd.prog w = .ok (.bool false) w := fun _ => by rfl
  by_cases h0 : n < 0
  · have d0 : decide (n < 0) = true := by simpa using h0
    unfold Rets
    go_enter Tryd.func22, Tryd.ntmps22
    go_wp2
    go_ret2
    exact ⟨_, rfl, rfl, (((Tch.refl [] w).alloc _).alloc _).alloc _⟩
  have d0 : decide (n < 0) = false := by simpa using h0
  by_cases h1 : n = 0
  · subst h1
    unfold Rets
    go_enter Tryd.func22, Tryd.ntmps22
    go_wp2_with (go_at_call 24; refine (numbersS _).use ?_; rintro _ w1 ⟨rfl, hw⟩; subst hw)
    go_ret2
    exact ⟨_, rfl, rfl, (((Tch.refl [] w).alloc _).alloc _).alloc _⟩
  have d1 : (n == 0) = false := by simpa using h1
  obtain ⟨cells, hbd, hs0, hs49⟩ := span_built 26 c d hc hd
  have hmf : ∀ (fn : Fn) (first cap : Array Value) (w : World), (Instr.makeFunc fn first cap).run Tryd.prog w = .ok (.func fn first cap) w := fun _ _ _ _ => rfl
  have HC := Lib.hid hc
  have HD := Lib.hid hd
  have HBD := Lib.hid hbd
  have HS0 := Lib.hid hs0
  have HS49 := Lib.hid hs49
  clear hc hd hbd hs0 hs49 h0 h1
  unfold Rets
  refine (callsIn_wide (n := 3)).1 ?_
  refine callsIn_of_wp_marks Tryd.func22 rfl trivial ?_ rfl
  simp only [Tryd.ntmps22, List.size_toArray, List.length_cons, List.length_nil, Nat.reduceAdd, Nat.reduceSub, Array.replicate_succ, Array.replicate_zero, List.push_toArray, List.append_toArray, List.nil_append, List.cons_append]
  gi_wp2_with (first
    | (refine wpListIn_load (T := 23) (v := .agg c) ?_ ?_; exact (((Blk.new w c 23).alloc _).alloc _).load arr23 HC.out)
    | (refine wpListIn_load (T := 23) (v := .agg d) ?_ ?_; exact ((Blk.last _ d 23 (by simp)).alloc _).load arr23 HD.out)
    | (refine wpListIn_build (T := 92) (v := .agg cells) ?_ ?_; (simp only [List.map_toArray, List.map_cons, List.map_nil]; exact HBD.out _)))
  refine wpIn_rangeFunc_none (F := Fence.wide) rfl (by omega) (gf := 41) (first := #[.pointer (some ⟨w.heap.size + 3, 0, none⟩)]) (lb := #[]) rfl trivial (enters_of Tryd.func41 (by kernel_rfl) rfl) (S := [w.heap.size + 3]) (by simp)
    (Φ := fun W => W.cell? ⟨w.heap.size + 3, 49, none⟩ = some (.int .i64 1)) ?keep ?call ?done
  case keep => exact fun W W' hk h => (World.cell?_of_block (hk _ (by simp))).trans h
  case call =>
    intro l' W hl hT
    have hB : Blk W (w.heap.size + 3) cells 92 := ((Blk.last _ cells 92 (by simp)).alloc _).touch hT (by simp)
    refine (callsIn_wide.2 (allS (w.heap.size + 3) (.func (.yield l') #[] #[]) cells _ W hB HS0.out HS49.out)).mono ?_
    rintro e W' ⟨v, rfl, hT', hc⟩
    exact ⟨⟨_, rfl⟩, hT', hc⟩
  case done =>
    intro D W hD hT hc hK
    gi_wp2
    refine wpIn_wide.2 ?_
    refine wp_region_text (by kernel_rfl) (by kernel_rfl) ?_
    go_wp2
    refine ⟨by kernel_rfl, ?_⟩
    go_wp2
    gi_wp2
    refine ⟨by simp, .inl ⟨_, _, rfl, run_takeDeferred (w := W.drew) hK, ?_⟩⟩
    have hT5 : Tch [] w W := ((((((Tch.refl [] w).alloc _).alloc _).alloc _).alloc _).alloc _).trans hT (fun x hx => .inr (by simp at hx; omega))
    exact ⟨_, results_tmp2 rfl _ _ _, ⟨_, rfl, rfl, hT5.drew.putObj (by simp at hD; omega) _⟩⟩
end Go.Proofs.YtfoefmiffkkeaaaDoor
