/-
  Of no program. A range over a function whose iterator calls no round (a method value, too).
-/
import Derived.Test.YtfoefmiffkkeaaaDoorTab
import Derived.RangeFuncNested
import Derived.RangeFuncBound
import Derived.RangeFuncCalls
import Derived.RangeFuncLeaves
import Derived.WalkKit
import Derived.OwnWalkIn
import Derived.TacticsInMore
namespace Go.YtfoefmiffkkeaaaDoor
open Go Go.RowKit

theorem Tch.putObj {S : List Nat} {a w : World} (h : Tch S a w) {l : Nat} (hl : a.heap.size ≤ l) (o : Obj) : Tch S a (w.putObj l o) :=
  ⟨h.os, h.tape, h.output, by simpa [World.putObj] using h.size, fun k hk hn => by rw [World.putObj_heap_other (by omega)]; exact h.block k hk hn⟩

theorem wpIn_rangeFunc_none {F : Fence} {n : Nat} {P : Program} {g : Operand} {ps : Array Tmp} {assign body : Code} {Q : Exit → Act → World → Prop} {a : Act} {w : World}
    (hro : F.round = none) (h1 : 1 ≤ n) {gf : Nat} {first lb : Array Value} (hg : a.eval g = .func (.func gf) first lb) (hFg : F.fn gf) (eg : ∀ args w, (callFunc gf args).run P w = .ok (.enter gf args) w)
    {S : List Nat} (hS : ∀ x ∈ S, x < w.heap.size) {Φ : World → Prop} (hΦ : ∀ W W' : World, (∀ k, k < w.heap.size → W'.heap[k]? = W.heap[k]?) → Φ W → Φ W')
    (hcall : ∀ l W, w.heap.size ≤ l → Tch [] w W → CallsIn F (n - 1) P gf (first ++ #[.func (.yield l) #[] #[]] ++ lb) W fun e W' => (∃ v, e = .returned v) ∧ Tch S W W' ∧ Φ W')
    (hdone : ∀ D W, w.heap.size ≤ D → Tch S w W → Φ W → W.heap[D]? = some (.deferred (some [])) → Q .normal { a with defers := { target := .collected D, args := #[] } :: a.defers } W) :
    (Code.rangeFunc g ps assign body).wpIn F n P Q a w := by
  refine wpIn_rangeFunc ?_
  intro fn hfn
  rw [hro]
  obtain ⟨rec, hrec⟩ : ∃ rec : LoopState → Option Code → Loop, rec = fun st pe => { state := st, pending := pe, fn, tmps := a.tmps, params := ps, assign, body, defers := w.heap.size } := ⟨_, rfl⟩
  obtain ⟨W1, hW1⟩ : ∃ W1, (w.alloc (.deferred (some []))).alloc (.loop (rec .ready none)) = W1 := ⟨_, rfl⟩
  have hL1 : W1.heap[w.heap.size + 1]? = some (.loop (rec .ready none)) := by
    rw [← hW1]; have := World.alloc_heap_new (w.alloc (.deferred (some []))) (.loop (rec .ready none)); rwa [World.size_alloc] at this
  have hK1 : W1.heap[w.heap.size]? = some (.deferred (some [])) := by
    rw [← hW1]; exact (Below.heap_alloc _ _ _ (by simp)).trans (World.alloc_heap_new w _)
  have hT1 : Tch [] w W1 := by rw [← hW1]; exact ((Tch.refl [] w).alloc _).alloc _
  have hsz1 : W1.heap.size = w.heap.size + 2 := by rw [← hW1]; simp
  refine ⟨w.heap.size + 1, [{ target := .collected w.heap.size, args := #[] }], W1, { target := .fn (.func gf) lb, args := first ++ #[.func (.yield (w.heap.size + 1)) #[] #[]] }, W1, gf,
    first ++ #[.func (.yield (w.heap.size + 1)) #[] #[]] ++ lb, W1, ?_, ?_, ?_, ?_, fun _ => h1, ?_⟩
  · rw [← hW1, hrec]; exact run_enterLoop_outer _ _ _ _ _
  · simp only [resolve, hg]
    simp [go_sem]
  · intro f' hf'; simp [Target.leads] at hf'; subst hf'; exact hFg
  · simp [invoke, go_sem, eg]
  · refine (hcall (w.heap.size + 1) W1 (by omega) hT1).mono ?_
    rintro e W2 ⟨⟨v, rfl⟩, hT2, hp⟩
    have hnS : ∀ k, w.heap.size ≤ k → k ∉ S := fun k hk hm => by have := hS k hm; omega
    have hL2 : W2.heap[w.heap.size + 1]? = some (.loop (rec .ready none)) := (hT2.block _ (by omega) (hnS _ (by omega))).trans hL1
    have hK2 : W2.heap[w.heap.size]? = some (.deferred (some [])) := (hT2.block _ (by omega) (hnS _ (by omega))).trans hK1
    have hT : Tch S w W2 := hT1.mono (by simp) |>.trans' (hT2.mono (fun x hx => .inl hx))
    refine ⟨none, _, by have := run_endLoop (P := P) hL2 (by rw [hrec]; simp); rw [hrec] at this; exact this, ?_⟩
    exact hdone _ _ (Nat.le_refl _) (hT.putObj (by omega) _) (hΦ _ _ (fun k hk => World.putObj_heap_other (by omega)) hp) ((World.putObj_heap_other (by omega)).trans hK2)

section
variable {F : Fence} {n : Nat} {P : Program} {ops : Array Oper} {Q : Exit → Act → World → Prop} {rest : List Oper} {a : Act} {w w' : World}
theorem wpListIn_load {d : Option Nat} {p : Operand} {T ty : TypeId} {s : String} {af : Array Edge} {v : Value} (h : (Instr.loadAt T (a.eval p)).run P w = .ok v w)
    (hk : wpListIn F n P ops Q rest (a.put d v) w) : wpListIn F n P ops Q ({ dst := d, op := .load T p, type := ty, pos := s, after := af, guard := none } :: rest) a w := by
  refine wpListIn_plain rfl fun _ hK => ?_
  have hr : (execOp a.eval { dst := d, op := .load T p, type := ty, pos := s, after := af, guard := none }).run P w = .ok (.value v) w := by
    simp only [execOp, Sem.run_bind, Sem.run_pure, Result.andThen_ok, h]
  refine ⟨fun f hf => ?_, ?_⟩
  · simp [Oper.about] at hf
  · rw [Oper.semAt_eq _ _ _ (fun c h => by cases h), hr]
    exact hK _ _ hk
theorem wpListIn_build {d : Option Nat} {parts : Array (Nat × Operand)} {T ty : TypeId} {s : String} {af : Array Edge} {v : Value} (h : (Instr.build T (parts.map fun (i, x) => (i, a.eval x))).run P w = .ok v w)
    (hk : wpListIn F n P ops Q rest (a.put d v) w) : wpListIn F n P ops Q ({ dst := d, op := .build T parts, type := ty, pos := s, after := af, guard := none } :: rest) a w := by
  refine wpListIn_plain rfl fun _ hK => ?_
  have hr : (execOp a.eval { dst := d, op := .build T parts, type := ty, pos := s, after := af, guard := none }).run P w = .ok (.value v) w := by
    simp only [execOp, Sem.run_bind, Sem.run_pure, Result.andThen_ok, h]
  refine ⟨fun f hf => ?_, ?_⟩
  · simp [Oper.about] at hf
  · rw [Oper.semAt_eq _ _ _ (fun c h => by cases h), hr]
    exact hK _ _ hk
end
end Go.YtfoefmiffkkeaaaDoor
