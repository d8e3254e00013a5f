/-
  Of no program. A whole array by value, out of a block and into one, as one step of a walk.
-/
import Derived.Test.YtfoefmiffkkeaaaDoorTab
import Derived.Deep.WholeRow
import Derived.Deep.MidRow
namespace Go.YtfoefmiffkkeaaaDoor
open Go Go.RowKit

section
variable {P : Program} {ops : Array Oper} {Q : Exit → Act → World → Prop} {rest : List Oper} {a : Act} {w w' : World}

theorem wpList_load {d : Option Nat} {p : Operand} {T ty : TypeId} {s : String} {af : Array Edge} {v : Value} (h : (Instr.loadAt T (a.eval p)).run P w = .ok v w)
    (hk : wpList P ops Q rest (a.put d v) w) : wpList P ops Q ({ dst := d, op := .load T p, type := ty, pos := s, after := af, guard := none } :: rest) a w := by
  refine wpList_plain rfl fun _ hK => ?_
  have hr : (execOp a.eval { dst := d, op := .load T p, type := ty, pos := s, after := af, guard := none }).run P w = .ok (.value v) w := by
    simp only [execOp, Sem.run_bind, Sem.run_pure, Result.andThen_ok, h]
  unfold Oper.wp
  rw [hr]
  exact hK _ _ hk

/-- Where the guard lets it be carried out. -/
theorem wpList_load_on {d : Option Nat} {p : Operand} {T ty : TypeId} {s : String} {af : Array Edge} {g : Option (Nat × Bool)} {v : Value}
    (hw : Region.wanted { dst := d, op := .load T p, type := ty, pos := s, after := af, guard := g } (yielded ops a.tmps) = true) (h : (Instr.loadAt T (a.eval p)).run P w = .ok v w)
    (hk : wpList P ops Q rest (a.put d v) w) : wpList P ops Q ({ dst := d, op := .load T p, type := ty, pos := s, after := af, guard := g } :: rest) a w := by
  refine wpList_step fun _ hK => ?_
  rw [if_pos hw]
  have hr : (execOp a.eval { dst := d, op := .load T p, type := ty, pos := s, after := af, guard := g }).run P w = .ok (.value v) w := by
    simp only [execOp, Sem.run_bind, Sem.run_pure, Result.andThen_ok, h]
  unfold Oper.wp
  rw [hr]
  exact hK _ _ hk

theorem wpList_store {d : Option Nat} {p x : Operand} {T ty : TypeId} {s : String} {af : Array Edge} (h : (Instr.storeAt T (a.eval p) (a.eval x)).run P w = .ok () w')
    (hk : wpList P ops Q rest (a.put d undef) w') : wpList P ops Q ({ dst := d, op := .store T p x, type := ty, pos := s, after := af, guard := none } :: rest) a w := by
  refine wpList_plain rfl fun _ hK => ?_
  have hr : (execOp a.eval { dst := d, op := .store T p x, type := ty, pos := s, after := af, guard := none }).run P w = .ok .skip w' := by
    simp only [execOp, Sem.run_bind, Sem.run_pure, Result.andThen_ok, h]
  unfold Oper.wp
  rw [hr]
  exact hK _ _ hk

/-- A type of arrays: its size. -/
structure ArrAt (P : Program) (T : TypeId) (n : Nat) : Prop where
  under : ∃ d, P.underlying T = some d ∧ TypeDesc.isRow d = true
  size : (P.info? T).map (·.size) = some n

theorem load_range {w : World} {b o : Nat} {c : Array Value} {T : TypeId} {n : Nat} (hT : ArrAt P T n) (hc : c.size = n) (h : w.rangeAt b o c.toList) :
    (Instr.loadAt T (.pointer (some ⟨b, o, none⟩))).run P w = .ok (.agg c) w := by
  obtain ⟨d, h1, h2⟩ := hT.under
  have := run_loadAt_mid (P := P) w b o T c.toList d h h1 h2 (by rw [hT.size, Array.length_toList, hc])
  simpa using this

theorem Blk.range {w : World} {b : Nat} {c : Array Value} {t : TypeId} (h : Blk w b c t) : w.rangeAt b 0 c.toList := fun j v hv => by
  rw [Nat.zero_add, h.cell]
  simpa using hv
theorem Blk.load {w : World} {b : Nat} {c : Array Value} {t : TypeId} {n : Nat} (h : Blk w b c t) {T : TypeId} (hT : ArrAt P T n) (hc : c.size = n) :
    (Instr.loadAt T (.pointer (some ⟨b, 0, none⟩))).run P w = .ok (.agg c) w := load_range hT hc h.range
end
end Go.YtfoefmiffkkeaaaDoor
