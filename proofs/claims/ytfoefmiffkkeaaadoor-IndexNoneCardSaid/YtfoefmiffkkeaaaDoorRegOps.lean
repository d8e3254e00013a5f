/-
  Of no program. Which operations touch no memory, which only load, which only make new blocks.
-/
import Derived.Test.YtfoefmiffkkeaaaDoorReg
import Derived.Laws.Sem
namespace Go.YtfoefmiffkkeaaaDoor.Reg
open Go

section
variable {α β : Type} {P : Program}
theorem plain_b {s : Sem α} {f : α → Sem β} (h : plain P s) (hf : ∀ a, plain P (f a)) : plain P (s >>= f) := plain_bind h hf
theorem loads_b {s : Sem α} {f : α → Sem β} (h : loads P s) (hf : ∀ a, loads P (f a)) : loads P (s >>= f) := loads_bind h hf
theorem news_b {s : Sem α} {f : α → Sem β} (h : news P s) (hf : ∀ a, news P (f a)) : news P (s >>= f) := news_bind h hf
theorem plain_pure (a : α) : plain P (pure a : Sem α) := trivial
theorem dead_b {s : Sem α} {f : α → Sem β} (h : dead s) : dead (s >>= f) := dead_bind h
theorem dead_b2 {s : Sem α} {f : α → Sem β} (h : ∀ a, dead (f a)) : dead (s >>= f) := by
  show dead (s.bind f)
  induction s with
  | pure a => exact h a
  | halt h' => trivial
  | _ => simp_all [Sem.bind, dead]
theorem plain_of_dead {s : Sem α} (h : dead s) : plain P s := by
  induction s with
  | pure a => exact h.elim
  | halt h' => trivial
  | program k ih => exact ih _ (h _)
  | mark m k ih => exact ih h
  | _ => exact h
theorem news_of_dead {s : Sem α} (h : dead s) : news P s := by
  induction s with
  | pure a => exact h.elim
  | halt h' => trivial
  | program k ih => exact ih _ (h _)
  | mark m k ih => exact ih h
  | new o k ih => intro r; exact ih _ (h r)
  | _ => exact h
theorem plain_news {s : Sem α} (h : plain P s) : news P s := by
  induction s with
  | pure a => trivial
  | halt h' => trivial
  | program k ih => exact ih _ h
  | mark m k ih => exact ih h
  | new o k ih => intro r; exact news_of_dead (h r)
  | _ => exact h
theorem plain_stuck (x : String) : plain P (stuck x : Sem α) := trivial
theorem plain_unsupported (x : Unsupported) : plain P (unsupported x : Sem α) := trivial
theorem plain_info (t : TypeId) : plain P (typeInfo t) := by
  refine plain_b (s := program) trivial fun p => ?_
  cases p.info? t <;> trivial
theorem plain_underlying (t : TypeId) : plain P (underlying t) := by
  refine plain_b (s := program) trivial fun p => ?_
  cases p.underlying t <;> trivial
theorem plain_und {t : TypeId} {f : TypeDesc → Sem β} (h : ∀ d, P.underlying t = some d → plain P (f d)) : plain P (underlying t >>= f) := by
  show plain P ((match P.underlying t with | some d => pure d | none => stuck "no such type" : Sem TypeDesc).bind f)
  cases hd : P.underlying t with
  | none => trivial
  | some d => exact h d hd
theorem plain_inf {t : TypeId} {f : TypeInfo → Sem β} (h : ∀ d, P.info? t = some d → plain P (f d)) : plain P (typeInfo t >>= f) := by
  show plain P ((match P.info? t with | some d => pure d | none => stuck "no such type" : Sem TypeInfo).bind f)
  cases hd : P.info? t with
  | none => trivial
  | some d => exact h d hd
theorem plain_size (t : TypeId) : plain P (sizeOf t) := plain_b (plain_info t) fun _ => trivial
theorem plain_zero (t : TypeId) : plain P (zeroValue t) := by
  refine plain_b (plain_info t) fun i => ?_
  cases i.zero <;> trivial
theorem plain_isAgg (t : TypeId) : plain P (isAgg t) := by
  refine plain_b (plain_underlying t) fun d => ?_
  cases d <;> trivial
theorem plain_part (t : TypeId) (cs : Array Value) (off : Nat) : plain P (part t cs off) := by
  refine plain_b (plain_isAgg t) fun b => ?_
  cases b
  · show plain P (match cs[off]? with | some v => pure v | none => stuck "part: no such cell")
    cases cs[off]? <;> trivial
  · exact plain_b (plain_size t) fun _ => trivial
theorem dead_goPanic (x : Value) : dead (goPanic x : Sem α) := trivial
theorem dead_runtimePanic (e : RuntimeError) : dead (runtimePanic e : Sem α) := by
  refine dead_b2 (s := program) fun p => ?_
  cases e <;> first
    | exact dead_goPanic _
    | (refine dead_b2 fun r => ?_; exact dead_goPanic _)
    | (refine dead_b2 fun r => ?_; refine dead_b2 fun r' => ?_; exact dead_goPanic _)
theorem dead_boundsPanic (k : IntKind) (x y : Int) (c : BoundsCode) : dead (boundsPanic k x y c : Sem α) := by
  unfold boundsPanic
  repeat' first
    | exact dead_runtimePanic _
    | (refine dead_b2 fun _ => ?_)
    | split
theorem plain_asIntOf (v : Value) : plain P (asIntOf v) := by
  cases v with
  | pointer a => cases a <;> trivial
  | _ => trivial
theorem plain_asInt (v : Value) : plain P (asInt v) := plain_b (plain_asIntOf v) fun _ => trivial
theorem plain_asBool (v : Value) : plain P (asBool v) := by cases v <;> trivial
theorem plain_asAgg (v : Value) : plain P (asAgg v) := by cases v <;> trivial
theorem plain_asAddr (v : Value) : plain P (asAddr v) := by
  cases v with
  | pointer a =>
    cases a with
    | some a => trivial
    | none => exact plain_of_dead (dead_runtimePanic (α := Addr) .nilDeref)
  | _ => trivial
theorem plain_sureAddr (v : Value) : plain P (Instr.sureAddr v) := by
  cases v with
  | pointer a => cases a <;> trivial
  | _ => trivial
theorem plain_sliceBound (x : Value) (y : Nat) (c : BoundsCode) : plain P (Instr.sliceBound x y c) := by
  refine plain_b (plain_asIntOf x) fun r => ?_
  show plain P (if 0 ≤ r.2 ∧ r.2 ≤ y then pure r.2.toNat else boundsPanic r.1 r.2 y c)
  split
  · trivial
  · exact plain_of_dead (dead_boundsPanic _ _ _ _)
theorem plain_sliceBounds (b : Bool) (l c : Nat) (lo hi mx : Option Value) : plain P (Instr.sliceBounds b l c lo hi mx) := by
  unfold Instr.sliceBounds
  cases mx <;> cases hi <;> cases lo <;> simp only [] <;>
  repeat' first
    | exact plain_sliceBound _ _ _
    | exact plain_pure _
    | exact plain_stuck _
    | (refine plain_b ?_ fun _ => ?_)
theorem plain_slice (t : TypeId) (x : Value) (lo hi mx : Option Value) : plain P (Instr.slice t x lo hi mx) := by
  unfold Instr.slice
  refine plain_b (plain_underlying t) fun d => ?_
  split
  · split
    · trivial
    · exact plain_b (plain_sliceBounds _ _ _ _ _ _) fun _ => trivial
  · exact plain_b (plain_sliceBounds _ _ _ _ _ _) fun _ => plain_b (plain_size _) fun _ => trivial
  · refine plain_b (plain_asAddr _) fun a => plain_b (plain_underlying _) fun e => ?_
    split
    · exact plain_b (plain_sliceBounds _ _ _ _ _ _) fun _ => plain_b (plain_size _) fun _ => trivial
    · trivial
  · trivial
theorem plain_sliceAt (t : TypeId) (x : Value) (lo hi mx : Option Value) : plain P (Instr.sliceAt t x lo hi mx) := by
  unfold Instr.sliceAt
  refine plain_b (plain_underlying t) fun d => ?_
  split
  · exact plain_b (plain_sureAddr _) fun a => plain_b (plain_sliceBounds _ _ _ _ _ _) fun _ => plain_b (plain_size _) fun _ => trivial
  · exact plain_slice _ _ _ _ _
theorem plain_indexAt (t : TypeId) (x ix : Value) : plain P (Instr.indexAt t x ix) := by
  unfold Instr.indexAt
  refine plain_b (plain_asIntOf ix) fun r => plain_b (plain_underlying t) fun d => ?_
  dsimp only
  repeat' first
    | exact plain_underlying _
    | exact plain_size _
    | exact plain_pure _
    | exact plain_stuck _
    | exact plain_unsupported _
    | exact plain_sureAddr _
    | exact plain_of_dead (dead_boundsPanic _ _ _ _)
    | (refine plain_b ?_ fun _ => ?_)
    | split

def sized (P : Program) (s : TypeId) (f : Nat) : Bool :=
  match P.underlying s with
  | some (.struct fs) => match fs[f]? with
    | some fd => (match P.info? fd.type with | some i => i.size != 0 | none => true)
    | none => true
  | _ => true
def toInt (P : Program) (t : TypeId) : Bool :=
  match P.underlying t with
  | some (.int _) => true
  | _ => false

theorem plain_fieldAt {s : TypeId} {x : Value} {f : Nat} (h : sized P s f = true) : plain P (Instr.fieldAt s x f) := by
  unfold Instr.fieldAt
  refine plain_und fun d hd => ?_
  unfold sized at h
  simp only [hd] at h
  cases d <;> try trivial
  rename_i fs
  simp only at h ⊢
  cases hf : fs[f]? with
  | none => trivial
  | some fd =>
    simp only [hf] at h ⊢
    refine plain_b (plain_sureAddr x) fun a => ?_
    refine plain_b ?_ fun _ => trivial
    unfold fieldPlace
    unfold sizeOf
    simp only [bind_assoc, pure_bind]
    refine plain_inf fun i hi => ?_
    simp only [hi, bne_iff_ne, ne_eq] at h
    rw [if_neg h]
    trivial

theorem plain_field (t : TypeId) (x : Value) (f : Nat) : plain P (Instr.field t x f) := by
  unfold Instr.field
  repeat' first
    | exact plain_underlying _
    | exact plain_asAgg _
    | exact plain_part _ _ _
    | exact plain_stuck _
    | (refine plain_b ?_ fun _ => ?_)
    | split
theorem plain_index (t : TypeId) (x ix : Value) : plain P (Instr.index t x ix) := by
  unfold Instr.index
  dsimp only
  repeat' first
    | exact plain_underlying _
    | exact plain_asIntOf _
    | exact plain_part _ _ _
    | exact plain_size _
    | exact plain_pure _
    | exact plain_stuck _
    | exact plain_of_dead (dead_boundsPanic _ _ _ _)
    | (refine plain_b ?_ fun _ => ?_)
    | split
theorem plain_extract (x : Value) (i : Nat) : plain P (Instr.extract x i) := by
  unfold Instr.extract
  repeat' first
    | exact plain_pure _
    | exact plain_stuck _
    | split
theorem plain_makeInterface (t : TypeId) (x : Value) : plain P (Instr.makeInterface t x) := by
  unfold Instr.makeInterface
  repeat' first
    | exact plain_underlying _
    | exact plain_pure _
    | exact plain_stuck _
    | (refine plain_b ?_ fun _ => ?_)
    | split

/-- Two values that an operator of two operands takes without looking at memory. -/
def flat2 : Value → Value → Bool
  | .int .., .int .. => true
  | .bool _, .bool _ => true
  | .string _, .string _ => true
  | .pointer _, .pointer none => true
  | .pointer none, .pointer _ => true
  | .slice none _ _, .slice .. => true
  | .slice .., .slice none _ _ => true
  | _, _ => false

theorem plain_equalIn {n : Nat} {t : TypeId} {x y : Value} (h : flat2 x y = true) : plain P (Op.equalIn (n + 1) t x y) := by
  rw [Op.equalIn.eq_def]
  refine plain_b (plain_underlying t) fun d => ?_
  cases x <;> cases y <;> simp only [flat2, Bool.false_eq_true] at h
  case int.int k a k' b => cases d <;> dsimp only <;> first | exact True.intro | (split <;> exact True.intro)
  case bool.bool => cases d <;> exact True.intro
  case string.string => cases d <;> exact True.intro
  case pointer.pointer a b => cases a <;> cases b <;> (first | (exfalso; simp at h; done) | skip) <;> cases d <;> exact True.intro
  case slice.slice a _ _ b _ _ => cases a <;> cases b <;> (first | (exfalso; simp at h; done) | skip) <;> cases d <;> exact True.intro
theorem plain_equal {t : TypeId} {x y : Value} (h : flat2 x y = true) : plain P (Op.equal t x y) := plain_equalIn (n := 9999) h

theorem plain_binInt {op : BinOp} {t : TypeId} {k k' : IntKind} {a b : Int} : plain P (binOp op t (.int k a) (.int k' b)) := by
  cases op <;> simp only [binOp] <;> (first | skip | split) <;> (try unfold Op.shift) <;> (try unfold Op.intDiv) <;>
  repeat' first
    | exact True.intro
    | exact plain_of_dead (dead_runtimePanic _)
    | split
theorem plain_binStr {op : BinOp} {t : TypeId} {a b : ByteArray} : plain P (binOp op t (.string a) (.string b)) := by
  cases op <;> simp only [binOp, Op.stringOp] <;> first | exact True.intro | (split <;> exact True.intro)
theorem plain_binOp {op : BinOp} {t : TypeId} {x y : Value} (h : flat2 x y = true) : plain P (binOp op t x y) := by
  have he := plain_equal (P := P) (t := t) h
  have h1 : plain P (do pure (.bool (← Op.equal t x y)) : Sem Value) := plain_b he fun _ => True.intro
  have h2 : plain P (do pure (.bool (!(← Op.equal t x y))) : Sem Value) := plain_b he fun _ => True.intro
  clear he
  cases x <;> cases y <;> simp only [flat2, Bool.false_eq_true] at h
  case int.int k a k' b => exact plain_binInt
  case string.string a b => exact plain_binStr
  case bool.bool a b =>
    cases op
    case eql => exact h1
    case neq => exact h2
    all_goals exact True.intro
  case pointer.pointer a b =>
    cases a <;> cases b <;> (first | (exfalso; simp at h; done) | skip) <;> cases op <;> (first | exact h1 | exact h2 | skip) <;> exact True.intro
  case slice.slice a _ _ b _ _ =>
    cases op
    case eql => exact h1
    case neq => exact h2
    all_goals exact True.intro

theorem plain_eqGuard {op : BinOp} {t : TypeId} {x y : Operand} {a b : Value} (h : flat2 a b = true) : plain P (eqGuard op t x y a b) := by
  unfold eqGuard
  cases a <;> cases b <;> simp only [flat2, Bool.false_eq_true] at h <;> cases op <;> trivial

def flat1 : Value → Bool
  | .int .. | .bool _ => true
  | _ => false
theorem plain_unary {op : UnOp} {x : Value} (h : flat1 x = true) : plain P (Op.unary op x) := by
  cases x <;> simp only [flat1, Bool.false_eq_true] at h <;> cases op <;> trivial
theorem plain_convert {s d : TypeId} {x : Value} (hd : toInt P d = true) (h : (match x with | .int .. => true | _ => false) = true) : plain P (convert s d x) := by
  unfold convert
  refine plain_b (plain_underlying s) fun e => plain_und fun q hq => ?_
  unfold toInt at hd
  simp only [hq] at hd
  cases x <;> simp only [Bool.false_eq_true] at h
  cases q <;> simp only [Bool.false_eq_true] at hd
  trivial
def flatLen : Value → Bool
  | .slice .. | .string _ => true
  | _ => false
theorem plain_len {ts : Array TypeId} {t : TypeId} {args : Array Value} (h : (match args[0]? with | some v => flatLen v | none => false) = true) : plain P (Builtin.len_ ts t args) := by
  unfold Builtin.len_
  cases ts[0]? with
  | none => trivial
  | some a =>
    cases hx : args[0]? with
    | none => trivial
    | some x =>
      simp only [hx] at h ⊢
      refine plain_b (plain_underlying a) fun d => ?_
      cases x <;> simp only [flatLen, Bool.false_eq_true] at h <;> cases d <;>
      repeat' first
        | exact plain_pure _
        | exact plain_stuck _
        | exact plain_underlying _
        | (refine plain_b ?_ fun _ => ?_)
        | split
theorem plain_cap {ts : Array TypeId} {t : TypeId} {args : Array Value} (h : (match args[0]? with | some v => flatLen v | none => false) = true) : plain P (Builtin.cap_ ts t args) := by
  unfold Builtin.cap_
  cases ts[0]? with
  | none => trivial
  | some a =>
    cases hx : args[0]? with
    | none => trivial
    | some x =>
      simp only [hx] at h ⊢
      refine plain_b (plain_underlying a) fun d => ?_
      cases x <;> simp only [flatLen, Bool.false_eq_true] at h <;> cases d <;>
      repeat' first
        | exact plain_pure _
        | exact plain_stuck _
        | exact plain_underlying _
        | (refine plain_b ?_ fun _ => ?_)
        | split

theorem plain_listMapM {γ δ : Type} (f : γ → Sem δ) (hf : ∀ x, plain P (f x)) : ∀ l : List γ, plain P (l.mapM f)
  | [] => by rw [List.mapM_nil]; exact plain_pure _
  | x :: l => by
    rw [List.mapM_cons]
    exact plain_b (hf x) fun _ => plain_b (plain_listMapM f hf l) fun _ => plain_pure _
theorem plain_arrayMapM {γ δ : Type} (f : γ → Sem δ) (hf : ∀ x, plain P (f x)) (l : Array γ) : plain P (l.mapM f) := by
  rw [Array.mapM_eq_mapM_toList, map_eq_pure_bind]
  exact plain_b (plain_listMapM f hf _) fun _ => plain_pure _
theorem plain_build (t : TypeId) (ps : Array (Nat × Value)) : plain P (Instr.build t ps) := by
  unfold Instr.build
  refine plain_b (plain_zero t) fun z => plain_b (plain_underlying t) fun d => ?_
  cases d <;> dsimp only <;> repeat' first
    | exact plain_stuck _
    | exact plain_pure _
    | exact plain_size _
    | exact plain_arrayMapM _ (fun _ => plain_b (plain_size _) fun _ => plain_pure _) _
    | (refine plain_b ?_ fun _ => ?_)
    | split
theorem loads_cells (a : Addr) (n : Nat) : ∀ (i : Nat) (acc : Array Value), loads P (loadCellsFrom a i n acc) := by
  induction n with
  | zero => intro i acc; trivial
  | succ n ih => intro i acc; exact loads_b (s := load (a.add i)) (fun _ => trivial) fun v => ih _ _
theorem loads_loadAt (t : TypeId) (x : Value) : loads P (Instr.loadAt t x) := by
  unfold Instr.loadAt
  refine loads_b (plain_loads (plain_sureAddr x)) fun a => ?_
  unfold loadVar
  refine loads_b (plain_loads (plain_isAgg t)) fun b => ?_
  split
  · exact loads_b (plain_loads (plain_size t)) fun _ => loads_b (loads_cells _ _ _ _) fun _ => trivial
  · intro v; trivial
theorem news_newVar (t : TypeId) (v : Value) : news P (newVar t v) := fun _ => trivial
theorem news_box (t : TypeId) (v : Value) : news P (Instr.box t v) := fun _ => trivial
theorem news_alloc (t : TypeId) : news P (Instr.alloc t true (.tuple #[])) := by
  unfold Instr.alloc
  refine news_b (plain_news (plain_zero t)) fun z => ?_
  exact news_b (news_newVar _ _) fun _ => trivial
theorem news_buildSlice (t : TypeId) (n : Nat) (ps : Array (Nat × Value)) : news P (Instr.buildSlice t n ps) := by
  unfold Instr.buildSlice
  repeat' first
    | exact plain_news (plain_underlying _)
    | exact plain_news (plain_size _)
    | exact plain_news (plain_zero _)
    | exact plain_news (plain_stuck _)
    | exact plain_news (plain_unsupported _)
    | exact plain_news (plain_pure _)
    | exact (fun _ => True.intro : news P (newRow _ _))
    | (refine news_b ?_ fun _ => ?_)
    | split
    | dsimp only
end
end Go.YtfoefmiffkkeaaaDoor.Reg
