/-
  The gate's lock: the numbers under which this translation holds sync.Mutex's functions and types, and that it holds them.
-/
import Derived.Test.YtdmgbfkioghkeaaProg
import Derived.Conc.RwLib
import Derived.Conc.MuLone
import Derived.KernelRfl
namespace Go.Proofs
abbrev Try.muLink : Go.Conc.Locks.MuLink := { lock := 36, unlock := 37, ilock := 55, iunlock := 56, lockSlow := 66, unlockSlow := 69, disable := 62, enable := 64, acquire := 65, relMerge := 67, cas32 := 63, add32 := 68, tMutex := 71, tIMutex := 69, tPMutex := 93, tPIMutex := 99, tPI32 := 101, tUP := 103, tNoCopy := 66, tU32 := 67 }
theorem Try.muLib : Go.Conc.Locks.MuLib Try.prog Try.muLink :=
  ⟨Try.func36, Try.func37, Try.func55, Try.func56, Try.func62, Try.func64, Try.func65, Try.func67, Try.func63, Try.func68, Try.underlying69, Try.runUnderlying69, Try.sizeOf69, Try.isAgg69, Try.zeroValue69, Try.underlying71, Try.runUnderlying71, Try.sizeOf71, Try.isAgg71, Try.zeroValue71, Try.underlying93, Try.runUnderlying93, Try.sizeOf93, Try.isAgg93, Try.zeroValue93, Try.underlying99, Try.runUnderlying99, Try.sizeOf99, Try.isAgg99, Try.zeroValue99, Try.underlying101, Try.runUnderlying101, Try.sizeOf101, Try.isAgg101, Try.zeroValue101, Try.underlying103, Try.runUnderlying103, Try.sizeOf103, Try.isAgg103, Try.zeroValue103, Try.underlying66, Try.runUnderlying66, Try.sizeOf66, Try.isAgg66, Try.zeroValue66, Try.underlying21, Try.runUnderlying21, Try.sizeOf21, Try.isAgg21, Try.zeroValue21, (by kernel_rfl)⟩
end Go.Proofs
