/- The numbers under which this dump holds the library's lock, and that it holds it. -/
import Derived.Test.YtdbhccehbjhbpaaGreatDoorProg
import Derived.Conc.RwLib
import Derived.Conc.MuLone
import Derived.KernelRfl

namespace Go.Proofs
abbrev Tryz.muLink : Go.Conc.Locks.MuLink := { lock := 33, unlock := 34, ilock := 66, iunlock := 67, lockSlow := 117, unlockSlow := 120, disable := 113, enable := 115, acquire := 116, relMerge := 118, cas32 := 114, add32 := 119, tMutex := 70, tIMutex := 68, tPMutex := 125, tPIMutex := 172, tPI32 := 174, tUP := 176, tNoCopy := 65, tU32 := 66 }
theorem Tryz.muLib : Go.Conc.Locks.MuLib Tryz.prog Tryz.muLink :=
  ⟨Tryz.func33, Tryz.func34, Tryz.func66, Tryz.func67, Tryz.func113, Tryz.func115, Tryz.func116, Tryz.func118, Tryz.func114, Tryz.func119,
   Tryz.underlying68, Tryz.runUnderlying68, Tryz.sizeOf68, Tryz.isAgg68, Tryz.zeroValue68,
   Tryz.underlying70, Tryz.runUnderlying70, Tryz.sizeOf70, Tryz.isAgg70, Tryz.zeroValue70,
   Tryz.underlying125, Tryz.runUnderlying125, Tryz.sizeOf125, Tryz.isAgg125, Tryz.zeroValue125,
   Tryz.underlying172, Tryz.runUnderlying172, Tryz.sizeOf172, Tryz.isAgg172, Tryz.zeroValue172,
   Tryz.underlying174, Tryz.runUnderlying174, Tryz.sizeOf174, Tryz.isAgg174, Tryz.zeroValue174,
   Tryz.underlying176, Tryz.runUnderlying176, Tryz.sizeOf176, Tryz.isAgg176, Tryz.zeroValue176,
   Tryz.underlying65, Tryz.runUnderlying65, Tryz.sizeOf65, Tryz.isAgg65, Tryz.zeroValue65,
   Tryz.underlying21, Tryz.runUnderlying21, Tryz.sizeOf21, Tryz.isAgg21, Tryz.zeroValue21,
   (by kernel_rfl)⟩
end Go.Proofs
