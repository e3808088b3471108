/-
  No cell of these rows narrows 'for every input' (looked for: loops, veiled, ifaces, maps, wideKeys, modest, calm, conditions, laid).
  DERIVED. THE GIVEN ROWS OF THIS SEAT. 11 by the template 'for every input the law returns true; each argument reads behind the call as it read before'; 0 by the template 'total and deterministic' (their statements: YtmhnmaklgcppbaaGreatTotals.lean).
  GIVEN WITH THE SEED: the statements are not yours to turn. If you find one false, say at which input.
  Laid BY PROGRAM, IN A SANDBOX (cutbox-rows.mjs): the forced cells as the released guide's own fill.sh prints them over the translation 1223af83ab3f8cf8… (all of the seat's roots in one cut). By AI agents, Wed Nov 11 2026. No macro, syntax, notation, axiom, sorry.
-/
import Derived.Test.YtmhnmaklgcppbaaGreatChecked
import GoSem.Claim
import GoSem.ClaimJoined
import GoSem.ClaimMapViews
import Derived.JoinedTies
import Derived.KernelRfl
namespace Go.Proofs.YtmhnmaklgcppbaaGreat
/- THE CELL 'sum', in the pinned program and in every row, IS THE sha256 OF THE DUMP (.gsa) THAT YtmhnmaklgcppbaaGreatProg.lean LOADS. Nothing in Lean hashes anything: it is a label: what it is worth is what the hold of that sum in a sandbox is worth. -/
noncomputable def Tryz.pinned : Pinned := { name := "ytmhnmaklgcppbaagreat", sum := "1223af83ab3f8cf8fd27d7da759ca67e1101408f67e44dd0aa99f001ded35a4e", checked := Tryz.checked }
namespace Rows
def none {H : Type} : Left H := { results := [], args := [] }

/-- 'gessolaw14.HalveCuts': WHATEVER THE INPUT: true; the input reads as it did. -/
def halveCutsSpec : ChangeSpec := { name := "halveCuts", fn := fun _ => fun
  | [d1, d2] => { results := [.lit (.bool true)], args := [d1, d2] }
  | _ => none }
def halveCutsRow : OpenClaim := { program := "ytmhnmaklgcppbaagreat", sum := "1223af83ab3f8cf8fd27d7da759ca67e1101408f67e44dd0aa99f001ded35a4e", func := "gesso/gessolaw14.HalveCuts", spec := "halveCuts", inPlace := ["math/bits.Add64", "math/bits.Sub64", "sync/atomic.LoadUint32", "(*internal/sync.Mutex).Lock", "internal/race.Disable", "sync/atomic.CompareAndSwapInt32", "internal/race.Enable", "internal/race.Acquire", "(*internal/sync.Mutex).lockSlow", "internal/sync.runtime_canSpin", "internal/sync.runtime_doSpin", "internal/sync.throw", "internal/sync.runtime_nanotime", "internal/sync.runtime_SemacquireMutex", "sync/atomic.AddInt32", "(*internal/sync.Mutex).Unlock", "internal/race.ReleaseMerge", "(*internal/sync.Mutex).unlockSlow", "internal/sync.fatal", "internal/sync.runtime_Semrelease", "sync/atomic.StoreUint32"], unfollowed := true, recurses := true, named := ["math/bits.divideError", "math/bits.overflowError"], apart := false }
def HalveCutsSaid : Prop := halveCutsRow.holds Tryz.pinned (OpenSpec.ofChange halveCutsSpec)

/-- ITS FALSE NEIGHBOUR: 'it returns false'. Refute it at one input. -/
def halveCutsWrong : ChangeSpec := { name := "halveCuts", fn := fun _ => fun
  | [d1, d2] => { results := [.lit (.bool false)], args := [d1, d2] }
  | _ => none }
def HalveCutsWrongFalsely : Prop := halveCutsRow.holds Tryz.pinned (OpenSpec.ofChange halveCutsWrong)

/-- 'gessolaw14.HalveWeights': WHATEVER THE INPUT: true; the input reads as it did. -/
def halveWeightsSpec : ChangeSpec := { name := "halveWeights", fn := fun _ => fun
  | [d] => { results := [.lit (.bool true)], args := [d] }
  | _ => none }
def halveWeightsRow : OpenClaim := { program := "ytmhnmaklgcppbaagreat", sum := "1223af83ab3f8cf8fd27d7da759ca67e1101408f67e44dd0aa99f001ded35a4e", func := "gesso/gessolaw14.HalveWeights", spec := "halveWeights", inPlace := ["math/bits.Add64", "math/bits.Sub64", "sync/atomic.LoadUint32", "(*internal/sync.Mutex).Lock", "internal/race.Disable", "sync/atomic.CompareAndSwapInt32", "internal/race.Enable", "internal/race.Acquire", "(*internal/sync.Mutex).lockSlow", "internal/sync.runtime_canSpin", "internal/sync.runtime_doSpin", "internal/sync.throw", "internal/sync.runtime_nanotime", "internal/sync.runtime_SemacquireMutex", "sync/atomic.AddInt32", "(*internal/sync.Mutex).Unlock", "internal/race.ReleaseMerge", "(*internal/sync.Mutex).unlockSlow", "internal/sync.fatal", "internal/sync.runtime_Semrelease", "sync/atomic.StoreUint32"], unfollowed := true, recurses := true, named := ["math/bits.divideError", "math/bits.overflowError"], apart := false }
def HalveWeightsSaid : Prop := halveWeightsRow.holds Tryz.pinned (OpenSpec.ofChange halveWeightsSpec)

/-- ITS FALSE NEIGHBOUR: 'it returns false'. Refute it at one input. -/
def halveWeightsWrong : ChangeSpec := { name := "halveWeights", fn := fun _ => fun
  | [d] => { results := [.lit (.bool false)], args := [d] }
  | _ => none }
def HalveWeightsWrongFalsely : Prop := halveWeightsRow.holds Tryz.pinned (OpenSpec.ofChange halveWeightsWrong)

/-- 'gessolaw19.DiscPoints': WHATEVER THE INPUT: true; the input reads as it did. -/
def discPointsSpec : ChangeSpec := { name := "discPoints", fn := fun _ => fun
  | [d1, d2, d3] => { results := [.lit (.bool true)], args := [d1, d2, d3] }
  | _ => none }
def discPointsRow : OpenClaim := { program := "ytmhnmaklgcppbaagreat", sum := "1223af83ab3f8cf8fd27d7da759ca67e1101408f67e44dd0aa99f001ded35a4e", func := "gesso/gessolaw19.DiscPoints", spec := "discPoints", inPlace := ["math/bits.Add64", "math/bits.Sub64", "sync/atomic.LoadUint32", "(*internal/sync.Mutex).Lock", "internal/race.Disable", "sync/atomic.CompareAndSwapInt32", "internal/race.Enable", "internal/race.Acquire", "(*internal/sync.Mutex).lockSlow", "internal/sync.runtime_canSpin", "internal/sync.runtime_doSpin", "internal/sync.throw", "internal/sync.runtime_nanotime", "internal/sync.runtime_SemacquireMutex", "sync/atomic.AddInt32", "(*internal/sync.Mutex).Unlock", "internal/race.ReleaseMerge", "(*internal/sync.Mutex).unlockSlow", "internal/sync.fatal", "internal/sync.runtime_Semrelease", "sync/atomic.StoreUint32"], unfollowed := true, recurses := true, named := ["math/bits.divideError", "math/bits.overflowError"], apart := false }
def DiscPointsSaid : Prop := discPointsRow.holds Tryz.pinned (OpenSpec.ofChange discPointsSpec)

/-- ITS FALSE NEIGHBOUR: 'it returns false'. Refute it at one input. -/
def discPointsWrong : ChangeSpec := { name := "discPoints", fn := fun _ => fun
  | [d1, d2, d3] => { results := [.lit (.bool false)], args := [d1, d2, d3] }
  | _ => none }
def DiscPointsWrongFalsely : Prop := discPointsRow.holds Tryz.pinned (OpenSpec.ofChange discPointsWrong)

/-- 'gessolaw19.DiscTurns': WHATEVER THE INPUT: true; the input reads as it did. -/
def discTurnsSpec : ChangeSpec := { name := "discTurns", fn := fun _ => fun
  | [d1, d2, d3] => { results := [.lit (.bool true)], args := [d1, d2, d3] }
  | _ => none }
def discTurnsRow : OpenClaim := { program := "ytmhnmaklgcppbaagreat", sum := "1223af83ab3f8cf8fd27d7da759ca67e1101408f67e44dd0aa99f001ded35a4e", func := "gesso/gessolaw19.DiscTurns", spec := "discTurns", inPlace := ["math/bits.Add64", "math/bits.Sub64", "sync/atomic.LoadUint32", "(*internal/sync.Mutex).Lock", "internal/race.Disable", "sync/atomic.CompareAndSwapInt32", "internal/race.Enable", "internal/race.Acquire", "(*internal/sync.Mutex).lockSlow", "internal/sync.runtime_canSpin", "internal/sync.runtime_doSpin", "internal/sync.throw", "internal/sync.runtime_nanotime", "internal/sync.runtime_SemacquireMutex", "sync/atomic.AddInt32", "(*internal/sync.Mutex).Unlock", "internal/race.ReleaseMerge", "(*internal/sync.Mutex).unlockSlow", "internal/sync.fatal", "internal/sync.runtime_Semrelease", "sync/atomic.StoreUint32"], unfollowed := true, recurses := true, named := ["math/bits.divideError", "math/bits.overflowError"], apart := false }
def DiscTurnsSaid : Prop := discTurnsRow.holds Tryz.pinned (OpenSpec.ofChange discTurnsSpec)

/-- ITS FALSE NEIGHBOUR: 'it returns false'. Refute it at one input. -/
def discTurnsWrong : ChangeSpec := { name := "discTurns", fn := fun _ => fun
  | [d1, d2, d3] => { results := [.lit (.bool false)], args := [d1, d2, d3] }
  | _ => none }
def DiscTurnsWrongFalsely : Prop := discTurnsRow.holds Tryz.pinned (OpenSpec.ofChange discTurnsWrong)

/-- 'gessolaw14.HalveSame': WHATEVER THE INPUT: true; the input reads as it did. -/
def halveSameSpec : ChangeSpec := { name := "halveSame", fn := fun _ => fun
  | [d1, d2] => { results := [.lit (.bool true)], args := [d1, d2] }
  | _ => none }
def halveSameRow : OpenClaim := { program := "ytmhnmaklgcppbaagreat", sum := "1223af83ab3f8cf8fd27d7da759ca67e1101408f67e44dd0aa99f001ded35a4e", func := "gesso/gessolaw14.HalveSame", spec := "halveSame", inPlace := ["math/bits.Add64", "math/bits.Sub64", "sync/atomic.LoadUint32", "(*internal/sync.Mutex).Lock", "internal/race.Disable", "sync/atomic.CompareAndSwapInt32", "internal/race.Enable", "internal/race.Acquire", "(*internal/sync.Mutex).lockSlow", "internal/sync.runtime_canSpin", "internal/sync.runtime_doSpin", "internal/sync.throw", "internal/sync.runtime_nanotime", "internal/sync.runtime_SemacquireMutex", "sync/atomic.AddInt32", "(*internal/sync.Mutex).Unlock", "internal/race.ReleaseMerge", "(*internal/sync.Mutex).unlockSlow", "internal/sync.fatal", "internal/sync.runtime_Semrelease", "sync/atomic.StoreUint32"], unfollowed := true, recurses := true, named := ["math/bits.divideError", "math/bits.overflowError"], apart := false }
def HalveSameSaid : Prop := halveSameRow.holds Tryz.pinned (OpenSpec.ofChange halveSameSpec)

/-- ITS FALSE NEIGHBOUR: 'it returns false'. Refute it at one input. -/
def halveSameWrong : ChangeSpec := { name := "halveSame", fn := fun _ => fun
  | [d1, d2] => { results := [.lit (.bool false)], args := [d1, d2] }
  | _ => none }
def HalveSameWrongFalsely : Prop := halveSameRow.holds Tryz.pinned (OpenSpec.ofChange halveSameWrong)

/-- 'gessolaw14.HalveMany': WHATEVER THE INPUT: true; the input reads as it did. -/
def halveManySpec : ChangeSpec := { name := "halveMany", fn := fun _ => fun
  | [d1, d2] => { results := [.lit (.bool true)], args := [d1, d2] }
  | _ => none }
def halveManyRow : OpenClaim := { program := "ytmhnmaklgcppbaagreat", sum := "1223af83ab3f8cf8fd27d7da759ca67e1101408f67e44dd0aa99f001ded35a4e", func := "gesso/gessolaw14.HalveMany", spec := "halveMany", inPlace := ["math/bits.Add64", "math/bits.Sub64", "sync/atomic.LoadUint32", "(*internal/sync.Mutex).Lock", "internal/race.Disable", "sync/atomic.CompareAndSwapInt32", "internal/race.Enable", "internal/race.Acquire", "(*internal/sync.Mutex).lockSlow", "internal/sync.runtime_canSpin", "internal/sync.runtime_doSpin", "internal/sync.throw", "internal/sync.runtime_nanotime", "internal/sync.runtime_SemacquireMutex", "sync/atomic.AddInt32", "(*internal/sync.Mutex).Unlock", "internal/race.ReleaseMerge", "(*internal/sync.Mutex).unlockSlow", "internal/sync.fatal", "internal/sync.runtime_Semrelease", "sync/atomic.StoreUint32"], unfollowed := true, recurses := true, named := ["math/bits.divideError", "math/bits.overflowError"], apart := false }
def HalveManySaid : Prop := halveManyRow.holds Tryz.pinned (OpenSpec.ofChange halveManySpec)

/-- ITS FALSE NEIGHBOUR: 'it returns false'. Refute it at one input. -/
def halveManyWrong : ChangeSpec := { name := "halveMany", fn := fun _ => fun
  | [d1, d2] => { results := [.lit (.bool false)], args := [d1, d2] }
  | _ => none }
def HalveManyWrongFalsely : Prop := halveManyRow.holds Tryz.pinned (OpenSpec.ofChange halveManyWrong)

/-- 'gessolaw19.DiscRound': WHATEVER THE INPUT: true; the input reads as it did. -/
def discRoundSpec : ChangeSpec := { name := "discRound", fn := fun _ => fun
  | [d1, d2, d3] => { results := [.lit (.bool true)], args := [d1, d2, d3] }
  | _ => none }
def discRoundRow : OpenClaim := { program := "ytmhnmaklgcppbaagreat", sum := "1223af83ab3f8cf8fd27d7da759ca67e1101408f67e44dd0aa99f001ded35a4e", func := "gesso/gessolaw19.DiscRound", spec := "discRound", inPlace := ["math/bits.Add64", "math/bits.Sub64", "sync/atomic.LoadUint32", "(*internal/sync.Mutex).Lock", "internal/race.Disable", "sync/atomic.CompareAndSwapInt32", "internal/race.Enable", "internal/race.Acquire", "(*internal/sync.Mutex).lockSlow", "internal/sync.runtime_canSpin", "internal/sync.runtime_doSpin", "internal/sync.throw", "internal/sync.runtime_nanotime", "internal/sync.runtime_SemacquireMutex", "sync/atomic.AddInt32", "(*internal/sync.Mutex).Unlock", "internal/race.ReleaseMerge", "(*internal/sync.Mutex).unlockSlow", "internal/sync.fatal", "internal/sync.runtime_Semrelease", "sync/atomic.StoreUint32"], unfollowed := true, recurses := true, named := ["math/bits.divideError", "math/bits.overflowError"], apart := false }
def DiscRoundSaid : Prop := discRoundRow.holds Tryz.pinned (OpenSpec.ofChange discRoundSpec)

/-- ITS FALSE NEIGHBOUR: 'it returns false'. Refute it at one input. -/
def discRoundWrong : ChangeSpec := { name := "discRound", fn := fun _ => fun
  | [d1, d2, d3] => { results := [.lit (.bool false)], args := [d1, d2, d3] }
  | _ => none }
def DiscRoundWrongFalsely : Prop := discRoundRow.holds Tryz.pinned (OpenSpec.ofChange discRoundWrong)

/-- 'gessolaw16.FlattenCurves': WHATEVER THE INPUT: true; the input reads as it did. -/
def flattenCurvesSpec : ChangeSpec := { name := "flattenCurves", fn := fun _ => fun
  | [d1, d2] => { results := [.lit (.bool true)], args := [d1, d2] }
  | _ => none }
def flattenCurvesRow : OpenClaim := { program := "ytmhnmaklgcppbaagreat", sum := "1223af83ab3f8cf8fd27d7da759ca67e1101408f67e44dd0aa99f001ded35a4e", func := "gesso/gessolaw16.FlattenCurves", spec := "flattenCurves", inPlace := ["math/bits.Add64", "math/bits.Sub64", "sync/atomic.LoadUint32", "(*internal/sync.Mutex).Lock", "internal/race.Disable", "sync/atomic.CompareAndSwapInt32", "internal/race.Enable", "internal/race.Acquire", "(*internal/sync.Mutex).lockSlow", "internal/sync.runtime_canSpin", "internal/sync.runtime_doSpin", "internal/sync.throw", "internal/sync.runtime_nanotime", "internal/sync.runtime_SemacquireMutex", "sync/atomic.AddInt32", "(*internal/sync.Mutex).Unlock", "internal/race.ReleaseMerge", "(*internal/sync.Mutex).unlockSlow", "internal/sync.fatal", "internal/sync.runtime_Semrelease", "sync/atomic.StoreUint32"], unfollowed := true, recurses := true, named := ["math/bits.divideError", "math/bits.overflowError"], apart := false }
def FlattenCurvesSaid : Prop := flattenCurvesRow.holds Tryz.pinned (OpenSpec.ofChange flattenCurvesSpec)

/-- ITS FALSE NEIGHBOUR: 'it returns false'. Refute it at one input. -/
def flattenCurvesWrong : ChangeSpec := { name := "flattenCurves", fn := fun _ => fun
  | [d1, d2] => { results := [.lit (.bool false)], args := [d1, d2] }
  | _ => none }
def FlattenCurvesWrongFalsely : Prop := flattenCurvesRow.holds Tryz.pinned (OpenSpec.ofChange flattenCurvesWrong)

/-- 'gessolaw16.FlattenFiner': WHATEVER THE INPUT: true; the input reads as it did. -/
def flattenFinerSpec : ChangeSpec := { name := "flattenFiner", fn := fun _ => fun
  | [d1, d2] => { results := [.lit (.bool true)], args := [d1, d2] }
  | _ => none }
def flattenFinerRow : OpenClaim := { program := "ytmhnmaklgcppbaagreat", sum := "1223af83ab3f8cf8fd27d7da759ca67e1101408f67e44dd0aa99f001ded35a4e", func := "gesso/gessolaw16.FlattenFiner", spec := "flattenFiner", inPlace := ["math/bits.Add64", "math/bits.Sub64", "sync/atomic.LoadUint32", "(*internal/sync.Mutex).Lock", "internal/race.Disable", "sync/atomic.CompareAndSwapInt32", "internal/race.Enable", "internal/race.Acquire", "(*internal/sync.Mutex).lockSlow", "internal/sync.runtime_canSpin", "internal/sync.runtime_doSpin", "internal/sync.throw", "internal/sync.runtime_nanotime", "internal/sync.runtime_SemacquireMutex", "sync/atomic.AddInt32", "(*internal/sync.Mutex).Unlock", "internal/race.ReleaseMerge", "(*internal/sync.Mutex).unlockSlow", "internal/sync.fatal", "internal/sync.runtime_Semrelease", "sync/atomic.StoreUint32"], unfollowed := true, recurses := true, named := ["math/bits.divideError", "math/bits.overflowError"], apart := false }
def FlattenFinerSaid : Prop := flattenFinerRow.holds Tryz.pinned (OpenSpec.ofChange flattenFinerSpec)

/-- ITS FALSE NEIGHBOUR: 'it returns false'. Refute it at one input. -/
def flattenFinerWrong : ChangeSpec := { name := "flattenFiner", fn := fun _ => fun
  | [d1, d2] => { results := [.lit (.bool false)], args := [d1, d2] }
  | _ => none }
def FlattenFinerWrongFalsely : Prop := flattenFinerRow.holds Tryz.pinned (OpenSpec.ofChange flattenFinerWrong)

/-- 'gessolaw16.FlattenNear': WHATEVER THE INPUT: true; the input reads as it did. -/
def flattenNearSpec : ChangeSpec := { name := "flattenNear", fn := fun _ => fun
  | [d1, d2, d3] => { results := [.lit (.bool true)], args := [d1, d2, d3] }
  | _ => none }
def flattenNearRow : OpenClaim := { program := "ytmhnmaklgcppbaagreat", sum := "1223af83ab3f8cf8fd27d7da759ca67e1101408f67e44dd0aa99f001ded35a4e", func := "gesso/gessolaw16.FlattenNear", spec := "flattenNear", inPlace := ["math/bits.Add64", "math/bits.Sub64", "sync/atomic.LoadUint32", "(*internal/sync.Mutex).Lock", "internal/race.Disable", "sync/atomic.CompareAndSwapInt32", "internal/race.Enable", "internal/race.Acquire", "(*internal/sync.Mutex).lockSlow", "internal/sync.runtime_canSpin", "internal/sync.runtime_doSpin", "internal/sync.throw", "internal/sync.runtime_nanotime", "internal/sync.runtime_SemacquireMutex", "sync/atomic.AddInt32", "(*internal/sync.Mutex).Unlock", "internal/race.ReleaseMerge", "(*internal/sync.Mutex).unlockSlow", "internal/sync.fatal", "internal/sync.runtime_Semrelease", "sync/atomic.StoreUint32"], unfollowed := true, recurses := true, named := ["math/bits.divideError", "math/bits.overflowError"], apart := false }
def FlattenNearSaid : Prop := flattenNearRow.holds Tryz.pinned (OpenSpec.ofChange flattenNearSpec)

/-- ITS FALSE NEIGHBOUR: 'it returns false'. Refute it at one input. -/
def flattenNearWrong : ChangeSpec := { name := "flattenNear", fn := fun _ => fun
  | [d1, d2, d3] => { results := [.lit (.bool false)], args := [d1, d2, d3] }
  | _ => none }
def FlattenNearWrongFalsely : Prop := flattenNearRow.holds Tryz.pinned (OpenSpec.ofChange flattenNearWrong)

/-- 'gessolaw16.FlattenOn': WHATEVER THE INPUT: true; the input reads as it did. -/
def flattenOnSpec : ChangeSpec := { name := "flattenOn", fn := fun _ => fun
  | [d1, d2] => { results := [.lit (.bool true)], args := [d1, d2] }
  | _ => none }
def flattenOnRow : OpenClaim := { program := "ytmhnmaklgcppbaagreat", sum := "1223af83ab3f8cf8fd27d7da759ca67e1101408f67e44dd0aa99f001ded35a4e", func := "gesso/gessolaw16.FlattenOn", spec := "flattenOn", inPlace := ["math/bits.Add64", "math/bits.Sub64", "sync/atomic.LoadUint32", "(*internal/sync.Mutex).Lock", "internal/race.Disable", "sync/atomic.CompareAndSwapInt32", "internal/race.Enable", "internal/race.Acquire", "(*internal/sync.Mutex).lockSlow", "internal/sync.runtime_canSpin", "internal/sync.runtime_doSpin", "internal/sync.throw", "internal/sync.runtime_nanotime", "internal/sync.runtime_SemacquireMutex", "sync/atomic.AddInt32", "(*internal/sync.Mutex).Unlock", "internal/race.ReleaseMerge", "(*internal/sync.Mutex).unlockSlow", "internal/sync.fatal", "internal/sync.runtime_Semrelease", "sync/atomic.StoreUint32"], unfollowed := true, recurses := true, named := ["math/bits.divideError", "math/bits.overflowError"], apart := false }
def FlattenOnSaid : Prop := flattenOnRow.holds Tryz.pinned (OpenSpec.ofChange flattenOnSpec)

/-- ITS FALSE NEIGHBOUR: 'it returns false'. Refute it at one input. -/
def flattenOnWrong : ChangeSpec := { name := "flattenOn", fn := fun _ => fun
  | [d1, d2] => { results := [.lit (.bool false)], args := [d1, d2] }
  | _ => none }
def FlattenOnWrongFalsely : Prop := flattenOnRow.holds Tryz.pinned (OpenSpec.ofChange flattenOnWrong)

/- THE SECOND FORM. 'bulk': how many values and letters a reading holds, each counted each time it is reached (what is shared counts as often as it is met; a slice's spare places count too). A statement '..UptoSaid' is the law's where the arguments, and the package variables that the reading takes, are together of bulk at most 1048576: NARROWER than '..Said'. Prove '..Said' where nothing that the law and all that it calls make is longer than what came in: it says more and counts as full. Else prove '..UptoSaid'. A law counts once. -/
mutual
def uptoBulk {H : Type} : DataW H → Nat
  | .lit (.string bytes) => bytes.length + 1
  | .lit _ => 1
  | .nil => 1
  | .ptr d => uptoBulk d + 1
  | .slice elems spare => uptoBulkAll elems + uptoBulkAll spare + 1
  | .agg parts => uptoBulkAll parts + 1
  | .iface _ d => uptoBulk d + 1
  | .map entries => uptoBulkEntries entries + 1
  | .held _ => 1
def uptoBulkAll {H : Type} : List (DataW H) → Nat
  | [] => 0
  | d :: r => uptoBulk d + uptoBulkAll r
def uptoBulkEntries {H : Type} : List (Lit × DataW H) → Nat
  | [] => 0
  | x :: r => uptoBulkEntry x + uptoBulkEntries r
def uptoBulkEntry {H : Type} : Lit × DataW H → Nat
  | (.string bytes, d) => bytes.length + uptoBulk d + 1
  | (_, d) => uptoBulk d + 1
 end
def uptoSmall : (H : Type) → List (DataW H) → Bool := fun _ ds => decide (uptoBulkAll ds ≤ 1048576)
def OpenSpec.upto (s : _root_.Go.ChangeSpec) : _root_.Go.OpenSpec := { _root_.Go.OpenSpec.ofChange s with cond := some uptoSmall }

/-- 'gessolaw14.HalveCuts', WHERE WHAT IT READS IS OF BULK AT MOST 1048576: true; the input reads as it did. -/
def halveCutsUptoRow : OpenClaim := { program := "ytmhnmaklgcppbaagreat", sum := "1223af83ab3f8cf8fd27d7da759ca67e1101408f67e44dd0aa99f001ded35a4e", func := "gesso/gessolaw14.HalveCuts", spec := "halveCuts", inPlace := ["math/bits.Add64", "math/bits.Sub64", "sync/atomic.LoadUint32", "(*internal/sync.Mutex).Lock", "internal/race.Disable", "sync/atomic.CompareAndSwapInt32", "internal/race.Enable", "internal/race.Acquire", "(*internal/sync.Mutex).lockSlow", "internal/sync.runtime_canSpin", "internal/sync.runtime_doSpin", "internal/sync.throw", "internal/sync.runtime_nanotime", "internal/sync.runtime_SemacquireMutex", "sync/atomic.AddInt32", "(*internal/sync.Mutex).Unlock", "internal/race.ReleaseMerge", "(*internal/sync.Mutex).unlockSlow", "internal/sync.fatal", "internal/sync.runtime_Semrelease", "sync/atomic.StoreUint32"], unfollowed := true, recurses := true, named := ["math/bits.divideError", "math/bits.overflowError"], apart := false, narrowed := true }
def HalveCutsUptoSaid : Prop := halveCutsUptoRow.holds Tryz.pinned (OpenSpec.upto halveCutsSpec)

/-- 'gessolaw14.HalveWeights', WHERE WHAT IT READS IS OF BULK AT MOST 1048576: true; the input reads as it did. -/
def halveWeightsUptoRow : OpenClaim := { program := "ytmhnmaklgcppbaagreat", sum := "1223af83ab3f8cf8fd27d7da759ca67e1101408f67e44dd0aa99f001ded35a4e", func := "gesso/gessolaw14.HalveWeights", spec := "halveWeights", inPlace := ["math/bits.Add64", "math/bits.Sub64", "sync/atomic.LoadUint32", "(*internal/sync.Mutex).Lock", "internal/race.Disable", "sync/atomic.CompareAndSwapInt32", "internal/race.Enable", "internal/race.Acquire", "(*internal/sync.Mutex).lockSlow", "internal/sync.runtime_canSpin", "internal/sync.runtime_doSpin", "internal/sync.throw", "internal/sync.runtime_nanotime", "internal/sync.runtime_SemacquireMutex", "sync/atomic.AddInt32", "(*internal/sync.Mutex).Unlock", "internal/race.ReleaseMerge", "(*internal/sync.Mutex).unlockSlow", "internal/sync.fatal", "internal/sync.runtime_Semrelease", "sync/atomic.StoreUint32"], unfollowed := true, recurses := true, named := ["math/bits.divideError", "math/bits.overflowError"], apart := false, narrowed := true }
def HalveWeightsUptoSaid : Prop := halveWeightsUptoRow.holds Tryz.pinned (OpenSpec.upto halveWeightsSpec)

/-- 'gessolaw19.DiscPoints', WHERE WHAT IT READS IS OF BULK AT MOST 1048576: true; the input reads as it did. -/
def discPointsUptoRow : OpenClaim := { program := "ytmhnmaklgcppbaagreat", sum := "1223af83ab3f8cf8fd27d7da759ca67e1101408f67e44dd0aa99f001ded35a4e", func := "gesso/gessolaw19.DiscPoints", spec := "discPoints", inPlace := ["math/bits.Add64", "math/bits.Sub64", "sync/atomic.LoadUint32", "(*internal/sync.Mutex).Lock", "internal/race.Disable", "sync/atomic.CompareAndSwapInt32", "internal/race.Enable", "internal/race.Acquire", "(*internal/sync.Mutex).lockSlow", "internal/sync.runtime_canSpin", "internal/sync.runtime_doSpin", "internal/sync.throw", "internal/sync.runtime_nanotime", "internal/sync.runtime_SemacquireMutex", "sync/atomic.AddInt32", "(*internal/sync.Mutex).Unlock", "internal/race.ReleaseMerge", "(*internal/sync.Mutex).unlockSlow", "internal/sync.fatal", "internal/sync.runtime_Semrelease", "sync/atomic.StoreUint32"], unfollowed := true, recurses := true, named := ["math/bits.divideError", "math/bits.overflowError"], apart := false, narrowed := true }
def DiscPointsUptoSaid : Prop := discPointsUptoRow.holds Tryz.pinned (OpenSpec.upto discPointsSpec)

/-- 'gessolaw19.DiscTurns', WHERE WHAT IT READS IS OF BULK AT MOST 1048576: true; the input reads as it did. -/
def discTurnsUptoRow : OpenClaim := { program := "ytmhnmaklgcppbaagreat", sum := "1223af83ab3f8cf8fd27d7da759ca67e1101408f67e44dd0aa99f001ded35a4e", func := "gesso/gessolaw19.DiscTurns", spec := "discTurns", inPlace := ["math/bits.Add64", "math/bits.Sub64", "sync/atomic.LoadUint32", "(*internal/sync.Mutex).Lock", "internal/race.Disable", "sync/atomic.CompareAndSwapInt32", "internal/race.Enable", "internal/race.Acquire", "(*internal/sync.Mutex).lockSlow", "internal/sync.runtime_canSpin", "internal/sync.runtime_doSpin", "internal/sync.throw", "internal/sync.runtime_nanotime", "internal/sync.runtime_SemacquireMutex", "sync/atomic.AddInt32", "(*internal/sync.Mutex).Unlock", "internal/race.ReleaseMerge", "(*internal/sync.Mutex).unlockSlow", "internal/sync.fatal", "internal/sync.runtime_Semrelease", "sync/atomic.StoreUint32"], unfollowed := true, recurses := true, named := ["math/bits.divideError", "math/bits.overflowError"], apart := false, narrowed := true }
def DiscTurnsUptoSaid : Prop := discTurnsUptoRow.holds Tryz.pinned (OpenSpec.upto discTurnsSpec)

/-- 'gessolaw14.HalveSame', WHERE WHAT IT READS IS OF BULK AT MOST 1048576: true; the input reads as it did. -/
def halveSameUptoRow : OpenClaim := { program := "ytmhnmaklgcppbaagreat", sum := "1223af83ab3f8cf8fd27d7da759ca67e1101408f67e44dd0aa99f001ded35a4e", func := "gesso/gessolaw14.HalveSame", spec := "halveSame", inPlace := ["math/bits.Add64", "math/bits.Sub64", "sync/atomic.LoadUint32", "(*internal/sync.Mutex).Lock", "internal/race.Disable", "sync/atomic.CompareAndSwapInt32", "internal/race.Enable", "internal/race.Acquire", "(*internal/sync.Mutex).lockSlow", "internal/sync.runtime_canSpin", "internal/sync.runtime_doSpin", "internal/sync.throw", "internal/sync.runtime_nanotime", "internal/sync.runtime_SemacquireMutex", "sync/atomic.AddInt32", "(*internal/sync.Mutex).Unlock", "internal/race.ReleaseMerge", "(*internal/sync.Mutex).unlockSlow", "internal/sync.fatal", "internal/sync.runtime_Semrelease", "sync/atomic.StoreUint32"], unfollowed := true, recurses := true, named := ["math/bits.divideError", "math/bits.overflowError"], apart := false, narrowed := true }
def HalveSameUptoSaid : Prop := halveSameUptoRow.holds Tryz.pinned (OpenSpec.upto halveSameSpec)

/-- 'gessolaw14.HalveMany', WHERE WHAT IT READS IS OF BULK AT MOST 1048576: true; the input reads as it did. -/
def halveManyUptoRow : OpenClaim := { program := "ytmhnmaklgcppbaagreat", sum := "1223af83ab3f8cf8fd27d7da759ca67e1101408f67e44dd0aa99f001ded35a4e", func := "gesso/gessolaw14.HalveMany", spec := "halveMany", inPlace := ["math/bits.Add64", "math/bits.Sub64", "sync/atomic.LoadUint32", "(*internal/sync.Mutex).Lock", "internal/race.Disable", "sync/atomic.CompareAndSwapInt32", "internal/race.Enable", "internal/race.Acquire", "(*internal/sync.Mutex).lockSlow", "internal/sync.runtime_canSpin", "internal/sync.runtime_doSpin", "internal/sync.throw", "internal/sync.runtime_nanotime", "internal/sync.runtime_SemacquireMutex", "sync/atomic.AddInt32", "(*internal/sync.Mutex).Unlock", "internal/race.ReleaseMerge", "(*internal/sync.Mutex).unlockSlow", "internal/sync.fatal", "internal/sync.runtime_Semrelease", "sync/atomic.StoreUint32"], unfollowed := true, recurses := true, named := ["math/bits.divideError", "math/bits.overflowError"], apart := false, narrowed := true }
def HalveManyUptoSaid : Prop := halveManyUptoRow.holds Tryz.pinned (OpenSpec.upto halveManySpec)

/-- 'gessolaw19.DiscRound', WHERE WHAT IT READS IS OF BULK AT MOST 1048576: true; the input reads as it did. -/
def discRoundUptoRow : OpenClaim := { program := "ytmhnmaklgcppbaagreat", sum := "1223af83ab3f8cf8fd27d7da759ca67e1101408f67e44dd0aa99f001ded35a4e", func := "gesso/gessolaw19.DiscRound", spec := "discRound", inPlace := ["math/bits.Add64", "math/bits.Sub64", "sync/atomic.LoadUint32", "(*internal/sync.Mutex).Lock", "internal/race.Disable", "sync/atomic.CompareAndSwapInt32", "internal/race.Enable", "internal/race.Acquire", "(*internal/sync.Mutex).lockSlow", "internal/sync.runtime_canSpin", "internal/sync.runtime_doSpin", "internal/sync.throw", "internal/sync.runtime_nanotime", "internal/sync.runtime_SemacquireMutex", "sync/atomic.AddInt32", "(*internal/sync.Mutex).Unlock", "internal/race.ReleaseMerge", "(*internal/sync.Mutex).unlockSlow", "internal/sync.fatal", "internal/sync.runtime_Semrelease", "sync/atomic.StoreUint32"], unfollowed := true, recurses := true, named := ["math/bits.divideError", "math/bits.overflowError"], apart := false, narrowed := true }
def DiscRoundUptoSaid : Prop := discRoundUptoRow.holds Tryz.pinned (OpenSpec.upto discRoundSpec)

/-- 'gessolaw16.FlattenCurves', WHERE WHAT IT READS IS OF BULK AT MOST 1048576: true; the input reads as it did. -/
def flattenCurvesUptoRow : OpenClaim := { program := "ytmhnmaklgcppbaagreat", sum := "1223af83ab3f8cf8fd27d7da759ca67e1101408f67e44dd0aa99f001ded35a4e", func := "gesso/gessolaw16.FlattenCurves", spec := "flattenCurves", inPlace := ["math/bits.Add64", "math/bits.Sub64", "sync/atomic.LoadUint32", "(*internal/sync.Mutex).Lock", "internal/race.Disable", "sync/atomic.CompareAndSwapInt32", "internal/race.Enable", "internal/race.Acquire", "(*internal/sync.Mutex).lockSlow", "internal/sync.runtime_canSpin", "internal/sync.runtime_doSpin", "internal/sync.throw", "internal/sync.runtime_nanotime", "internal/sync.runtime_SemacquireMutex", "sync/atomic.AddInt32", "(*internal/sync.Mutex).Unlock", "internal/race.ReleaseMerge", "(*internal/sync.Mutex).unlockSlow", "internal/sync.fatal", "internal/sync.runtime_Semrelease", "sync/atomic.StoreUint32"], unfollowed := true, recurses := true, named := ["math/bits.divideError", "math/bits.overflowError"], apart := false, narrowed := true }
def FlattenCurvesUptoSaid : Prop := flattenCurvesUptoRow.holds Tryz.pinned (OpenSpec.upto flattenCurvesSpec)

/-- 'gessolaw16.FlattenFiner', WHERE WHAT IT READS IS OF BULK AT MOST 1048576: true; the input reads as it did. -/
def flattenFinerUptoRow : OpenClaim := { program := "ytmhnmaklgcppbaagreat", sum := "1223af83ab3f8cf8fd27d7da759ca67e1101408f67e44dd0aa99f001ded35a4e", func := "gesso/gessolaw16.FlattenFiner", spec := "flattenFiner", inPlace := ["math/bits.Add64", "math/bits.Sub64", "sync/atomic.LoadUint32", "(*internal/sync.Mutex).Lock", "internal/race.Disable", "sync/atomic.CompareAndSwapInt32", "internal/race.Enable", "internal/race.Acquire", "(*internal/sync.Mutex).lockSlow", "internal/sync.runtime_canSpin", "internal/sync.runtime_doSpin", "internal/sync.throw", "internal/sync.runtime_nanotime", "internal/sync.runtime_SemacquireMutex", "sync/atomic.AddInt32", "(*internal/sync.Mutex).Unlock", "internal/race.ReleaseMerge", "(*internal/sync.Mutex).unlockSlow", "internal/sync.fatal", "internal/sync.runtime_Semrelease", "sync/atomic.StoreUint32"], unfollowed := true, recurses := true, named := ["math/bits.divideError", "math/bits.overflowError"], apart := false, narrowed := true }
def FlattenFinerUptoSaid : Prop := flattenFinerUptoRow.holds Tryz.pinned (OpenSpec.upto flattenFinerSpec)

/-- 'gessolaw16.FlattenNear', WHERE WHAT IT READS IS OF BULK AT MOST 1048576: true; the input reads as it did. -/
def flattenNearUptoRow : OpenClaim := { program := "ytmhnmaklgcppbaagreat", sum := "1223af83ab3f8cf8fd27d7da759ca67e1101408f67e44dd0aa99f001ded35a4e", func := "gesso/gessolaw16.FlattenNear", spec := "flattenNear", inPlace := ["math/bits.Add64", "math/bits.Sub64", "sync/atomic.LoadUint32", "(*internal/sync.Mutex).Lock", "internal/race.Disable", "sync/atomic.CompareAndSwapInt32", "internal/race.Enable", "internal/race.Acquire", "(*internal/sync.Mutex).lockSlow", "internal/sync.runtime_canSpin", "internal/sync.runtime_doSpin", "internal/sync.throw", "internal/sync.runtime_nanotime", "internal/sync.runtime_SemacquireMutex", "sync/atomic.AddInt32", "(*internal/sync.Mutex).Unlock", "internal/race.ReleaseMerge", "(*internal/sync.Mutex).unlockSlow", "internal/sync.fatal", "internal/sync.runtime_Semrelease", "sync/atomic.StoreUint32"], unfollowed := true, recurses := true, named := ["math/bits.divideError", "math/bits.overflowError"], apart := false, narrowed := true }
def FlattenNearUptoSaid : Prop := flattenNearUptoRow.holds Tryz.pinned (OpenSpec.upto flattenNearSpec)

/-- 'gessolaw16.FlattenOn', WHERE WHAT IT READS IS OF BULK AT MOST 1048576: true; the input reads as it did. -/
def flattenOnUptoRow : OpenClaim := { program := "ytmhnmaklgcppbaagreat", sum := "1223af83ab3f8cf8fd27d7da759ca67e1101408f67e44dd0aa99f001ded35a4e", func := "gesso/gessolaw16.FlattenOn", spec := "flattenOn", inPlace := ["math/bits.Add64", "math/bits.Sub64", "sync/atomic.LoadUint32", "(*internal/sync.Mutex).Lock", "internal/race.Disable", "sync/atomic.CompareAndSwapInt32", "internal/race.Enable", "internal/race.Acquire", "(*internal/sync.Mutex).lockSlow", "internal/sync.runtime_canSpin", "internal/sync.runtime_doSpin", "internal/sync.throw", "internal/sync.runtime_nanotime", "internal/sync.runtime_SemacquireMutex", "sync/atomic.AddInt32", "(*internal/sync.Mutex).Unlock", "internal/race.ReleaseMerge", "(*internal/sync.Mutex).unlockSlow", "internal/sync.fatal", "internal/sync.runtime_Semrelease", "sync/atomic.StoreUint32"], unfollowed := true, recurses := true, named := ["math/bits.divideError", "math/bits.overflowError"], apart := false, narrowed := true }
def FlattenOnUptoSaid : Prop := flattenOnUptoRow.holds Tryz.pinned (OpenSpec.upto flattenOnSpec)

end Rows
end Go.Proofs.YtmhnmaklgcppbaaGreat
