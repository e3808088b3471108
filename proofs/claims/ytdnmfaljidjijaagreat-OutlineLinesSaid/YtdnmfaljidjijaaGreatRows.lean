/-
  No cell of these rows narrows 'for every input' (looked for: loops, veiled, ifaces, maps, wideKeys, modest, calm, conditions, laid).
  DERIVED. THE GIVEN ROWS OF THIS SEAT. 11 by the template 'for every input the law returns true; each argument reads behind the call as it read before'; 0 by the template 'total and deterministic' (their statements: YtdnmfaljidjijaaGreatTotals.lean).
  GIVEN WITH THE SEED: the statements are not yours to turn. If you find one false, say at which input.
  Laid BY PROGRAM, IN A SANDBOX (cutbox-rows.mjs): the forced cells as the released guide's own fill.sh prints them over the translation 1471118dede08f65… (all of the seat's roots in one cut). By AI agents, Wed Nov 11 2026. No macro, syntax, notation, axiom, sorry.
-/
import Derived.Test.YtdnmfaljidjijaaGreatChecked
import GoSem.Claim
import GoSem.ClaimJoined
import GoSem.ClaimMapViews
import Derived.JoinedTies
import Derived.KernelRfl
namespace Go.Proofs.YtdnmfaljidjijaaGreat
/- THE CELL 'sum', in the pinned program and in every row, IS THE sha256 OF THE DUMP (.gsa) THAT YtdnmfaljidjijaaGreatProg.lean LOADS. Nothing in Lean hashes anything: it is a label: what it is worth is what the hold of that sum in a sandbox is worth. -/
noncomputable def Tryz.pinned : Pinned := { name := "ytdnmfaljidjijaagreat", sum := "1471118dede08f65c9c44b3fe69516c1f1909faa50749806d521ab2a2fa3ecd8", checked := Tryz.checked }
namespace Rows
def none {H : Type} : Left H := { results := [], args := [] }

/-- 'gessolaw17.OutlineLines': WHATEVER THE INPUT: true; the input reads as it did. -/
def outlineLinesSpec : ChangeSpec := { name := "outlineLines", fn := fun _ => fun
  | [d1, d2, d3] => { results := [.lit (.bool true)], args := [d1, d2, d3] }
  | _ => none }
def outlineLinesRow : OpenClaim := { program := "ytdnmfaljidjijaagreat", sum := "1471118dede08f65c9c44b3fe69516c1f1909faa50749806d521ab2a2fa3ecd8", func := "gesso/gessolaw17.OutlineLines", spec := "outlineLines", inPlace := ["math/bits.Add64", "math/bits.Sub64", "sync/atomic.LoadUint32", "(*internal/sync.Mutex).Lock", "internal/race.Disable", "sync/atomic.CompareAndSwapInt32", "internal/race.Enable", "internal/race.Acquire", "(*internal/sync.Mutex).lockSlow", "internal/sync.runtime_canSpin", "internal/sync.runtime_doSpin", "internal/sync.throw", "internal/sync.runtime_nanotime", "internal/sync.runtime_SemacquireMutex", "sync/atomic.AddInt32", "(*internal/sync.Mutex).Unlock", "internal/race.ReleaseMerge", "(*internal/sync.Mutex).unlockSlow", "internal/sync.fatal", "internal/sync.runtime_Semrelease", "sync/atomic.StoreUint32"], unfollowed := true, recurses := true, named := ["math/bits.divideError", "math/bits.overflowError"], apart := false }
def OutlineLinesSaid : Prop := outlineLinesRow.holds Tryz.pinned (OpenSpec.ofChange outlineLinesSpec)

/-- ITS FALSE NEIGHBOUR: 'it returns false'. Refute it at one input. -/
def outlineLinesWrong : ChangeSpec := { name := "outlineLines", fn := fun _ => fun
  | [d1, d2, d3] => { results := [.lit (.bool false)], args := [d1, d2, d3] }
  | _ => none }
def OutlineLinesWrongFalsely : Prop := outlineLinesRow.holds Tryz.pinned (OpenSpec.ofChange outlineLinesWrong)

/-- 'gessolaw17.OutlineEdges': WHATEVER THE INPUT: true; the input reads as it did. -/
def outlineEdgesSpec : ChangeSpec := { name := "outlineEdges", fn := fun _ => fun
  | [d] => { results := [.lit (.bool true)], args := [d] }
  | _ => none }
def outlineEdgesRow : OpenClaim := { program := "ytdnmfaljidjijaagreat", sum := "1471118dede08f65c9c44b3fe69516c1f1909faa50749806d521ab2a2fa3ecd8", func := "gesso/gessolaw17.OutlineEdges", spec := "outlineEdges", inPlace := ["math/bits.Add64", "math/bits.Sub64", "sync/atomic.LoadUint32", "(*internal/sync.Mutex).Lock", "internal/race.Disable", "sync/atomic.CompareAndSwapInt32", "internal/race.Enable", "internal/race.Acquire", "(*internal/sync.Mutex).lockSlow", "internal/sync.runtime_canSpin", "internal/sync.runtime_doSpin", "internal/sync.throw", "internal/sync.runtime_nanotime", "internal/sync.runtime_SemacquireMutex", "sync/atomic.AddInt32", "(*internal/sync.Mutex).Unlock", "internal/race.ReleaseMerge", "(*internal/sync.Mutex).unlockSlow", "internal/sync.fatal", "internal/sync.runtime_Semrelease", "sync/atomic.StoreUint32"], unfollowed := true, recurses := true, named := ["math/bits.divideError", "math/bits.overflowError"], apart := false }
def OutlineEdgesSaid : Prop := outlineEdgesRow.holds Tryz.pinned (OpenSpec.ofChange outlineEdgesSpec)

/-- ITS FALSE NEIGHBOUR: 'it returns false'. Refute it at one input. -/
def outlineEdgesWrong : ChangeSpec := { name := "outlineEdges", fn := fun _ => fun
  | [d] => { results := [.lit (.bool false)], args := [d] }
  | _ => none }
def OutlineEdgesWrongFalsely : Prop := outlineEdgesRow.holds Tryz.pinned (OpenSpec.ofChange outlineEdgesWrong)

/-- 'gessolaw17.OutlineLevels': WHATEVER THE INPUT: true; the input reads as it did. -/
def outlineLevelsSpec : ChangeSpec := { name := "outlineLevels", fn := fun _ => fun
  | [d1, d2] => { results := [.lit (.bool true)], args := [d1, d2] }
  | _ => none }
def outlineLevelsRow : OpenClaim := { program := "ytdnmfaljidjijaagreat", sum := "1471118dede08f65c9c44b3fe69516c1f1909faa50749806d521ab2a2fa3ecd8", func := "gesso/gessolaw17.OutlineLevels", spec := "outlineLevels", inPlace := ["math/bits.Add64", "math/bits.Sub64", "sync/atomic.LoadUint32", "(*internal/sync.Mutex).Lock", "internal/race.Disable", "sync/atomic.CompareAndSwapInt32", "internal/race.Enable", "internal/race.Acquire", "(*internal/sync.Mutex).lockSlow", "internal/sync.runtime_canSpin", "internal/sync.runtime_doSpin", "internal/sync.throw", "internal/sync.runtime_nanotime", "internal/sync.runtime_SemacquireMutex", "sync/atomic.AddInt32", "(*internal/sync.Mutex).Unlock", "internal/race.ReleaseMerge", "(*internal/sync.Mutex).unlockSlow", "internal/sync.fatal", "internal/sync.runtime_Semrelease", "sync/atomic.StoreUint32"], unfollowed := true, recurses := true, named := ["math/bits.divideError", "math/bits.overflowError"], apart := false }
def OutlineLevelsSaid : Prop := outlineLevelsRow.holds Tryz.pinned (OpenSpec.ofChange outlineLevelsSpec)

/-- ITS FALSE NEIGHBOUR: 'it returns false'. Refute it at one input. -/
def outlineLevelsWrong : ChangeSpec := { name := "outlineLevels", fn := fun _ => fun
  | [d1, d2] => { results := [.lit (.bool false)], args := [d1, d2] }
  | _ => none }
def OutlineLevelsWrongFalsely : Prop := outlineLevelsRow.holds Tryz.pinned (OpenSpec.ofChange outlineLevelsWrong)

/-- 'gessolaw17.OutlineCloses': WHATEVER THE INPUT: true; the input reads as it did. -/
def outlineClosesSpec : ChangeSpec := { name := "outlineCloses", fn := fun _ => fun
  | [d] => { results := [.lit (.bool true)], args := [d] }
  | _ => none }
def outlineClosesRow : OpenClaim := { program := "ytdnmfaljidjijaagreat", sum := "1471118dede08f65c9c44b3fe69516c1f1909faa50749806d521ab2a2fa3ecd8", func := "gesso/gessolaw17.OutlineCloses", spec := "outlineCloses", inPlace := ["math/bits.Add64", "math/bits.Sub64", "sync/atomic.LoadUint32", "(*internal/sync.Mutex).Lock", "internal/race.Disable", "sync/atomic.CompareAndSwapInt32", "internal/race.Enable", "internal/race.Acquire", "(*internal/sync.Mutex).lockSlow", "internal/sync.runtime_canSpin", "internal/sync.runtime_doSpin", "internal/sync.throw", "internal/sync.runtime_nanotime", "internal/sync.runtime_SemacquireMutex", "sync/atomic.AddInt32", "(*internal/sync.Mutex).Unlock", "internal/race.ReleaseMerge", "(*internal/sync.Mutex).unlockSlow", "internal/sync.fatal", "internal/sync.runtime_Semrelease", "sync/atomic.StoreUint32"], unfollowed := true, recurses := true, named := ["math/bits.divideError", "math/bits.overflowError"], apart := false }
def OutlineClosesSaid : Prop := outlineClosesRow.holds Tryz.pinned (OpenSpec.ofChange outlineClosesSpec)

/-- ITS FALSE NEIGHBOUR: 'it returns false'. Refute it at one input. -/
def outlineClosesWrong : ChangeSpec := { name := "outlineCloses", fn := fun _ => fun
  | [d] => { results := [.lit (.bool false)], args := [d] }
  | _ => none }
def OutlineClosesWrongFalsely : Prop := outlineClosesRow.holds Tryz.pinned (OpenSpec.ofChange outlineClosesWrong)

/-- 'gessolaw17.OutlineMaps': WHATEVER THE INPUT: true; the input reads as it did. -/
def outlineMapsSpec : ChangeSpec := { name := "outlineMaps", fn := fun _ => fun
  | [d1, d2] => { results := [.lit (.bool true)], args := [d1, d2] }
  | _ => none }
def outlineMapsRow : OpenClaim := { program := "ytdnmfaljidjijaagreat", sum := "1471118dede08f65c9c44b3fe69516c1f1909faa50749806d521ab2a2fa3ecd8", func := "gesso/gessolaw17.OutlineMaps", spec := "outlineMaps", inPlace := ["math/bits.Add64", "math/bits.Sub64", "sync/atomic.LoadUint32", "(*internal/sync.Mutex).Lock", "internal/race.Disable", "sync/atomic.CompareAndSwapInt32", "internal/race.Enable", "internal/race.Acquire", "(*internal/sync.Mutex).lockSlow", "internal/sync.runtime_canSpin", "internal/sync.runtime_doSpin", "internal/sync.throw", "internal/sync.runtime_nanotime", "internal/sync.runtime_SemacquireMutex", "sync/atomic.AddInt32", "(*internal/sync.Mutex).Unlock", "internal/race.ReleaseMerge", "(*internal/sync.Mutex).unlockSlow", "internal/sync.fatal", "internal/sync.runtime_Semrelease", "sync/atomic.StoreUint32"], unfollowed := true, recurses := true, named := ["math/bits.divideError", "math/bits.overflowError"], apart := false }
def OutlineMapsSaid : Prop := outlineMapsRow.holds Tryz.pinned (OpenSpec.ofChange outlineMapsSpec)

/-- ITS FALSE NEIGHBOUR: 'it returns false'. Refute it at one input. -/
def outlineMapsWrong : ChangeSpec := { name := "outlineMaps", fn := fun _ => fun
  | [d1, d2] => { results := [.lit (.bool false)], args := [d1, d2] }
  | _ => none }
def OutlineMapsWrongFalsely : Prop := outlineMapsRow.holds Tryz.pinned (OpenSpec.ofChange outlineMapsWrong)

/-- 'gessolaw22.StrokePieces': WHATEVER THE INPUT: true; the input reads as it did. -/
def strokePiecesSpec : ChangeSpec := { name := "strokePieces", fn := fun _ => fun
  | [d1, d2] => { results := [.lit (.bool true)], args := [d1, d2] }
  | _ => none }
def strokePiecesRow : OpenClaim := { program := "ytdnmfaljidjijaagreat", sum := "1471118dede08f65c9c44b3fe69516c1f1909faa50749806d521ab2a2fa3ecd8", func := "gesso/gessolaw22.StrokePieces", spec := "strokePieces", inPlace := ["math/bits.Add64", "math/bits.Sub64", "sync/atomic.LoadUint32", "(*internal/sync.Mutex).Lock", "internal/race.Disable", "sync/atomic.CompareAndSwapInt32", "internal/race.Enable", "internal/race.Acquire", "(*internal/sync.Mutex).lockSlow", "internal/sync.runtime_canSpin", "internal/sync.runtime_doSpin", "internal/sync.throw", "internal/sync.runtime_nanotime", "internal/sync.runtime_SemacquireMutex", "sync/atomic.AddInt32", "(*internal/sync.Mutex).Unlock", "internal/race.ReleaseMerge", "(*internal/sync.Mutex).unlockSlow", "internal/sync.fatal", "internal/sync.runtime_Semrelease", "sync/atomic.StoreUint32", "sync/atomic.AddInt64"], unfollowed := true, recurses := true, named := ["math/bits.divideError", "math/bits.overflowError"], apart := false }
def StrokePiecesSaid : Prop := strokePiecesRow.holds Tryz.pinned (OpenSpec.ofChange strokePiecesSpec)

/-- ITS FALSE NEIGHBOUR: 'it returns false'. Refute it at one input. -/
def strokePiecesWrong : ChangeSpec := { name := "strokePieces", fn := fun _ => fun
  | [d1, d2] => { results := [.lit (.bool false)], args := [d1, d2] }
  | _ => none }
def StrokePiecesWrongFalsely : Prop := strokePiecesRow.holds Tryz.pinned (OpenSpec.ofChange strokePiecesWrong)

/-- 'gessolaw22.StrokeMaps': WHATEVER THE INPUT: true; the input reads as it did. -/
def strokeMapsSpec : ChangeSpec := { name := "strokeMaps", fn := fun _ => fun
  | [d1, d2] => { results := [.lit (.bool true)], args := [d1, d2] }
  | _ => none }
def strokeMapsRow : OpenClaim := { program := "ytdnmfaljidjijaagreat", sum := "1471118dede08f65c9c44b3fe69516c1f1909faa50749806d521ab2a2fa3ecd8", func := "gesso/gessolaw22.StrokeMaps", spec := "strokeMaps", inPlace := ["math/bits.Add64", "math/bits.Sub64", "sync/atomic.LoadUint32", "(*internal/sync.Mutex).Lock", "internal/race.Disable", "sync/atomic.CompareAndSwapInt32", "internal/race.Enable", "internal/race.Acquire", "(*internal/sync.Mutex).lockSlow", "internal/sync.runtime_canSpin", "internal/sync.runtime_doSpin", "internal/sync.throw", "internal/sync.runtime_nanotime", "internal/sync.runtime_SemacquireMutex", "sync/atomic.AddInt32", "(*internal/sync.Mutex).Unlock", "internal/race.ReleaseMerge", "(*internal/sync.Mutex).unlockSlow", "internal/sync.fatal", "internal/sync.runtime_Semrelease", "sync/atomic.StoreUint32", "sync/atomic.AddInt64"], unfollowed := true, recurses := true, named := ["math/bits.divideError", "math/bits.overflowError"], apart := false }
def StrokeMapsSaid : Prop := strokeMapsRow.holds Tryz.pinned (OpenSpec.ofChange strokeMapsSpec)

/-- ITS FALSE NEIGHBOUR: 'it returns false'. Refute it at one input. -/
def strokeMapsWrong : ChangeSpec := { name := "strokeMaps", fn := fun _ => fun
  | [d1, d2] => { results := [.lit (.bool false)], args := [d1, d2] }
  | _ => none }
def StrokeMapsWrongFalsely : Prop := strokeMapsRow.holds Tryz.pinned (OpenSpec.ofChange strokeMapsWrong)

/-- 'gessolaw22.StrokeCounts': WHATEVER THE INPUT: true; the input reads as it did. -/
def strokeCountsSpec : ChangeSpec := { name := "strokeCounts", fn := fun _ => fun
  | [d1, d2] => { results := [.lit (.bool true)], args := [d1, d2] }
  | _ => none }
def strokeCountsRow : OpenClaim := { program := "ytdnmfaljidjijaagreat", sum := "1471118dede08f65c9c44b3fe69516c1f1909faa50749806d521ab2a2fa3ecd8", func := "gesso/gessolaw22.StrokeCounts", spec := "strokeCounts", inPlace := ["math/bits.Add64", "math/bits.Sub64", "sync/atomic.LoadUint32", "(*internal/sync.Mutex).Lock", "internal/race.Disable", "sync/atomic.CompareAndSwapInt32", "internal/race.Enable", "internal/race.Acquire", "(*internal/sync.Mutex).lockSlow", "internal/sync.runtime_canSpin", "internal/sync.runtime_doSpin", "internal/sync.throw", "internal/sync.runtime_nanotime", "internal/sync.runtime_SemacquireMutex", "sync/atomic.AddInt32", "(*internal/sync.Mutex).Unlock", "internal/race.ReleaseMerge", "(*internal/sync.Mutex).unlockSlow", "internal/sync.fatal", "internal/sync.runtime_Semrelease", "sync/atomic.StoreUint32", "sync/atomic.AddInt64"], unfollowed := true, recurses := true, named := ["math/bits.divideError", "math/bits.overflowError"], apart := false }
def StrokeCountsSaid : Prop := strokeCountsRow.holds Tryz.pinned (OpenSpec.ofChange strokeCountsSpec)

/-- ITS FALSE NEIGHBOUR: 'it returns false'. Refute it at one input. -/
def strokeCountsWrong : ChangeSpec := { name := "strokeCounts", fn := fun _ => fun
  | [d1, d2] => { results := [.lit (.bool false)], args := [d1, d2] }
  | _ => none }
def StrokeCountsWrongFalsely : Prop := strokeCountsRow.holds Tryz.pinned (OpenSpec.ofChange strokeCountsWrong)

/-- 'gessolaw22.StrokeCovers': WHATEVER THE INPUT: true; the input reads as it did. -/
def strokeCoversSpec : ChangeSpec := { name := "strokeCovers", fn := fun _ => fun
  | [d1, d2, d3] => { results := [.lit (.bool true)], args := [d1, d2, d3] }
  | _ => none }
def strokeCoversRow : OpenClaim := { program := "ytdnmfaljidjijaagreat", sum := "1471118dede08f65c9c44b3fe69516c1f1909faa50749806d521ab2a2fa3ecd8", func := "gesso/gessolaw22.StrokeCovers", spec := "strokeCovers", inPlace := ["math/bits.Add64", "math/bits.Sub64", "sync/atomic.LoadUint32", "(*internal/sync.Mutex).Lock", "internal/race.Disable", "sync/atomic.CompareAndSwapInt32", "internal/race.Enable", "internal/race.Acquire", "(*internal/sync.Mutex).lockSlow", "internal/sync.runtime_canSpin", "internal/sync.runtime_doSpin", "internal/sync.throw", "internal/sync.runtime_nanotime", "internal/sync.runtime_SemacquireMutex", "sync/atomic.AddInt32", "(*internal/sync.Mutex).Unlock", "internal/race.ReleaseMerge", "(*internal/sync.Mutex).unlockSlow", "internal/sync.fatal", "internal/sync.runtime_Semrelease", "sync/atomic.StoreUint32", "sync/atomic.AddInt64"], unfollowed := true, recurses := true, named := ["math/bits.divideError", "math/bits.overflowError"], apart := false }
def StrokeCoversSaid : Prop := strokeCoversRow.holds Tryz.pinned (OpenSpec.ofChange strokeCoversSpec)

/-- ITS FALSE NEIGHBOUR: 'it returns false'. Refute it at one input. -/
def strokeCoversWrong : ChangeSpec := { name := "strokeCovers", fn := fun _ => fun
  | [d1, d2, d3] => { results := [.lit (.bool false)], args := [d1, d2, d3] }
  | _ => none }
def StrokeCoversWrongFalsely : Prop := strokeCoversRow.holds Tryz.pinned (OpenSpec.ofChange strokeCoversWrong)

/-- 'gessolaw22.StrokeNear': WHATEVER THE INPUT: true; the input reads as it did. -/
def strokeNearSpec : ChangeSpec := { name := "strokeNear", fn := fun _ => fun
  | [d1, d2] => { results := [.lit (.bool true)], args := [d1, d2] }
  | _ => none }
def strokeNearRow : OpenClaim := { program := "ytdnmfaljidjijaagreat", sum := "1471118dede08f65c9c44b3fe69516c1f1909faa50749806d521ab2a2fa3ecd8", func := "gesso/gessolaw22.StrokeNear", spec := "strokeNear", inPlace := ["math/bits.Add64", "math/bits.Sub64", "sync/atomic.LoadUint32", "(*internal/sync.Mutex).Lock", "internal/race.Disable", "sync/atomic.CompareAndSwapInt32", "internal/race.Enable", "internal/race.Acquire", "(*internal/sync.Mutex).lockSlow", "internal/sync.runtime_canSpin", "internal/sync.runtime_doSpin", "internal/sync.throw", "internal/sync.runtime_nanotime", "internal/sync.runtime_SemacquireMutex", "sync/atomic.AddInt32", "(*internal/sync.Mutex).Unlock", "internal/race.ReleaseMerge", "(*internal/sync.Mutex).unlockSlow", "internal/sync.fatal", "internal/sync.runtime_Semrelease", "sync/atomic.StoreUint32", "sync/atomic.AddInt64"], unfollowed := true, recurses := true, named := ["math/bits.divideError", "math/bits.overflowError"], apart := false }
def StrokeNearSaid : Prop := strokeNearRow.holds Tryz.pinned (OpenSpec.ofChange strokeNearSpec)

/-- ITS FALSE NEIGHBOUR: 'it returns false'. Refute it at one input. -/
def strokeNearWrong : ChangeSpec := { name := "strokeNear", fn := fun _ => fun
  | [d1, d2] => { results := [.lit (.bool false)], args := [d1, d2] }
  | _ => none }
def StrokeNearWrongFalsely : Prop := strokeNearRow.holds Tryz.pinned (OpenSpec.ofChange strokeNearWrong)

/-- 'gessolaw22.StrokeConvex': WHATEVER THE INPUT: true; the input reads as it did. -/
def strokeConvexSpec : ChangeSpec := { name := "strokeConvex", fn := fun _ => fun
  | [d1, d2, d3] => { results := [.lit (.bool true)], args := [d1, d2, d3] }
  | _ => none }
def strokeConvexRow : OpenClaim := { program := "ytdnmfaljidjijaagreat", sum := "1471118dede08f65c9c44b3fe69516c1f1909faa50749806d521ab2a2fa3ecd8", func := "gesso/gessolaw22.StrokeConvex", spec := "strokeConvex", inPlace := ["math/bits.Add64", "math/bits.Sub64", "sync/atomic.LoadUint32", "(*internal/sync.Mutex).Lock", "internal/race.Disable", "sync/atomic.CompareAndSwapInt32", "internal/race.Enable", "internal/race.Acquire", "(*internal/sync.Mutex).lockSlow", "internal/sync.runtime_canSpin", "internal/sync.runtime_doSpin", "internal/sync.throw", "internal/sync.runtime_nanotime", "internal/sync.runtime_SemacquireMutex", "sync/atomic.AddInt32", "(*internal/sync.Mutex).Unlock", "internal/race.ReleaseMerge", "(*internal/sync.Mutex).unlockSlow", "internal/sync.fatal", "internal/sync.runtime_Semrelease", "sync/atomic.StoreUint32", "sync/atomic.AddInt64"], unfollowed := true, recurses := true, named := ["math/bits.divideError", "math/bits.overflowError"], apart := false }
def StrokeConvexSaid : Prop := strokeConvexRow.holds Tryz.pinned (OpenSpec.ofChange strokeConvexSpec)

/-- ITS FALSE NEIGHBOUR: 'it returns false'. Refute it at one input. -/
def strokeConvexWrong : ChangeSpec := { name := "strokeConvex", fn := fun _ => fun
  | [d1, d2, d3] => { results := [.lit (.bool false)], args := [d1, d2, d3] }
  | _ => none }
def StrokeConvexWrongFalsely : Prop := strokeConvexRow.holds Tryz.pinned (OpenSpec.ofChange strokeConvexWrong)

/- THE SECOND FORM. 'bulk': how many values and letters a reading holds, each counted each time it is reached (what is shared counts as often as it is met; a slice's spare places count too). A statement '..UptoSaid' is the law's where the arguments, and the package variables that the reading takes, are together of bulk at most 1048576: NARROWER than '..Said'. Prove '..Said' where nothing that the law and all that it calls make is longer than what came in: it says more and counts as full. Else prove '..UptoSaid'. A law counts once. -/
mutual
def uptoBulk {H : Type} : DataW H → Nat
  | .lit (.string bytes) => bytes.length + 1
  | .lit _ => 1
  | .nil => 1
  | .ptr d => uptoBulk d + 1
  | .slice elems spare => uptoBulkAll elems + uptoBulkAll spare + 1
  | .agg parts => uptoBulkAll parts + 1
  | .iface _ d => uptoBulk d + 1
  | .map entries => uptoBulkEntries entries + 1
  | .held _ => 1
def uptoBulkAll {H : Type} : List (DataW H) → Nat
  | [] => 0
  | d :: r => uptoBulk d + uptoBulkAll r
def uptoBulkEntries {H : Type} : List (Lit × DataW H) → Nat
  | [] => 0
  | x :: r => uptoBulkEntry x + uptoBulkEntries r
def uptoBulkEntry {H : Type} : Lit × DataW H → Nat
  | (.string bytes, d) => bytes.length + uptoBulk d + 1
  | (_, d) => uptoBulk d + 1
 end
def uptoSmall : (H : Type) → List (DataW H) → Bool := fun _ ds => decide (uptoBulkAll ds ≤ 1048576)
def OpenSpec.upto (s : _root_.Go.ChangeSpec) : _root_.Go.OpenSpec := { _root_.Go.OpenSpec.ofChange s with cond := some uptoSmall }

/-- 'gessolaw17.OutlineLines', WHERE WHAT IT READS IS OF BULK AT MOST 1048576: true; the input reads as it did. -/
def outlineLinesUptoRow : OpenClaim := { program := "ytdnmfaljidjijaagreat", sum := "1471118dede08f65c9c44b3fe69516c1f1909faa50749806d521ab2a2fa3ecd8", func := "gesso/gessolaw17.OutlineLines", spec := "outlineLines", inPlace := ["math/bits.Add64", "math/bits.Sub64", "sync/atomic.LoadUint32", "(*internal/sync.Mutex).Lock", "internal/race.Disable", "sync/atomic.CompareAndSwapInt32", "internal/race.Enable", "internal/race.Acquire", "(*internal/sync.Mutex).lockSlow", "internal/sync.runtime_canSpin", "internal/sync.runtime_doSpin", "internal/sync.throw", "internal/sync.runtime_nanotime", "internal/sync.runtime_SemacquireMutex", "sync/atomic.AddInt32", "(*internal/sync.Mutex).Unlock", "internal/race.ReleaseMerge", "(*internal/sync.Mutex).unlockSlow", "internal/sync.fatal", "internal/sync.runtime_Semrelease", "sync/atomic.StoreUint32"], unfollowed := true, recurses := true, named := ["math/bits.divideError", "math/bits.overflowError"], apart := false, narrowed := true }
def OutlineLinesUptoSaid : Prop := outlineLinesUptoRow.holds Tryz.pinned (OpenSpec.upto outlineLinesSpec)

/-- 'gessolaw17.OutlineEdges', WHERE WHAT IT READS IS OF BULK AT MOST 1048576: true; the input reads as it did. -/
def outlineEdgesUptoRow : OpenClaim := { program := "ytdnmfaljidjijaagreat", sum := "1471118dede08f65c9c44b3fe69516c1f1909faa50749806d521ab2a2fa3ecd8", func := "gesso/gessolaw17.OutlineEdges", spec := "outlineEdges", inPlace := ["math/bits.Add64", "math/bits.Sub64", "sync/atomic.LoadUint32", "(*internal/sync.Mutex).Lock", "internal/race.Disable", "sync/atomic.CompareAndSwapInt32", "internal/race.Enable", "internal/race.Acquire", "(*internal/sync.Mutex).lockSlow", "internal/sync.runtime_canSpin", "internal/sync.runtime_doSpin", "internal/sync.throw", "internal/sync.runtime_nanotime", "internal/sync.runtime_SemacquireMutex", "sync/atomic.AddInt32", "(*internal/sync.Mutex).Unlock", "internal/race.ReleaseMerge", "(*internal/sync.Mutex).unlockSlow", "internal/sync.fatal", "internal/sync.runtime_Semrelease", "sync/atomic.StoreUint32"], unfollowed := true, recurses := true, named := ["math/bits.divideError", "math/bits.overflowError"], apart := false, narrowed := true }
def OutlineEdgesUptoSaid : Prop := outlineEdgesUptoRow.holds Tryz.pinned (OpenSpec.upto outlineEdgesSpec)

/-- 'gessolaw17.OutlineLevels', WHERE WHAT IT READS IS OF BULK AT MOST 1048576: true; the input reads as it did. -/
def outlineLevelsUptoRow : OpenClaim := { program := "ytdnmfaljidjijaagreat", sum := "1471118dede08f65c9c44b3fe69516c1f1909faa50749806d521ab2a2fa3ecd8", func := "gesso/gessolaw17.OutlineLevels", spec := "outlineLevels", inPlace := ["math/bits.Add64", "math/bits.Sub64", "sync/atomic.LoadUint32", "(*internal/sync.Mutex).Lock", "internal/race.Disable", "sync/atomic.CompareAndSwapInt32", "internal/race.Enable", "internal/race.Acquire", "(*internal/sync.Mutex).lockSlow", "internal/sync.runtime_canSpin", "internal/sync.runtime_doSpin", "internal/sync.throw", "internal/sync.runtime_nanotime", "internal/sync.runtime_SemacquireMutex", "sync/atomic.AddInt32", "(*internal/sync.Mutex).Unlock", "internal/race.ReleaseMerge", "(*internal/sync.Mutex).unlockSlow", "internal/sync.fatal", "internal/sync.runtime_Semrelease", "sync/atomic.StoreUint32"], unfollowed := true, recurses := true, named := ["math/bits.divideError", "math/bits.overflowError"], apart := false, narrowed := true }
def OutlineLevelsUptoSaid : Prop := outlineLevelsUptoRow.holds Tryz.pinned (OpenSpec.upto outlineLevelsSpec)

/-- 'gessolaw17.OutlineCloses', WHERE WHAT IT READS IS OF BULK AT MOST 1048576: true; the input reads as it did. -/
def outlineClosesUptoRow : OpenClaim := { program := "ytdnmfaljidjijaagreat", sum := "1471118dede08f65c9c44b3fe69516c1f1909faa50749806d521ab2a2fa3ecd8", func := "gesso/gessolaw17.OutlineCloses", spec := "outlineCloses", inPlace := ["math/bits.Add64", "math/bits.Sub64", "sync/atomic.LoadUint32", "(*internal/sync.Mutex).Lock", "internal/race.Disable", "sync/atomic.CompareAndSwapInt32", "internal/race.Enable", "internal/race.Acquire", "(*internal/sync.Mutex).lockSlow", "internal/sync.runtime_canSpin", "internal/sync.runtime_doSpin", "internal/sync.throw", "internal/sync.runtime_nanotime", "internal/sync.runtime_SemacquireMutex", "sync/atomic.AddInt32", "(*internal/sync.Mutex).Unlock", "internal/race.ReleaseMerge", "(*internal/sync.Mutex).unlockSlow", "internal/sync.fatal", "internal/sync.runtime_Semrelease", "sync/atomic.StoreUint32"], unfollowed := true, recurses := true, named := ["math/bits.divideError", "math/bits.overflowError"], apart := false, narrowed := true }
def OutlineClosesUptoSaid : Prop := outlineClosesUptoRow.holds Tryz.pinned (OpenSpec.upto outlineClosesSpec)

/-- 'gessolaw17.OutlineMaps', WHERE WHAT IT READS IS OF BULK AT MOST 1048576: true; the input reads as it did. -/
def outlineMapsUptoRow : OpenClaim := { program := "ytdnmfaljidjijaagreat", sum := "1471118dede08f65c9c44b3fe69516c1f1909faa50749806d521ab2a2fa3ecd8", func := "gesso/gessolaw17.OutlineMaps", spec := "outlineMaps", inPlace := ["math/bits.Add64", "math/bits.Sub64", "sync/atomic.LoadUint32", "(*internal/sync.Mutex).Lock", "internal/race.Disable", "sync/atomic.CompareAndSwapInt32", "internal/race.Enable", "internal/race.Acquire", "(*internal/sync.Mutex).lockSlow", "internal/sync.runtime_canSpin", "internal/sync.runtime_doSpin", "internal/sync.throw", "internal/sync.runtime_nanotime", "internal/sync.runtime_SemacquireMutex", "sync/atomic.AddInt32", "(*internal/sync.Mutex).Unlock", "internal/race.ReleaseMerge", "(*internal/sync.Mutex).unlockSlow", "internal/sync.fatal", "internal/sync.runtime_Semrelease", "sync/atomic.StoreUint32"], unfollowed := true, recurses := true, named := ["math/bits.divideError", "math/bits.overflowError"], apart := false, narrowed := true }
def OutlineMapsUptoSaid : Prop := outlineMapsUptoRow.holds Tryz.pinned (OpenSpec.upto outlineMapsSpec)

/-- 'gessolaw22.StrokePieces', WHERE WHAT IT READS IS OF BULK AT MOST 1048576: true; the input reads as it did. -/
def strokePiecesUptoRow : OpenClaim := { program := "ytdnmfaljidjijaagreat", sum := "1471118dede08f65c9c44b3fe69516c1f1909faa50749806d521ab2a2fa3ecd8", func := "gesso/gessolaw22.StrokePieces", spec := "strokePieces", inPlace := ["math/bits.Add64", "math/bits.Sub64", "sync/atomic.LoadUint32", "(*internal/sync.Mutex).Lock", "internal/race.Disable", "sync/atomic.CompareAndSwapInt32", "internal/race.Enable", "internal/race.Acquire", "(*internal/sync.Mutex).lockSlow", "internal/sync.runtime_canSpin", "internal/sync.runtime_doSpin", "internal/sync.throw", "internal/sync.runtime_nanotime", "internal/sync.runtime_SemacquireMutex", "sync/atomic.AddInt32", "(*internal/sync.Mutex).Unlock", "internal/race.ReleaseMerge", "(*internal/sync.Mutex).unlockSlow", "internal/sync.fatal", "internal/sync.runtime_Semrelease", "sync/atomic.StoreUint32", "sync/atomic.AddInt64"], unfollowed := true, recurses := true, named := ["math/bits.divideError", "math/bits.overflowError"], apart := false, narrowed := true }
def StrokePiecesUptoSaid : Prop := strokePiecesUptoRow.holds Tryz.pinned (OpenSpec.upto strokePiecesSpec)

/-- 'gessolaw22.StrokeMaps', WHERE WHAT IT READS IS OF BULK AT MOST 1048576: true; the input reads as it did. -/
def strokeMapsUptoRow : OpenClaim := { program := "ytdnmfaljidjijaagreat", sum := "1471118dede08f65c9c44b3fe69516c1f1909faa50749806d521ab2a2fa3ecd8", func := "gesso/gessolaw22.StrokeMaps", spec := "strokeMaps", inPlace := ["math/bits.Add64", "math/bits.Sub64", "sync/atomic.LoadUint32", "(*internal/sync.Mutex).Lock", "internal/race.Disable", "sync/atomic.CompareAndSwapInt32", "internal/race.Enable", "internal/race.Acquire", "(*internal/sync.Mutex).lockSlow", "internal/sync.runtime_canSpin", "internal/sync.runtime_doSpin", "internal/sync.throw", "internal/sync.runtime_nanotime", "internal/sync.runtime_SemacquireMutex", "sync/atomic.AddInt32", "(*internal/sync.Mutex).Unlock", "internal/race.ReleaseMerge", "(*internal/sync.Mutex).unlockSlow", "internal/sync.fatal", "internal/sync.runtime_Semrelease", "sync/atomic.StoreUint32", "sync/atomic.AddInt64"], unfollowed := true, recurses := true, named := ["math/bits.divideError", "math/bits.overflowError"], apart := false, narrowed := true }
def StrokeMapsUptoSaid : Prop := strokeMapsUptoRow.holds Tryz.pinned (OpenSpec.upto strokeMapsSpec)

/-- 'gessolaw22.StrokeCounts', WHERE WHAT IT READS IS OF BULK AT MOST 1048576: true; the input reads as it did. -/
def strokeCountsUptoRow : OpenClaim := { program := "ytdnmfaljidjijaagreat", sum := "1471118dede08f65c9c44b3fe69516c1f1909faa50749806d521ab2a2fa3ecd8", func := "gesso/gessolaw22.StrokeCounts", spec := "strokeCounts", inPlace := ["math/bits.Add64", "math/bits.Sub64", "sync/atomic.LoadUint32", "(*internal/sync.Mutex).Lock", "internal/race.Disable", "sync/atomic.CompareAndSwapInt32", "internal/race.Enable", "internal/race.Acquire", "(*internal/sync.Mutex).lockSlow", "internal/sync.runtime_canSpin", "internal/sync.runtime_doSpin", "internal/sync.throw", "internal/sync.runtime_nanotime", "internal/sync.runtime_SemacquireMutex", "sync/atomic.AddInt32", "(*internal/sync.Mutex).Unlock", "internal/race.ReleaseMerge", "(*internal/sync.Mutex).unlockSlow", "internal/sync.fatal", "internal/sync.runtime_Semrelease", "sync/atomic.StoreUint32", "sync/atomic.AddInt64"], unfollowed := true, recurses := true, named := ["math/bits.divideError", "math/bits.overflowError"], apart := false, narrowed := true }
def StrokeCountsUptoSaid : Prop := strokeCountsUptoRow.holds Tryz.pinned (OpenSpec.upto strokeCountsSpec)

/-- 'gessolaw22.StrokeCovers', WHERE WHAT IT READS IS OF BULK AT MOST 1048576: true; the input reads as it did. -/
def strokeCoversUptoRow : OpenClaim := { program := "ytdnmfaljidjijaagreat", sum := "1471118dede08f65c9c44b3fe69516c1f1909faa50749806d521ab2a2fa3ecd8", func := "gesso/gessolaw22.StrokeCovers", spec := "strokeCovers", inPlace := ["math/bits.Add64", "math/bits.Sub64", "sync/atomic.LoadUint32", "(*internal/sync.Mutex).Lock", "internal/race.Disable", "sync/atomic.CompareAndSwapInt32", "internal/race.Enable", "internal/race.Acquire", "(*internal/sync.Mutex).lockSlow", "internal/sync.runtime_canSpin", "internal/sync.runtime_doSpin", "internal/sync.throw", "internal/sync.runtime_nanotime", "internal/sync.runtime_SemacquireMutex", "sync/atomic.AddInt32", "(*internal/sync.Mutex).Unlock", "internal/race.ReleaseMerge", "(*internal/sync.Mutex).unlockSlow", "internal/sync.fatal", "internal/sync.runtime_Semrelease", "sync/atomic.StoreUint32", "sync/atomic.AddInt64"], unfollowed := true, recurses := true, named := ["math/bits.divideError", "math/bits.overflowError"], apart := false, narrowed := true }
def StrokeCoversUptoSaid : Prop := strokeCoversUptoRow.holds Tryz.pinned (OpenSpec.upto strokeCoversSpec)

/-- 'gessolaw22.StrokeNear', WHERE WHAT IT READS IS OF BULK AT MOST 1048576: true; the input reads as it did. -/
def strokeNearUptoRow : OpenClaim := { program := "ytdnmfaljidjijaagreat", sum := "1471118dede08f65c9c44b3fe69516c1f1909faa50749806d521ab2a2fa3ecd8", func := "gesso/gessolaw22.StrokeNear", spec := "strokeNear", inPlace := ["math/bits.Add64", "math/bits.Sub64", "sync/atomic.LoadUint32", "(*internal/sync.Mutex).Lock", "internal/race.Disable", "sync/atomic.CompareAndSwapInt32", "internal/race.Enable", "internal/race.Acquire", "(*internal/sync.Mutex).lockSlow", "internal/sync.runtime_canSpin", "internal/sync.runtime_doSpin", "internal/sync.throw", "internal/sync.runtime_nanotime", "internal/sync.runtime_SemacquireMutex", "sync/atomic.AddInt32", "(*internal/sync.Mutex).Unlock", "internal/race.ReleaseMerge", "(*internal/sync.Mutex).unlockSlow", "internal/sync.fatal", "internal/sync.runtime_Semrelease", "sync/atomic.StoreUint32", "sync/atomic.AddInt64"], unfollowed := true, recurses := true, named := ["math/bits.divideError", "math/bits.overflowError"], apart := false, narrowed := true }
def StrokeNearUptoSaid : Prop := strokeNearUptoRow.holds Tryz.pinned (OpenSpec.upto strokeNearSpec)

/-- 'gessolaw22.StrokeConvex', WHERE WHAT IT READS IS OF BULK AT MOST 1048576: true; the input reads as it did. -/
def strokeConvexUptoRow : OpenClaim := { program := "ytdnmfaljidjijaagreat", sum := "1471118dede08f65c9c44b3fe69516c1f1909faa50749806d521ab2a2fa3ecd8", func := "gesso/gessolaw22.StrokeConvex", spec := "strokeConvex", inPlace := ["math/bits.Add64", "math/bits.Sub64", "sync/atomic.LoadUint32", "(*internal/sync.Mutex).Lock", "internal/race.Disable", "sync/atomic.CompareAndSwapInt32", "internal/race.Enable", "internal/race.Acquire", "(*internal/sync.Mutex).lockSlow", "internal/sync.runtime_canSpin", "internal/sync.runtime_doSpin", "internal/sync.throw", "internal/sync.runtime_nanotime", "internal/sync.runtime_SemacquireMutex", "sync/atomic.AddInt32", "(*internal/sync.Mutex).Unlock", "internal/race.ReleaseMerge", "(*internal/sync.Mutex).unlockSlow", "internal/sync.fatal", "internal/sync.runtime_Semrelease", "sync/atomic.StoreUint32", "sync/atomic.AddInt64"], unfollowed := true, recurses := true, named := ["math/bits.divideError", "math/bits.overflowError"], apart := false, narrowed := true }
def StrokeConvexUptoSaid : Prop := strokeConvexUptoRow.holds Tryz.pinned (OpenSpec.upto strokeConvexSpec)

end Rows
end Go.Proofs.YtdnmfaljidjijaaGreat
