/-
  No cell of these rows narrows 'for every input' (looked for: loops, veiled, ifaces, maps, wideKeys, modest, calm, conditions, laid).
  DERIVED. THE GIVEN ROWS OF THIS SEAT. 9 by the template 'for every input the law returns true; each argument reads behind the call as it read before'; 0 by the template 'total and deterministic' (their statements: YtckmenjbblgiiaaTotals.lean).
  GIVEN WITH THE SEED: the statements are not yours to turn. If you find one false, say at which input.
  Laid BY PROGRAM, IN A SANDBOX (cutbox-rows.mjs): the forced cells as the released guide's own fill.sh prints them over the translation dde977b696045b88… (all of the seat's roots in one cut). By AI agents, Wed Nov 11 2026. No macro, syntax, notation, axiom, sorry.
-/
import Derived.Test.YtckmenjbblgiiaaChecked
import GoSem.Claim
import GoSem.ClaimJoined
import GoSem.ClaimMapViews
import Derived.JoinedTies
import Derived.KernelRfl
namespace Go.Proofs.Ytckmenjbblgiiaa
/- THE CELL 'sum', in the pinned program and in every row, IS THE sha256 OF THE DUMP (.gsa) THAT YtckmenjbblgiiaaProg.lean LOADS. Nothing in Lean hashes anything: it is a label: what it is worth is what the hold of that sum in a sandbox is worth. -/
noncomputable def Try.pinned : Pinned := { name := "ytckmenjbblgiiaa", sum := "dde977b696045b880837db09eccddf98b5c975a1a828dfa4b2c3c8222ed97458", checked := Try.checked }
namespace Rows
def none {H : Type} : Left H := { results := [], args := [] }

/-- 'laws.FnPatterns': WHATEVER THE INPUT: true; the input reads as it did. -/
def fnPatternsSpec : ChangeSpec := { name := "fnPatterns", fn := fun _ => fun
  | [d] => { results := [.lit (.bool true)], args := [d] }
  | _ => none }
def fnPatternsRow : OpenClaim := { program := "ytckmenjbblgiiaa", sum := "dde977b696045b880837db09eccddf98b5c975a1a828dfa4b2c3c8222ed97458", func := "loop.example/g00879/laws.FnPatterns", spec := "fnPatterns", unfollowed := true, recurses := true, plainKeys := false, apart := false }
def FnPatternsSaid : Prop := fnPatternsRow.holds Try.pinned (OpenSpec.ofChange fnPatternsSpec)

/-- ITS FALSE NEIGHBOUR: 'it returns false'. Refute it at one input. -/
def fnPatternsWrong : ChangeSpec := { name := "fnPatterns", fn := fun _ => fun
  | [d] => { results := [.lit (.bool false)], args := [d] }
  | _ => none }
def FnPatternsWrongFalsely : Prop := fnPatternsRow.holds Try.pinned (OpenSpec.ofChange fnPatternsWrong)

/-- 'laws.FnExactFormatPlaces': WHATEVER THE INPUT: true; the input reads as it did. -/
def fnExactFormatPlacesSpec : ChangeSpec := { name := "fnExactFormatPlaces", fn := fun _ => fun
  | [d] => { results := [.lit (.bool true)], args := [d] }
  | _ => none }
def fnExactFormatPlacesRow : OpenClaim := { program := "ytckmenjbblgiiaa", sum := "dde977b696045b880837db09eccddf98b5c975a1a828dfa4b2c3c8222ed97458", func := "loop.example/g00879/laws.FnExactFormatPlaces", spec := "fnExactFormatPlaces", plainKeys := false, apart := false }
def FnExactFormatPlacesSaid : Prop := fnExactFormatPlacesRow.holds Try.pinned (OpenSpec.ofChange fnExactFormatPlacesSpec)

/-- ITS FALSE NEIGHBOUR: 'it returns false'. Refute it at one input. -/
def fnExactFormatPlacesWrong : ChangeSpec := { name := "fnExactFormatPlaces", fn := fun _ => fun
  | [d] => { results := [.lit (.bool false)], args := [d] }
  | _ => none }
def FnExactFormatPlacesWrongFalsely : Prop := fnExactFormatPlacesRow.holds Try.pinned (OpenSpec.ofChange fnExactFormatPlacesWrong)

/-- 'laws.FnExactPenaltyOf': WHATEVER THE INPUT: true; the input reads as it did. -/
def fnExactPenaltyOfSpec : ChangeSpec := { name := "fnExactPenaltyOf", fn := fun _ => fun
  | [d] => { results := [.lit (.bool true)], args := [d] }
  | _ => none }
def fnExactPenaltyOfRow : OpenClaim := { program := "ytckmenjbblgiiaa", sum := "dde977b696045b880837db09eccddf98b5c975a1a828dfa4b2c3c8222ed97458", func := "loop.example/g00879/laws.FnExactPenaltyOf", spec := "fnExactPenaltyOf", unfollowed := true, recurses := true, plainKeys := false, apart := false }
def FnExactPenaltyOfSaid : Prop := fnExactPenaltyOfRow.holds Try.pinned (OpenSpec.ofChange fnExactPenaltyOfSpec)

/-- ITS FALSE NEIGHBOUR: 'it returns false'. Refute it at one input. -/
def fnExactPenaltyOfWrong : ChangeSpec := { name := "fnExactPenaltyOf", fn := fun _ => fun
  | [d] => { results := [.lit (.bool false)], args := [d] }
  | _ => none }
def FnExactPenaltyOfWrongFalsely : Prop := fnExactPenaltyOfRow.holds Try.pinned (OpenSpec.ofChange fnExactPenaltyOfWrong)

/-- 'laws.FnExactPenaltyParts': WHATEVER THE INPUT: true; the input reads as it did. -/
def fnExactPenaltyPartsSpec : ChangeSpec := { name := "fnExactPenaltyParts", fn := fun _ => fun
  | [d] => { results := [.lit (.bool true)], args := [d] }
  | _ => none }
def fnExactPenaltyPartsRow : OpenClaim := { program := "ytckmenjbblgiiaa", sum := "dde977b696045b880837db09eccddf98b5c975a1a828dfa4b2c3c8222ed97458", func := "loop.example/g00879/laws.FnExactPenaltyParts", spec := "fnExactPenaltyParts", unfollowed := true, recurses := true, plainKeys := false, apart := false }
def FnExactPenaltyPartsSaid : Prop := fnExactPenaltyPartsRow.holds Try.pinned (OpenSpec.ofChange fnExactPenaltyPartsSpec)

/-- ITS FALSE NEIGHBOUR: 'it returns false'. Refute it at one input. -/
def fnExactPenaltyPartsWrong : ChangeSpec := { name := "fnExactPenaltyParts", fn := fun _ => fun
  | [d] => { results := [.lit (.bool false)], args := [d] }
  | _ => none }
def FnExactPenaltyPartsWrongFalsely : Prop := fnExactPenaltyPartsRow.holds Try.pinned (OpenSpec.ofChange fnExactPenaltyPartsWrong)

/-- 'laws.FnPenalties': WHATEVER THE INPUT: true; the input reads as it did. -/
def fnPenaltiesSpec : ChangeSpec := { name := "fnPenalties", fn := fun _ => fun
  | [d] => { results := [.lit (.bool true)], args := [d] }
  | _ => none }
def fnPenaltiesRow : OpenClaim := { program := "ytckmenjbblgiiaa", sum := "dde977b696045b880837db09eccddf98b5c975a1a828dfa4b2c3c8222ed97458", func := "loop.example/g00879/laws.FnPenalties", spec := "fnPenalties", unfollowed := true, recurses := true, plainKeys := false, apart := false }
def FnPenaltiesSaid : Prop := fnPenaltiesRow.holds Try.pinned (OpenSpec.ofChange fnPenaltiesSpec)

/-- ITS FALSE NEIGHBOUR: 'it returns false'. Refute it at one input. -/
def fnPenaltiesWrong : ChangeSpec := { name := "fnPenalties", fn := fun _ => fun
  | [d] => { results := [.lit (.bool false)], args := [d] }
  | _ => none }
def FnPenaltiesWrongFalsely : Prop := fnPenaltiesRow.holds Try.pinned (OpenSpec.ofChange fnPenaltiesWrong)

/-- 'laws.FnExactIsFamily': WHATEVER THE INPUT: true; the input reads as it did. -/
def fnExactIsFamilySpec : ChangeSpec := { name := "fnExactIsFamily", fn := fun _ => fun
  | [d] => { results := [.lit (.bool true)], args := [d] }
  | _ => none }
def fnExactIsFamilyRow : OpenClaim := { program := "ytckmenjbblgiiaa", sum := "dde977b696045b880837db09eccddf98b5c975a1a828dfa4b2c3c8222ed97458", func := "loop.example/g00879/laws.FnExactIsFamily", spec := "fnExactIsFamily", unfollowed := true, recurses := true, plainKeys := false, apart := false }
def FnExactIsFamilySaid : Prop := fnExactIsFamilyRow.holds Try.pinned (OpenSpec.ofChange fnExactIsFamilySpec)

/-- ITS FALSE NEIGHBOUR: 'it returns false'. Refute it at one input. -/
def fnExactIsFamilyWrong : ChangeSpec := { name := "fnExactIsFamily", fn := fun _ => fun
  | [d] => { results := [.lit (.bool false)], args := [d] }
  | _ => none }
def FnExactIsFamilyWrongFalsely : Prop := fnExactIsFamilyRow.holds Try.pinned (OpenSpec.ofChange fnExactIsFamilyWrong)

/-- 'laws.FnExactFamilyNamed': WHATEVER THE INPUT: true; the input reads as it did. -/
def fnExactFamilyNamedSpec : ChangeSpec := { name := "fnExactFamilyNamed", fn := fun _ => fun
  | [d] => { results := [.lit (.bool true)], args := [d] }
  | _ => none }
def fnExactFamilyNamedRow : OpenClaim := { program := "ytckmenjbblgiiaa", sum := "dde977b696045b880837db09eccddf98b5c975a1a828dfa4b2c3c8222ed97458", func := "loop.example/g00879/laws.FnExactFamilyNamed", spec := "fnExactFamilyNamed", inPlace := ["sync/atomic.LoadUint32", "(*internal/sync.Mutex).Lock", "internal/race.Disable", "sync/atomic.CompareAndSwapInt32", "internal/race.Enable", "internal/race.Acquire", "(*internal/sync.Mutex).lockSlow", "internal/sync.runtime_canSpin", "internal/sync.runtime_doSpin", "internal/sync.throw", "internal/sync.runtime_nanotime", "internal/sync.runtime_SemacquireMutex", "sync/atomic.AddInt32", "(*internal/sync.Mutex).Unlock", "internal/race.ReleaseMerge", "(*internal/sync.Mutex).unlockSlow", "internal/sync.fatal", "internal/sync.runtime_Semrelease", "sync/atomic.StoreUint32"], unfollowed := true, recurses := true, plainKeys := false, apart := false }
def FnExactFamilyNamedSaid : Prop := fnExactFamilyNamedRow.holds Try.pinned (OpenSpec.ofChange fnExactFamilyNamedSpec)

/-- ITS FALSE NEIGHBOUR: 'it returns false'. Refute it at one input. -/
def fnExactFamilyNamedWrong : ChangeSpec := { name := "fnExactFamilyNamed", fn := fun _ => fun
  | [d] => { results := [.lit (.bool false)], args := [d] }
  | _ => none }
def FnExactFamilyNamedWrongFalsely : Prop := fnExactFamilyNamedRow.holds Try.pinned (OpenSpec.ofChange fnExactFamilyNamedWrong)

/-- 'laws.FnExactLibrary': WHATEVER THE INPUT: true; the input reads as it did. -/
def fnExactLibrarySpec : ChangeSpec := { name := "fnExactLibrary", fn := fun _ => fun
  | [] => { results := [.lit (.bool true)], args := [] }
  | _ => none }
def fnExactLibraryRow : OpenClaim := { program := "ytckmenjbblgiiaa", sum := "dde977b696045b880837db09eccddf98b5c975a1a828dfa4b2c3c8222ed97458", func := "loop.example/g00879/laws.FnExactLibrary", spec := "fnExactLibrary", inPlace := ["sync/atomic.LoadUint32", "(*internal/sync.Mutex).Lock", "internal/race.Disable", "sync/atomic.CompareAndSwapInt32", "internal/race.Enable", "internal/race.Acquire", "(*internal/sync.Mutex).lockSlow", "internal/sync.runtime_canSpin", "internal/sync.runtime_doSpin", "internal/sync.throw", "internal/sync.runtime_nanotime", "internal/sync.runtime_SemacquireMutex", "sync/atomic.AddInt32", "(*internal/sync.Mutex).Unlock", "internal/race.ReleaseMerge", "(*internal/sync.Mutex).unlockSlow", "internal/sync.fatal", "internal/sync.runtime_Semrelease", "sync/atomic.StoreUint32"], unfollowed := true, recurses := true, plainKeys := false, apart := false }
def FnExactLibrarySaid : Prop := fnExactLibraryRow.holds Try.pinned (OpenSpec.ofChange fnExactLibrarySpec)

/-- ITS FALSE NEIGHBOUR: 'it returns false'. Refute it at one input. -/
def fnExactLibraryWrong : ChangeSpec := { name := "fnExactLibrary", fn := fun _ => fun
  | [] => { results := [.lit (.bool false)], args := [] }
  | _ => none }
def FnExactLibraryWrongFalsely : Prop := fnExactLibraryRow.holds Try.pinned (OpenSpec.ofChange fnExactLibraryWrong)

/-- 'laws.FnExactMissingParts': WHATEVER THE INPUT: true; the input reads as it did. -/
def fnExactMissingPartsSpec : ChangeSpec := { name := "fnExactMissingParts", fn := fun _ => fun
  | [d] => { results := [.lit (.bool true)], args := [d] }
  | _ => none }
def fnExactMissingPartsRow : OpenClaim := { program := "ytckmenjbblgiiaa", sum := "dde977b696045b880837db09eccddf98b5c975a1a828dfa4b2c3c8222ed97458", func := "loop.example/g00879/laws.FnExactMissingParts", spec := "fnExactMissingParts", plainKeys := false, apart := false }
def FnExactMissingPartsSaid : Prop := fnExactMissingPartsRow.holds Try.pinned (OpenSpec.ofChange fnExactMissingPartsSpec)

/-- ITS FALSE NEIGHBOUR: 'it returns false'. Refute it at one input. -/
def fnExactMissingPartsWrong : ChangeSpec := { name := "fnExactMissingParts", fn := fun _ => fun
  | [d] => { results := [.lit (.bool false)], args := [d] }
  | _ => none }
def FnExactMissingPartsWrongFalsely : Prop := fnExactMissingPartsRow.holds Try.pinned (OpenSpec.ofChange fnExactMissingPartsWrong)

/- THE SECOND FORM. 'bulk': how many values and letters a reading holds, each counted each time it is reached (what is shared counts as often as it is met; a slice's spare places count too). A statement '..UptoSaid' is the law's where the arguments, and the package variables that the reading takes, are together of bulk at most 1048576: NARROWER than '..Said'. Prove '..Said' where nothing that the law and all that it calls make is longer than what came in: it says more and counts as full. Else prove '..UptoSaid'. A law counts once. -/
mutual
def uptoBulk {H : Type} : DataW H → Nat
  | .lit (.string bytes) => bytes.length + 1
  | .lit _ => 1
  | .nil => 1
  | .ptr d => uptoBulk d + 1
  | .slice elems spare => uptoBulkAll elems + uptoBulkAll spare + 1
  | .agg parts => uptoBulkAll parts + 1
  | .iface _ d => uptoBulk d + 1
  | .map entries => uptoBulkEntries entries + 1
  | .held _ => 1
def uptoBulkAll {H : Type} : List (DataW H) → Nat
  | [] => 0
  | d :: r => uptoBulk d + uptoBulkAll r
def uptoBulkEntries {H : Type} : List (Lit × DataW H) → Nat
  | [] => 0
  | x :: r => uptoBulkEntry x + uptoBulkEntries r
def uptoBulkEntry {H : Type} : Lit × DataW H → Nat
  | (.string bytes, d) => bytes.length + uptoBulk d + 1
  | (_, d) => uptoBulk d + 1
 end
def uptoSmall : (H : Type) → List (DataW H) → Bool := fun _ ds => decide (uptoBulkAll ds ≤ 1048576)
def OpenSpec.upto (s : _root_.Go.ChangeSpec) : _root_.Go.OpenSpec := { _root_.Go.OpenSpec.ofChange s with cond := some uptoSmall }

/-- 'laws.FnPatterns', WHERE WHAT IT READS IS OF BULK AT MOST 1048576: true; the input reads as it did. -/
def fnPatternsUptoRow : OpenClaim := { program := "ytckmenjbblgiiaa", sum := "dde977b696045b880837db09eccddf98b5c975a1a828dfa4b2c3c8222ed97458", func := "loop.example/g00879/laws.FnPatterns", spec := "fnPatterns", unfollowed := true, recurses := true, plainKeys := false, apart := false, narrowed := true }
def FnPatternsUptoSaid : Prop := fnPatternsUptoRow.holds Try.pinned (OpenSpec.upto fnPatternsSpec)

/-- 'laws.FnExactFormatPlaces', WHERE WHAT IT READS IS OF BULK AT MOST 1048576: true; the input reads as it did. -/
def fnExactFormatPlacesUptoRow : OpenClaim := { program := "ytckmenjbblgiiaa", sum := "dde977b696045b880837db09eccddf98b5c975a1a828dfa4b2c3c8222ed97458", func := "loop.example/g00879/laws.FnExactFormatPlaces", spec := "fnExactFormatPlaces", plainKeys := false, apart := false, narrowed := true }
def FnExactFormatPlacesUptoSaid : Prop := fnExactFormatPlacesUptoRow.holds Try.pinned (OpenSpec.upto fnExactFormatPlacesSpec)

/-- 'laws.FnExactPenaltyOf', WHERE WHAT IT READS IS OF BULK AT MOST 1048576: true; the input reads as it did. -/
def fnExactPenaltyOfUptoRow : OpenClaim := { program := "ytckmenjbblgiiaa", sum := "dde977b696045b880837db09eccddf98b5c975a1a828dfa4b2c3c8222ed97458", func := "loop.example/g00879/laws.FnExactPenaltyOf", spec := "fnExactPenaltyOf", unfollowed := true, recurses := true, plainKeys := false, apart := false, narrowed := true }
def FnExactPenaltyOfUptoSaid : Prop := fnExactPenaltyOfUptoRow.holds Try.pinned (OpenSpec.upto fnExactPenaltyOfSpec)

/-- 'laws.FnExactPenaltyParts', WHERE WHAT IT READS IS OF BULK AT MOST 1048576: true; the input reads as it did. -/
def fnExactPenaltyPartsUptoRow : OpenClaim := { program := "ytckmenjbblgiiaa", sum := "dde977b696045b880837db09eccddf98b5c975a1a828dfa4b2c3c8222ed97458", func := "loop.example/g00879/laws.FnExactPenaltyParts", spec := "fnExactPenaltyParts", unfollowed := true, recurses := true, plainKeys := false, apart := false, narrowed := true }
def FnExactPenaltyPartsUptoSaid : Prop := fnExactPenaltyPartsUptoRow.holds Try.pinned (OpenSpec.upto fnExactPenaltyPartsSpec)

/-- 'laws.FnPenalties', WHERE WHAT IT READS IS OF BULK AT MOST 1048576: true; the input reads as it did. -/
def fnPenaltiesUptoRow : OpenClaim := { program := "ytckmenjbblgiiaa", sum := "dde977b696045b880837db09eccddf98b5c975a1a828dfa4b2c3c8222ed97458", func := "loop.example/g00879/laws.FnPenalties", spec := "fnPenalties", unfollowed := true, recurses := true, plainKeys := false, apart := false, narrowed := true }
def FnPenaltiesUptoSaid : Prop := fnPenaltiesUptoRow.holds Try.pinned (OpenSpec.upto fnPenaltiesSpec)

/-- 'laws.FnExactIsFamily', WHERE WHAT IT READS IS OF BULK AT MOST 1048576: true; the input reads as it did. -/
def fnExactIsFamilyUptoRow : OpenClaim := { program := "ytckmenjbblgiiaa", sum := "dde977b696045b880837db09eccddf98b5c975a1a828dfa4b2c3c8222ed97458", func := "loop.example/g00879/laws.FnExactIsFamily", spec := "fnExactIsFamily", unfollowed := true, recurses := true, plainKeys := false, apart := false, narrowed := true }
def FnExactIsFamilyUptoSaid : Prop := fnExactIsFamilyUptoRow.holds Try.pinned (OpenSpec.upto fnExactIsFamilySpec)

/-- 'laws.FnExactFamilyNamed', WHERE WHAT IT READS IS OF BULK AT MOST 1048576: true; the input reads as it did. -/
def fnExactFamilyNamedUptoRow : OpenClaim := { program := "ytckmenjbblgiiaa", sum := "dde977b696045b880837db09eccddf98b5c975a1a828dfa4b2c3c8222ed97458", func := "loop.example/g00879/laws.FnExactFamilyNamed", spec := "fnExactFamilyNamed", inPlace := ["sync/atomic.LoadUint32", "(*internal/sync.Mutex).Lock", "internal/race.Disable", "sync/atomic.CompareAndSwapInt32", "internal/race.Enable", "internal/race.Acquire", "(*internal/sync.Mutex).lockSlow", "internal/sync.runtime_canSpin", "internal/sync.runtime_doSpin", "internal/sync.throw", "internal/sync.runtime_nanotime", "internal/sync.runtime_SemacquireMutex", "sync/atomic.AddInt32", "(*internal/sync.Mutex).Unlock", "internal/race.ReleaseMerge", "(*internal/sync.Mutex).unlockSlow", "internal/sync.fatal", "internal/sync.runtime_Semrelease", "sync/atomic.StoreUint32"], unfollowed := true, recurses := true, plainKeys := false, apart := false, narrowed := true }
def FnExactFamilyNamedUptoSaid : Prop := fnExactFamilyNamedUptoRow.holds Try.pinned (OpenSpec.upto fnExactFamilyNamedSpec)

/-- 'laws.FnExactLibrary', WHERE WHAT IT READS IS OF BULK AT MOST 1048576: true; the input reads as it did. -/
def fnExactLibraryUptoRow : OpenClaim := { program := "ytckmenjbblgiiaa", sum := "dde977b696045b880837db09eccddf98b5c975a1a828dfa4b2c3c8222ed97458", func := "loop.example/g00879/laws.FnExactLibrary", spec := "fnExactLibrary", inPlace := ["sync/atomic.LoadUint32", "(*internal/sync.Mutex).Lock", "internal/race.Disable", "sync/atomic.CompareAndSwapInt32", "internal/race.Enable", "internal/race.Acquire", "(*internal/sync.Mutex).lockSlow", "internal/sync.runtime_canSpin", "internal/sync.runtime_doSpin", "internal/sync.throw", "internal/sync.runtime_nanotime", "internal/sync.runtime_SemacquireMutex", "sync/atomic.AddInt32", "(*internal/sync.Mutex).Unlock", "internal/race.ReleaseMerge", "(*internal/sync.Mutex).unlockSlow", "internal/sync.fatal", "internal/sync.runtime_Semrelease", "sync/atomic.StoreUint32"], unfollowed := true, recurses := true, plainKeys := false, apart := false, narrowed := true }
def FnExactLibraryUptoSaid : Prop := fnExactLibraryUptoRow.holds Try.pinned (OpenSpec.upto fnExactLibrarySpec)

/-- 'laws.FnExactMissingParts', WHERE WHAT IT READS IS OF BULK AT MOST 1048576: true; the input reads as it did. -/
def fnExactMissingPartsUptoRow : OpenClaim := { program := "ytckmenjbblgiiaa", sum := "dde977b696045b880837db09eccddf98b5c975a1a828dfa4b2c3c8222ed97458", func := "loop.example/g00879/laws.FnExactMissingParts", spec := "fnExactMissingParts", plainKeys := false, apart := false, narrowed := true }
def FnExactMissingPartsUptoSaid : Prop := fnExactMissingPartsUptoRow.holds Try.pinned (OpenSpec.upto fnExactMissingPartsSpec)

end Rows
end Go.Proofs.Ytckmenjbblgiiaa
