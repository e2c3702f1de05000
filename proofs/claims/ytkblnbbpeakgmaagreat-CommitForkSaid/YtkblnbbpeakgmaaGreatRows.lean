/-
  No cell of these rows narrows 'for every input' (looked for: loops, veiled, ifaces, maps, wideKeys, modest, calm, conditions, laid).
  DERIVED. THE GIVEN ROWS OF THIS SEAT. 25 by the template 'for every input the law returns true; each argument reads behind the call as it read before'; 0 by the template 'total and deterministic' (their statements: YtkblnbbpeakgmaaGreatTotals.lean).
  GIVEN WITH THE SEED: the statements are not yours to turn. If you find one false, say at which input.
  Laid BY PROGRAM, IN A SANDBOX (cutbox-rows.mjs): the forced cells as the released guide's own fill.sh prints them over the translation 11acfb2304027d39… (all of the seat's roots in one cut). By AI agents, Wed Nov 11 2026. No macro, syntax, notation, axiom, sorry.
-/
import Derived.Test.YtkblnbbpeakgmaaGreatChecked
import GoSem.Claim
import GoSem.ClaimJoined
import GoSem.ClaimMapViews
import Derived.JoinedTies
import Derived.KernelRfl
namespace Go.Proofs.YtkblnbbpeakgmaaGreat
/- THE CELL 'sum', in the pinned program and in every row, IS THE sha256 OF THE DUMP (.gsa) THAT YtkblnbbpeakgmaaGreatProg.lean LOADS. Nothing in Lean hashes anything: it is a label: what it is worth is what the hold of that sum in a sandbox is worth. -/
noncomputable def Tryz.pinned : Pinned := { name := "ytkblnbbpeakgmaagreat", sum := "11acfb2304027d3951b68f9861f802a7e035312224e17a8da66379540fcef8bd", checked := Tryz.checked }
namespace Rows
def none {H : Type} : Left H := { results := [], args := [] }

/-- 'lockboxlaw23.CommitEnds': WHATEVER THE INPUT: true; the input reads as it did. -/
def commitEndsSpec : ChangeSpec := { name := "commitEnds", fn := fun _ => fun
  | [d1, d2, d3] => { results := [.lit (.bool true)], args := [d1, d2, d3] }
  | _ => none }
def commitEndsRow : OpenClaim := { program := "ytkblnbbpeakgmaagreat", sum := "11acfb2304027d3951b68f9861f802a7e035312224e17a8da66379540fcef8bd", func := "lockbox/lockboxlaw23.CommitEnds", spec := "commitEnds", inPlace := ["internal/bytealg.MakeNoZero"], unfollowed := true, recurses := true, plainKeys := false, apart := false }
def CommitEndsSaid : Prop := commitEndsRow.holds Tryz.pinned (OpenSpec.ofChange commitEndsSpec)

/-- ITS FALSE NEIGHBOUR: 'it returns false'. Refute it at one input. -/
def commitEndsWrong : ChangeSpec := { name := "commitEnds", fn := fun _ => fun
  | [d1, d2, d3] => { results := [.lit (.bool false)], args := [d1, d2, d3] }
  | _ => none }
def CommitEndsWrongFalsely : Prop := commitEndsRow.holds Tryz.pinned (OpenSpec.ofChange commitEndsWrong)

/-- 'lockboxlaw23.CommitCrash': WHATEVER THE INPUT: true; the input reads as it did. -/
def commitCrashSpec : ChangeSpec := { name := "commitCrash", fn := fun _ => fun
  | [d1, d2, d3, d4, d5, d6] => { results := [.lit (.bool true)], args := [d1, d2, d3, d4, d5, d6] }
  | _ => none }
def commitCrashRow : OpenClaim := { program := "ytkblnbbpeakgmaagreat", sum := "11acfb2304027d3951b68f9861f802a7e035312224e17a8da66379540fcef8bd", func := "lockbox/lockboxlaw23.CommitCrash", spec := "commitCrash", inPlace := ["internal/bytealg.MakeNoZero"], unfollowed := true, recurses := true, plainKeys := false, apart := false }
def CommitCrashSaid : Prop := commitCrashRow.holds Tryz.pinned (OpenSpec.ofChange commitCrashSpec)

/-- ITS FALSE NEIGHBOUR: 'it returns false'. Refute it at one input. -/
def commitCrashWrong : ChangeSpec := { name := "commitCrash", fn := fun _ => fun
  | [d1, d2, d3, d4, d5, d6] => { results := [.lit (.bool false)], args := [d1, d2, d3, d4, d5, d6] }
  | _ => none }
def CommitCrashWrongFalsely : Prop := commitCrashRow.holds Tryz.pinned (OpenSpec.ofChange commitCrashWrong)

/-- 'lockboxlaw23.CommitFork': WHATEVER THE INPUT: true; the input reads as it did. -/
def commitForkSpec : ChangeSpec := { name := "commitFork", fn := fun _ => fun
  | [d1, d2, d3] => { results := [.lit (.bool true)], args := [d1, d2, d3] }
  | _ => none }
def commitForkRow : OpenClaim := { program := "ytkblnbbpeakgmaagreat", sum := "11acfb2304027d3951b68f9861f802a7e035312224e17a8da66379540fcef8bd", func := "lockbox/lockboxlaw23.CommitFork", spec := "commitFork", inPlace := ["internal/bytealg.MakeNoZero"], unfollowed := true, recurses := true, plainKeys := false, apart := false }
def CommitForkSaid : Prop := commitForkRow.holds Tryz.pinned (OpenSpec.ofChange commitForkSpec)

/-- ITS FALSE NEIGHBOUR: 'it returns false'. Refute it at one input. -/
def commitForkWrong : ChangeSpec := { name := "commitFork", fn := fun _ => fun
  | [d1, d2, d3] => { results := [.lit (.bool false)], args := [d1, d2, d3] }
  | _ => none }
def CommitForkWrongFalsely : Prop := commitForkRow.holds Tryz.pinned (OpenSpec.ofChange commitForkWrong)

/-- 'lockboxlaw23.CommitFoe': WHATEVER THE INPUT: true; the input reads as it did. -/
def commitFoeSpec : ChangeSpec := { name := "commitFoe", fn := fun _ => fun
  | [d1, d2, d3, d4, d5, d6] => { results := [.lit (.bool true)], args := [d1, d2, d3, d4, d5, d6] }
  | _ => none }
def commitFoeRow : OpenClaim := { program := "ytkblnbbpeakgmaagreat", sum := "11acfb2304027d3951b68f9861f802a7e035312224e17a8da66379540fcef8bd", func := "lockbox/lockboxlaw23.CommitFoe", spec := "commitFoe", inPlace := ["internal/bytealg.MakeNoZero"], unfollowed := true, recurses := true, plainKeys := false, apart := false }
def CommitFoeSaid : Prop := commitFoeRow.holds Tryz.pinned (OpenSpec.ofChange commitFoeSpec)

/-- ITS FALSE NEIGHBOUR: 'it returns false'. Refute it at one input. -/
def commitFoeWrong : ChangeSpec := { name := "commitFoe", fn := fun _ => fun
  | [d1, d2, d3, d4, d5, d6] => { results := [.lit (.bool false)], args := [d1, d2, d3, d4, d5, d6] }
  | _ => none }
def CommitFoeWrongFalsely : Prop := commitFoeRow.holds Tryz.pinned (OpenSpec.ofChange commitFoeWrong)

/-- 'lockboxlaw30.AuditTraces': WHATEVER THE INPUT: true; the input reads as it did. -/
def auditTracesSpec : ChangeSpec := { name := "auditTraces", fn := fun _ => fun
  | [d1, d2, d3] => { results := [.lit (.bool true)], args := [d1, d2, d3] }
  | _ => none }
def auditTracesRow : OpenClaim := { program := "ytkblnbbpeakgmaagreat", sum := "11acfb2304027d3951b68f9861f802a7e035312224e17a8da66379540fcef8bd", func := "lockbox/lockboxlaw30.AuditTraces", spec := "auditTraces", inPlace := ["internal/bytealg.MakeNoZero"], unfollowed := true, recurses := true, plainKeys := false, apart := false }
def AuditTracesSaid : Prop := auditTracesRow.holds Tryz.pinned (OpenSpec.ofChange auditTracesSpec)

/-- ITS FALSE NEIGHBOUR: 'it returns false'. Refute it at one input. -/
def auditTracesWrong : ChangeSpec := { name := "auditTraces", fn := fun _ => fun
  | [d1, d2, d3] => { results := [.lit (.bool false)], args := [d1, d2, d3] }
  | _ => none }
def AuditTracesWrongFalsely : Prop := auditTracesRow.holds Tryz.pinned (OpenSpec.ofChange auditTracesWrong)

/-- 'lockboxlaw28.CacheModel': WHATEVER THE INPUT: true; the input reads as it did. -/
def cacheModelSpec : ChangeSpec := { name := "cacheModel", fn := fun _ => fun
  | [d1, d2, d3] => { results := [.lit (.bool true)], args := [d1, d2, d3] }
  | _ => none }
def cacheModelRow : OpenClaim := { program := "ytkblnbbpeakgmaagreat", sum := "11acfb2304027d3951b68f9861f802a7e035312224e17a8da66379540fcef8bd", func := "lockbox/lockboxlaw28.CacheModel", spec := "cacheModel", inPlace := ["internal/bytealg.MakeNoZero"], unfollowed := true, recurses := true, plainKeys := false, apart := false }
def CacheModelSaid : Prop := cacheModelRow.holds Tryz.pinned (OpenSpec.ofChange cacheModelSpec)

/-- ITS FALSE NEIGHBOUR: 'it returns false'. Refute it at one input. -/
def cacheModelWrong : ChangeSpec := { name := "cacheModel", fn := fun _ => fun
  | [d1, d2, d3] => { results := [.lit (.bool false)], args := [d1, d2, d3] }
  | _ => none }
def CacheModelWrongFalsely : Prop := cacheModelRow.holds Tryz.pinned (OpenSpec.ofChange cacheModelWrong)

/-- 'lockboxlaw28.CacheNumbers': WHATEVER THE INPUT: true; the input reads as it did. -/
def cacheNumbersSpec : ChangeSpec := { name := "cacheNumbers", fn := fun _ => fun
  | [d1, d2] => { results := [.lit (.bool true)], args := [d1, d2] }
  | _ => none }
def cacheNumbersRow : OpenClaim := { program := "ytkblnbbpeakgmaagreat", sum := "11acfb2304027d3951b68f9861f802a7e035312224e17a8da66379540fcef8bd", func := "lockbox/lockboxlaw28.CacheNumbers", spec := "cacheNumbers", inPlace := ["internal/bytealg.MakeNoZero"], unfollowed := true, recurses := true, plainKeys := false, apart := false }
def CacheNumbersSaid : Prop := cacheNumbersRow.holds Tryz.pinned (OpenSpec.ofChange cacheNumbersSpec)

/-- ITS FALSE NEIGHBOUR: 'it returns false'. Refute it at one input. -/
def cacheNumbersWrong : ChangeSpec := { name := "cacheNumbers", fn := fun _ => fun
  | [d1, d2] => { results := [.lit (.bool false)], args := [d1, d2] }
  | _ => none }
def CacheNumbersWrongFalsely : Prop := cacheNumbersRow.holds Tryz.pinned (OpenSpec.ofChange cacheNumbersWrong)

/-- 'lockboxlaw28.CacheRotates': WHATEVER THE INPUT: true; the input reads as it did. -/
def cacheRotatesSpec : ChangeSpec := { name := "cacheRotates", fn := fun _ => fun
  | [d] => { results := [.lit (.bool true)], args := [d] }
  | _ => none }
def cacheRotatesRow : OpenClaim := { program := "ytkblnbbpeakgmaagreat", sum := "11acfb2304027d3951b68f9861f802a7e035312224e17a8da66379540fcef8bd", func := "lockbox/lockboxlaw28.CacheRotates", spec := "cacheRotates", inPlace := ["internal/bytealg.MakeNoZero"], unfollowed := true, recurses := true, plainKeys := false, apart := false }
def CacheRotatesSaid : Prop := cacheRotatesRow.holds Tryz.pinned (OpenSpec.ofChange cacheRotatesSpec)

/-- ITS FALSE NEIGHBOUR: 'it returns false'. Refute it at one input. -/
def cacheRotatesWrong : ChangeSpec := { name := "cacheRotates", fn := fun _ => fun
  | [d] => { results := [.lit (.bool false)], args := [d] }
  | _ => none }
def CacheRotatesWrongFalsely : Prop := cacheRotatesRow.holds Tryz.pinned (OpenSpec.ofChange cacheRotatesWrong)

/-- 'lockboxlaw28.CacheKeeps': WHATEVER THE INPUT: true; the input reads as it did. -/
def cacheKeepsSpec : ChangeSpec := { name := "cacheKeeps", fn := fun _ => fun
  | [d1, d2] => { results := [.lit (.bool true)], args := [d1, d2] }
  | _ => none }
def cacheKeepsRow : OpenClaim := { program := "ytkblnbbpeakgmaagreat", sum := "11acfb2304027d3951b68f9861f802a7e035312224e17a8da66379540fcef8bd", func := "lockbox/lockboxlaw28.CacheKeeps", spec := "cacheKeeps", inPlace := ["internal/bytealg.MakeNoZero"], unfollowed := true, recurses := true, plainKeys := false, apart := false }
def CacheKeepsSaid : Prop := cacheKeepsRow.holds Tryz.pinned (OpenSpec.ofChange cacheKeepsSpec)

/-- ITS FALSE NEIGHBOUR: 'it returns false'. Refute it at one input. -/
def cacheKeepsWrong : ChangeSpec := { name := "cacheKeeps", fn := fun _ => fun
  | [d1, d2] => { results := [.lit (.bool false)], args := [d1, d2] }
  | _ => none }
def CacheKeepsWrongFalsely : Prop := cacheKeepsRow.holds Tryz.pinned (OpenSpec.ofChange cacheKeepsWrong)

/-- 'lockboxlaw28.CacheTampers': WHATEVER THE INPUT: true; the input reads as it did. -/
def cacheTampersSpec : ChangeSpec := { name := "cacheTampers", fn := fun _ => fun
  | [d1, d2, d3, d4] => { results := [.lit (.bool true)], args := [d1, d2, d3, d4] }
  | _ => none }
def cacheTampersRow : OpenClaim := { program := "ytkblnbbpeakgmaagreat", sum := "11acfb2304027d3951b68f9861f802a7e035312224e17a8da66379540fcef8bd", func := "lockbox/lockboxlaw28.CacheTampers", spec := "cacheTampers", inPlace := ["internal/bytealg.MakeNoZero"], unfollowed := true, recurses := true, plainKeys := false, apart := false }
def CacheTampersSaid : Prop := cacheTampersRow.holds Tryz.pinned (OpenSpec.ofChange cacheTampersSpec)

/-- ITS FALSE NEIGHBOUR: 'it returns false'. Refute it at one input. -/
def cacheTampersWrong : ChangeSpec := { name := "cacheTampers", fn := fun _ => fun
  | [d1, d2, d3, d4] => { results := [.lit (.bool false)], args := [d1, d2, d3, d4] }
  | _ => none }
def CacheTampersWrongFalsely : Prop := cacheTampersRow.holds Tryz.pinned (OpenSpec.ofChange cacheTampersWrong)

/-- 'lockboxlaw28.CacheFull': WHATEVER THE INPUT: true; the input reads as it did. -/
def cacheFullSpec : ChangeSpec := { name := "cacheFull", fn := fun _ => fun
  | [d1, d2, d3] => { results := [.lit (.bool true)], args := [d1, d2, d3] }
  | _ => none }
def cacheFullRow : OpenClaim := { program := "ytkblnbbpeakgmaagreat", sum := "11acfb2304027d3951b68f9861f802a7e035312224e17a8da66379540fcef8bd", func := "lockbox/lockboxlaw28.CacheFull", spec := "cacheFull", inPlace := ["internal/bytealg.MakeNoZero"], unfollowed := true, recurses := true, plainKeys := false, apart := false }
def CacheFullSaid : Prop := cacheFullRow.holds Tryz.pinned (OpenSpec.ofChange cacheFullSpec)

/-- ITS FALSE NEIGHBOUR: 'it returns false'. Refute it at one input. -/
def cacheFullWrong : ChangeSpec := { name := "cacheFull", fn := fun _ => fun
  | [d1, d2, d3] => { results := [.lit (.bool false)], args := [d1, d2, d3] }
  | _ => none }
def CacheFullWrongFalsely : Prop := cacheFullRow.holds Tryz.pinned (OpenSpec.ofChange cacheFullWrong)

/-- 'lockboxlaw28.CacheArgs': WHATEVER THE INPUT: true; the input reads as it did. -/
def cacheArgsSpec : ChangeSpec := { name := "cacheArgs", fn := fun _ => fun
  | [d] => { results := [.lit (.bool true)], args := [d] }
  | _ => none }
def cacheArgsRow : OpenClaim := { program := "ytkblnbbpeakgmaagreat", sum := "11acfb2304027d3951b68f9861f802a7e035312224e17a8da66379540fcef8bd", func := "lockbox/lockboxlaw28.CacheArgs", spec := "cacheArgs", inPlace := ["internal/bytealg.MakeNoZero"], unfollowed := true, recurses := true, plainKeys := false, apart := false }
def CacheArgsSaid : Prop := cacheArgsRow.holds Tryz.pinned (OpenSpec.ofChange cacheArgsSpec)

/-- ITS FALSE NEIGHBOUR: 'it returns false'. Refute it at one input. -/
def cacheArgsWrong : ChangeSpec := { name := "cacheArgs", fn := fun _ => fun
  | [d] => { results := [.lit (.bool false)], args := [d] }
  | _ => none }
def CacheArgsWrongFalsely : Prop := cacheArgsRow.holds Tryz.pinned (OpenSpec.ofChange cacheArgsWrong)

/-- 'lockboxlaw28.CacheCrash': WHATEVER THE INPUT: true; the input reads as it did. -/
def cacheCrashSpec : ChangeSpec := { name := "cacheCrash", fn := fun _ => fun
  | [d1, d2, d3, d4] => { results := [.lit (.bool true)], args := [d1, d2, d3, d4] }
  | _ => none }
def cacheCrashRow : OpenClaim := { program := "ytkblnbbpeakgmaagreat", sum := "11acfb2304027d3951b68f9861f802a7e035312224e17a8da66379540fcef8bd", func := "lockbox/lockboxlaw28.CacheCrash", spec := "cacheCrash", inPlace := ["internal/bytealg.MakeNoZero"], unfollowed := true, recurses := true, plainKeys := false, apart := false }
def CacheCrashSaid : Prop := cacheCrashRow.holds Tryz.pinned (OpenSpec.ofChange cacheCrashSpec)

/-- ITS FALSE NEIGHBOUR: 'it returns false'. Refute it at one input. -/
def cacheCrashWrong : ChangeSpec := { name := "cacheCrash", fn := fun _ => fun
  | [d1, d2, d3, d4] => { results := [.lit (.bool false)], args := [d1, d2, d3, d4] }
  | _ => none }
def CacheCrashWrongFalsely : Prop := cacheCrashRow.holds Tryz.pinned (OpenSpec.ofChange cacheCrashWrong)

/-- 'lockboxlaw28.CacheHalf': WHATEVER THE INPUT: true; the input reads as it did. -/
def cacheHalfSpec : ChangeSpec := { name := "cacheHalf", fn := fun _ => fun
  | [d1, d2, d3, d4] => { results := [.lit (.bool true)], args := [d1, d2, d3, d4] }
  | _ => none }
def cacheHalfRow : OpenClaim := { program := "ytkblnbbpeakgmaagreat", sum := "11acfb2304027d3951b68f9861f802a7e035312224e17a8da66379540fcef8bd", func := "lockbox/lockboxlaw28.CacheHalf", spec := "cacheHalf", inPlace := ["internal/bytealg.MakeNoZero"], unfollowed := true, recurses := true, plainKeys := false, apart := false }
def CacheHalfSaid : Prop := cacheHalfRow.holds Tryz.pinned (OpenSpec.ofChange cacheHalfSpec)

/-- ITS FALSE NEIGHBOUR: 'it returns false'. Refute it at one input. -/
def cacheHalfWrong : ChangeSpec := { name := "cacheHalf", fn := fun _ => fun
  | [d1, d2, d3, d4] => { results := [.lit (.bool false)], args := [d1, d2, d3, d4] }
  | _ => none }
def CacheHalfWrongFalsely : Prop := cacheHalfRow.holds Tryz.pinned (OpenSpec.ofChange cacheHalfWrong)

/-- 'lockboxlaw28.CachePlays': WHATEVER THE INPUT: true; the input reads as it did. -/
def cachePlaysSpec : ChangeSpec := { name := "cachePlays", fn := fun _ => fun
  | [d1, d2, d3, d4] => { results := [.lit (.bool true)], args := [d1, d2, d3, d4] }
  | _ => none }
def cachePlaysRow : OpenClaim := { program := "ytkblnbbpeakgmaagreat", sum := "11acfb2304027d3951b68f9861f802a7e035312224e17a8da66379540fcef8bd", func := "lockbox/lockboxlaw28.CachePlays", spec := "cachePlays", inPlace := ["internal/bytealg.MakeNoZero"], unfollowed := true, recurses := true, plainKeys := false, apart := false }
def CachePlaysSaid : Prop := cachePlaysRow.holds Tryz.pinned (OpenSpec.ofChange cachePlaysSpec)

/-- ITS FALSE NEIGHBOUR: 'it returns false'. Refute it at one input. -/
def cachePlaysWrong : ChangeSpec := { name := "cachePlays", fn := fun _ => fun
  | [d1, d2, d3, d4] => { results := [.lit (.bool false)], args := [d1, d2, d3, d4] }
  | _ => none }
def CachePlaysWrongFalsely : Prop := cachePlaysRow.holds Tryz.pinned (OpenSpec.ofChange cachePlaysWrong)

/-- 'lockboxlaw29.PlayCrash': WHATEVER THE INPUT: true; the input reads as it did. -/
def playCrashSpec : ChangeSpec := { name := "playCrash", fn := fun _ => fun
  | [d1, d2, d3, d4] => { results := [.lit (.bool true)], args := [d1, d2, d3, d4] }
  | _ => none }
def playCrashRow : OpenClaim := { program := "ytkblnbbpeakgmaagreat", sum := "11acfb2304027d3951b68f9861f802a7e035312224e17a8da66379540fcef8bd", func := "lockbox/lockboxlaw29.PlayCrash", spec := "playCrash", inPlace := ["internal/bytealg.MakeNoZero"], unfollowed := true, recurses := true, plainKeys := false, apart := false }
def PlayCrashSaid : Prop := playCrashRow.holds Tryz.pinned (OpenSpec.ofChange playCrashSpec)

/-- ITS FALSE NEIGHBOUR: 'it returns false'. Refute it at one input. -/
def playCrashWrong : ChangeSpec := { name := "playCrash", fn := fun _ => fun
  | [d1, d2, d3, d4] => { results := [.lit (.bool false)], args := [d1, d2, d3, d4] }
  | _ => none }
def PlayCrashWrongFalsely : Prop := playCrashRow.holds Tryz.pinned (OpenSpec.ofChange playCrashWrong)

/-- 'lockboxlaw29.PlayOfNothing': WHATEVER THE INPUT: true; the input reads as it did. -/
def playOfNothingSpec : ChangeSpec := { name := "playOfNothing", fn := fun _ => fun
  | [d] => { results := [.lit (.bool true)], args := [d] }
  | _ => none }
def playOfNothingRow : OpenClaim := { program := "ytkblnbbpeakgmaagreat", sum := "11acfb2304027d3951b68f9861f802a7e035312224e17a8da66379540fcef8bd", func := "lockbox/lockboxlaw29.PlayOfNothing", spec := "playOfNothing", inPlace := ["internal/bytealg.MakeNoZero"], unfollowed := true, recurses := true, plainKeys := false, apart := false }
def PlayOfNothingSaid : Prop := playOfNothingRow.holds Tryz.pinned (OpenSpec.ofChange playOfNothingSpec)

/-- ITS FALSE NEIGHBOUR: 'it returns false'. Refute it at one input. -/
def playOfNothingWrong : ChangeSpec := { name := "playOfNothing", fn := fun _ => fun
  | [d] => { results := [.lit (.bool false)], args := [d] }
  | _ => none }
def PlayOfNothingWrongFalsely : Prop := playOfNothingRow.holds Tryz.pinned (OpenSpec.ofChange playOfNothingWrong)

/-- 'lockboxlaw29.PlayShut': WHATEVER THE INPUT: true; the input reads as it did. -/
def playShutSpec : ChangeSpec := { name := "playShut", fn := fun _ => fun
  | [d1, d2, d3] => { results := [.lit (.bool true)], args := [d1, d2, d3] }
  | _ => none }
def playShutRow : OpenClaim := { program := "ytkblnbbpeakgmaagreat", sum := "11acfb2304027d3951b68f9861f802a7e035312224e17a8da66379540fcef8bd", func := "lockbox/lockboxlaw29.PlayShut", spec := "playShut", inPlace := ["internal/bytealg.MakeNoZero"], unfollowed := true, recurses := true, plainKeys := false, apart := false }
def PlayShutSaid : Prop := playShutRow.holds Tryz.pinned (OpenSpec.ofChange playShutSpec)

/-- ITS FALSE NEIGHBOUR: 'it returns false'. Refute it at one input. -/
def playShutWrong : ChangeSpec := { name := "playShut", fn := fun _ => fun
  | [d1, d2, d3] => { results := [.lit (.bool false)], args := [d1, d2, d3] }
  | _ => none }
def PlayShutWrongFalsely : Prop := playShutRow.holds Tryz.pinned (OpenSpec.ofChange playShutWrong)

/-- 'lockboxlaw29.PlayTwins': WHATEVER THE INPUT: true; the input reads as it did. -/
def playTwinsSpec : ChangeSpec := { name := "playTwins", fn := fun _ => fun
  | [d1, d2, d3, d4] => { results := [.lit (.bool true)], args := [d1, d2, d3, d4] }
  | _ => none }
def playTwinsRow : OpenClaim := { program := "ytkblnbbpeakgmaagreat", sum := "11acfb2304027d3951b68f9861f802a7e035312224e17a8da66379540fcef8bd", func := "lockbox/lockboxlaw29.PlayTwins", spec := "playTwins", inPlace := ["internal/bytealg.MakeNoZero"], unfollowed := true, recurses := true, plainKeys := false, apart := false }
def PlayTwinsSaid : Prop := playTwinsRow.holds Tryz.pinned (OpenSpec.ofChange playTwinsSpec)

/-- ITS FALSE NEIGHBOUR: 'it returns false'. Refute it at one input. -/
def playTwinsWrong : ChangeSpec := { name := "playTwins", fn := fun _ => fun
  | [d1, d2, d3, d4] => { results := [.lit (.bool false)], args := [d1, d2, d3, d4] }
  | _ => none }
def PlayTwinsWrongFalsely : Prop := playTwinsRow.holds Tryz.pinned (OpenSpec.ofChange playTwinsWrong)

/-- 'lockboxlaw30.AuditTells': WHATEVER THE INPUT: true; the input reads as it did. -/
def auditTellsSpec : ChangeSpec := { name := "auditTells", fn := fun _ => fun
  | [d1, d2] => { results := [.lit (.bool true)], args := [d1, d2] }
  | _ => none }
def auditTellsRow : OpenClaim := { program := "ytkblnbbpeakgmaagreat", sum := "11acfb2304027d3951b68f9861f802a7e035312224e17a8da66379540fcef8bd", func := "lockbox/lockboxlaw30.AuditTells", spec := "auditTells", inPlace := ["internal/bytealg.MakeNoZero"], unfollowed := true, recurses := true, plainKeys := false, apart := false }
def AuditTellsSaid : Prop := auditTellsRow.holds Tryz.pinned (OpenSpec.ofChange auditTellsSpec)

/-- ITS FALSE NEIGHBOUR: 'it returns false'. Refute it at one input. -/
def auditTellsWrong : ChangeSpec := { name := "auditTells", fn := fun _ => fun
  | [d1, d2] => { results := [.lit (.bool false)], args := [d1, d2] }
  | _ => none }
def AuditTellsWrongFalsely : Prop := auditTellsRow.holds Tryz.pinned (OpenSpec.ofChange auditTellsWrong)

/-- 'lockboxlaw30.AuditSecrets': WHATEVER THE INPUT: true; the input reads as it did. -/
def auditSecretsSpec : ChangeSpec := { name := "auditSecrets", fn := fun _ => fun
  | [d1, d2, d3] => { results := [.lit (.bool true)], args := [d1, d2, d3] }
  | _ => none }
def auditSecretsRow : OpenClaim := { program := "ytkblnbbpeakgmaagreat", sum := "11acfb2304027d3951b68f9861f802a7e035312224e17a8da66379540fcef8bd", func := "lockbox/lockboxlaw30.AuditSecrets", spec := "auditSecrets", inPlace := ["internal/bytealg.MakeNoZero"], unfollowed := true, recurses := true, plainKeys := false, apart := false }
def AuditSecretsSaid : Prop := auditSecretsRow.holds Tryz.pinned (OpenSpec.ofChange auditSecretsSpec)

/-- ITS FALSE NEIGHBOUR: 'it returns false'. Refute it at one input. -/
def auditSecretsWrong : ChangeSpec := { name := "auditSecrets", fn := fun _ => fun
  | [d1, d2, d3] => { results := [.lit (.bool false)], args := [d1, d2, d3] }
  | _ => none }
def AuditSecretsWrongFalsely : Prop := auditSecretsRow.holds Tryz.pinned (OpenSpec.ofChange auditSecretsWrong)

/-- 'lockboxlaw30.AuditOwn': WHATEVER THE INPUT: true; the input reads as it did. -/
def auditOwnSpec : ChangeSpec := { name := "auditOwn", fn := fun _ => fun
  | [d] => { results := [.lit (.bool true)], args := [d] }
  | _ => none }
def auditOwnRow : OpenClaim := { program := "ytkblnbbpeakgmaagreat", sum := "11acfb2304027d3951b68f9861f802a7e035312224e17a8da66379540fcef8bd", func := "lockbox/lockboxlaw30.AuditOwn", spec := "auditOwn", inPlace := ["internal/bytealg.MakeNoZero"], unfollowed := true, recurses := true, plainKeys := false, apart := false }
def AuditOwnSaid : Prop := auditOwnRow.holds Tryz.pinned (OpenSpec.ofChange auditOwnSpec)

/-- ITS FALSE NEIGHBOUR: 'it returns false'. Refute it at one input. -/
def auditOwnWrong : ChangeSpec := { name := "auditOwn", fn := fun _ => fun
  | [d] => { results := [.lit (.bool false)], args := [d] }
  | _ => none }
def AuditOwnWrongFalsely : Prop := auditOwnRow.holds Tryz.pinned (OpenSpec.ofChange auditOwnWrong)

/-- 'lockboxlaw29.PlayPlays': WHATEVER THE INPUT: true; the input reads as it did. -/
def playPlaysSpec : ChangeSpec := { name := "playPlays", fn := fun _ => fun
  | [d1, d2, d3, d4] => { results := [.lit (.bool true)], args := [d1, d2, d3, d4] }
  | _ => none }
def playPlaysRow : OpenClaim := { program := "ytkblnbbpeakgmaagreat", sum := "11acfb2304027d3951b68f9861f802a7e035312224e17a8da66379540fcef8bd", func := "lockbox/lockboxlaw29.PlayPlays", spec := "playPlays", inPlace := ["internal/bytealg.MakeNoZero"], unfollowed := true, recurses := true, plainKeys := false, apart := false }
def PlayPlaysSaid : Prop := playPlaysRow.holds Tryz.pinned (OpenSpec.ofChange playPlaysSpec)

/-- ITS FALSE NEIGHBOUR: 'it returns false'. Refute it at one input. -/
def playPlaysWrong : ChangeSpec := { name := "playPlays", fn := fun _ => fun
  | [d1, d2, d3, d4] => { results := [.lit (.bool false)], args := [d1, d2, d3, d4] }
  | _ => none }
def PlayPlaysWrongFalsely : Prop := playPlaysRow.holds Tryz.pinned (OpenSpec.ofChange playPlaysWrong)

/-- 'lockboxtop.TopPlays': WHATEVER THE INPUT: true; the input reads as it did. -/
def topPlaysSpec : ChangeSpec := { name := "topPlays", fn := fun _ => fun
  | [d1, d2, d3, d4] => { results := [.lit (.bool true)], args := [d1, d2, d3, d4] }
  | _ => none }
def topPlaysRow : OpenClaim := { program := "ytkblnbbpeakgmaagreat", sum := "11acfb2304027d3951b68f9861f802a7e035312224e17a8da66379540fcef8bd", func := "lockbox/lockboxtop.TopPlays", spec := "topPlays", inPlace := ["internal/bytealg.MakeNoZero"], unfollowed := true, recurses := true, plainKeys := false, apart := false }
def TopPlaysSaid : Prop := topPlaysRow.holds Tryz.pinned (OpenSpec.ofChange topPlaysSpec)

/-- ITS FALSE NEIGHBOUR: 'it returns false'. Refute it at one input. -/
def topPlaysWrong : ChangeSpec := { name := "topPlays", fn := fun _ => fun
  | [d1, d2, d3, d4] => { results := [.lit (.bool false)], args := [d1, d2, d3, d4] }
  | _ => none }
def TopPlaysWrongFalsely : Prop := topPlaysRow.holds Tryz.pinned (OpenSpec.ofChange topPlaysWrong)

/-- 'lockboxtop.TopBlind': WHATEVER THE INPUT: true; the input reads as it did. -/
def topBlindSpec : ChangeSpec := { name := "topBlind", fn := fun _ => fun
  | [d1, d2, d3] => { results := [.lit (.bool true)], args := [d1, d2, d3] }
  | _ => none }
def topBlindRow : OpenClaim := { program := "ytkblnbbpeakgmaagreat", sum := "11acfb2304027d3951b68f9861f802a7e035312224e17a8da66379540fcef8bd", func := "lockbox/lockboxtop.TopBlind", spec := "topBlind", inPlace := ["internal/bytealg.MakeNoZero"], unfollowed := true, recurses := true, plainKeys := false, apart := false }
def TopBlindSaid : Prop := topBlindRow.holds Tryz.pinned (OpenSpec.ofChange topBlindSpec)

/-- ITS FALSE NEIGHBOUR: 'it returns false'. Refute it at one input. -/
def topBlindWrong : ChangeSpec := { name := "topBlind", fn := fun _ => fun
  | [d1, d2, d3] => { results := [.lit (.bool false)], args := [d1, d2, d3] }
  | _ => none }
def TopBlindWrongFalsely : Prop := topBlindRow.holds Tryz.pinned (OpenSpec.ofChange topBlindWrong)

/- THE SECOND FORM. 'bulk': how many values and letters a reading holds, each counted each time it is reached (what is shared counts as often as it is met; a slice's spare places count too). A statement '..UptoSaid' is the law's where the arguments, and the package variables that the reading takes, are together of bulk at most 1048576: NARROWER than '..Said'. Prove '..Said' where nothing that the law and all that it calls make is longer than what came in: it says more and counts as full. Else prove '..UptoSaid'. A law counts once. -/
mutual
def uptoBulk {H : Type} : DataW H → Nat
  | .lit (.string bytes) => bytes.length + 1
  | .lit _ => 1
  | .nil => 1
  | .ptr d => uptoBulk d + 1
  | .slice elems spare => uptoBulkAll elems + uptoBulkAll spare + 1
  | .agg parts => uptoBulkAll parts + 1
  | .iface _ d => uptoBulk d + 1
  | .map entries => uptoBulkEntries entries + 1
  | .held _ => 1
def uptoBulkAll {H : Type} : List (DataW H) → Nat
  | [] => 0
  | d :: r => uptoBulk d + uptoBulkAll r
def uptoBulkEntries {H : Type} : List (Lit × DataW H) → Nat
  | [] => 0
  | x :: r => uptoBulkEntry x + uptoBulkEntries r
def uptoBulkEntry {H : Type} : Lit × DataW H → Nat
  | (.string bytes, d) => bytes.length + uptoBulk d + 1
  | (_, d) => uptoBulk d + 1
 end
def uptoSmall : (H : Type) → List (DataW H) → Bool := fun _ ds => decide (uptoBulkAll ds ≤ 1048576)
def OpenSpec.upto (s : _root_.Go.ChangeSpec) : _root_.Go.OpenSpec := { _root_.Go.OpenSpec.ofChange s with cond := some uptoSmall }

/-- 'lockboxlaw23.CommitEnds', WHERE WHAT IT READS IS OF BULK AT MOST 1048576: true; the input reads as it did. -/
def commitEndsUptoRow : OpenClaim := { program := "ytkblnbbpeakgmaagreat", sum := "11acfb2304027d3951b68f9861f802a7e035312224e17a8da66379540fcef8bd", func := "lockbox/lockboxlaw23.CommitEnds", spec := "commitEnds", inPlace := ["internal/bytealg.MakeNoZero"], unfollowed := true, recurses := true, plainKeys := false, apart := false, narrowed := true }
def CommitEndsUptoSaid : Prop := commitEndsUptoRow.holds Tryz.pinned (OpenSpec.upto commitEndsSpec)

/-- 'lockboxlaw23.CommitCrash', WHERE WHAT IT READS IS OF BULK AT MOST 1048576: true; the input reads as it did. -/
def commitCrashUptoRow : OpenClaim := { program := "ytkblnbbpeakgmaagreat", sum := "11acfb2304027d3951b68f9861f802a7e035312224e17a8da66379540fcef8bd", func := "lockbox/lockboxlaw23.CommitCrash", spec := "commitCrash", inPlace := ["internal/bytealg.MakeNoZero"], unfollowed := true, recurses := true, plainKeys := false, apart := false, narrowed := true }
def CommitCrashUptoSaid : Prop := commitCrashUptoRow.holds Tryz.pinned (OpenSpec.upto commitCrashSpec)

/-- 'lockboxlaw23.CommitFork', WHERE WHAT IT READS IS OF BULK AT MOST 1048576: true; the input reads as it did. -/
def commitForkUptoRow : OpenClaim := { program := "ytkblnbbpeakgmaagreat", sum := "11acfb2304027d3951b68f9861f802a7e035312224e17a8da66379540fcef8bd", func := "lockbox/lockboxlaw23.CommitFork", spec := "commitFork", inPlace := ["internal/bytealg.MakeNoZero"], unfollowed := true, recurses := true, plainKeys := false, apart := false, narrowed := true }
def CommitForkUptoSaid : Prop := commitForkUptoRow.holds Tryz.pinned (OpenSpec.upto commitForkSpec)

/-- 'lockboxlaw23.CommitFoe', WHERE WHAT IT READS IS OF BULK AT MOST 1048576: true; the input reads as it did. -/
def commitFoeUptoRow : OpenClaim := { program := "ytkblnbbpeakgmaagreat", sum := "11acfb2304027d3951b68f9861f802a7e035312224e17a8da66379540fcef8bd", func := "lockbox/lockboxlaw23.CommitFoe", spec := "commitFoe", inPlace := ["internal/bytealg.MakeNoZero"], unfollowed := true, recurses := true, plainKeys := false, apart := false, narrowed := true }
def CommitFoeUptoSaid : Prop := commitFoeUptoRow.holds Tryz.pinned (OpenSpec.upto commitFoeSpec)

/-- 'lockboxlaw30.AuditTraces', WHERE WHAT IT READS IS OF BULK AT MOST 1048576: true; the input reads as it did. -/
def auditTracesUptoRow : OpenClaim := { program := "ytkblnbbpeakgmaagreat", sum := "11acfb2304027d3951b68f9861f802a7e035312224e17a8da66379540fcef8bd", func := "lockbox/lockboxlaw30.AuditTraces", spec := "auditTraces", inPlace := ["internal/bytealg.MakeNoZero"], unfollowed := true, recurses := true, plainKeys := false, apart := false, narrowed := true }
def AuditTracesUptoSaid : Prop := auditTracesUptoRow.holds Tryz.pinned (OpenSpec.upto auditTracesSpec)

/-- 'lockboxlaw28.CacheModel', WHERE WHAT IT READS IS OF BULK AT MOST 1048576: true; the input reads as it did. -/
def cacheModelUptoRow : OpenClaim := { program := "ytkblnbbpeakgmaagreat", sum := "11acfb2304027d3951b68f9861f802a7e035312224e17a8da66379540fcef8bd", func := "lockbox/lockboxlaw28.CacheModel", spec := "cacheModel", inPlace := ["internal/bytealg.MakeNoZero"], unfollowed := true, recurses := true, plainKeys := false, apart := false, narrowed := true }
def CacheModelUptoSaid : Prop := cacheModelUptoRow.holds Tryz.pinned (OpenSpec.upto cacheModelSpec)

/-- 'lockboxlaw28.CacheNumbers', WHERE WHAT IT READS IS OF BULK AT MOST 1048576: true; the input reads as it did. -/
def cacheNumbersUptoRow : OpenClaim := { program := "ytkblnbbpeakgmaagreat", sum := "11acfb2304027d3951b68f9861f802a7e035312224e17a8da66379540fcef8bd", func := "lockbox/lockboxlaw28.CacheNumbers", spec := "cacheNumbers", inPlace := ["internal/bytealg.MakeNoZero"], unfollowed := true, recurses := true, plainKeys := false, apart := false, narrowed := true }
def CacheNumbersUptoSaid : Prop := cacheNumbersUptoRow.holds Tryz.pinned (OpenSpec.upto cacheNumbersSpec)

/-- 'lockboxlaw28.CacheRotates', WHERE WHAT IT READS IS OF BULK AT MOST 1048576: true; the input reads as it did. -/
def cacheRotatesUptoRow : OpenClaim := { program := "ytkblnbbpeakgmaagreat", sum := "11acfb2304027d3951b68f9861f802a7e035312224e17a8da66379540fcef8bd", func := "lockbox/lockboxlaw28.CacheRotates", spec := "cacheRotates", inPlace := ["internal/bytealg.MakeNoZero"], unfollowed := true, recurses := true, plainKeys := false, apart := false, narrowed := true }
def CacheRotatesUptoSaid : Prop := cacheRotatesUptoRow.holds Tryz.pinned (OpenSpec.upto cacheRotatesSpec)

/-- 'lockboxlaw28.CacheKeeps', WHERE WHAT IT READS IS OF BULK AT MOST 1048576: true; the input reads as it did. -/
def cacheKeepsUptoRow : OpenClaim := { program := "ytkblnbbpeakgmaagreat", sum := "11acfb2304027d3951b68f9861f802a7e035312224e17a8da66379540fcef8bd", func := "lockbox/lockboxlaw28.CacheKeeps", spec := "cacheKeeps", inPlace := ["internal/bytealg.MakeNoZero"], unfollowed := true, recurses := true, plainKeys := false, apart := false, narrowed := true }
def CacheKeepsUptoSaid : Prop := cacheKeepsUptoRow.holds Tryz.pinned (OpenSpec.upto cacheKeepsSpec)

/-- 'lockboxlaw28.CacheTampers', WHERE WHAT IT READS IS OF BULK AT MOST 1048576: true; the input reads as it did. -/
def cacheTampersUptoRow : OpenClaim := { program := "ytkblnbbpeakgmaagreat", sum := "11acfb2304027d3951b68f9861f802a7e035312224e17a8da66379540fcef8bd", func := "lockbox/lockboxlaw28.CacheTampers", spec := "cacheTampers", inPlace := ["internal/bytealg.MakeNoZero"], unfollowed := true, recurses := true, plainKeys := false, apart := false, narrowed := true }
def CacheTampersUptoSaid : Prop := cacheTampersUptoRow.holds Tryz.pinned (OpenSpec.upto cacheTampersSpec)

/-- 'lockboxlaw28.CacheFull', WHERE WHAT IT READS IS OF BULK AT MOST 1048576: true; the input reads as it did. -/
def cacheFullUptoRow : OpenClaim := { program := "ytkblnbbpeakgmaagreat", sum := "11acfb2304027d3951b68f9861f802a7e035312224e17a8da66379540fcef8bd", func := "lockbox/lockboxlaw28.CacheFull", spec := "cacheFull", inPlace := ["internal/bytealg.MakeNoZero"], unfollowed := true, recurses := true, plainKeys := false, apart := false, narrowed := true }
def CacheFullUptoSaid : Prop := cacheFullUptoRow.holds Tryz.pinned (OpenSpec.upto cacheFullSpec)

/-- 'lockboxlaw28.CacheArgs', WHERE WHAT IT READS IS OF BULK AT MOST 1048576: true; the input reads as it did. -/
def cacheArgsUptoRow : OpenClaim := { program := "ytkblnbbpeakgmaagreat", sum := "11acfb2304027d3951b68f9861f802a7e035312224e17a8da66379540fcef8bd", func := "lockbox/lockboxlaw28.CacheArgs", spec := "cacheArgs", inPlace := ["internal/bytealg.MakeNoZero"], unfollowed := true, recurses := true, plainKeys := false, apart := false, narrowed := true }
def CacheArgsUptoSaid : Prop := cacheArgsUptoRow.holds Tryz.pinned (OpenSpec.upto cacheArgsSpec)

/-- 'lockboxlaw28.CacheCrash', WHERE WHAT IT READS IS OF BULK AT MOST 1048576: true; the input reads as it did. -/
def cacheCrashUptoRow : OpenClaim := { program := "ytkblnbbpeakgmaagreat", sum := "11acfb2304027d3951b68f9861f802a7e035312224e17a8da66379540fcef8bd", func := "lockbox/lockboxlaw28.CacheCrash", spec := "cacheCrash", inPlace := ["internal/bytealg.MakeNoZero"], unfollowed := true, recurses := true, plainKeys := false, apart := false, narrowed := true }
def CacheCrashUptoSaid : Prop := cacheCrashUptoRow.holds Tryz.pinned (OpenSpec.upto cacheCrashSpec)

/-- 'lockboxlaw28.CacheHalf', WHERE WHAT IT READS IS OF BULK AT MOST 1048576: true; the input reads as it did. -/
def cacheHalfUptoRow : OpenClaim := { program := "ytkblnbbpeakgmaagreat", sum := "11acfb2304027d3951b68f9861f802a7e035312224e17a8da66379540fcef8bd", func := "lockbox/lockboxlaw28.CacheHalf", spec := "cacheHalf", inPlace := ["internal/bytealg.MakeNoZero"], unfollowed := true, recurses := true, plainKeys := false, apart := false, narrowed := true }
def CacheHalfUptoSaid : Prop := cacheHalfUptoRow.holds Tryz.pinned (OpenSpec.upto cacheHalfSpec)

/-- 'lockboxlaw28.CachePlays', WHERE WHAT IT READS IS OF BULK AT MOST 1048576: true; the input reads as it did. -/
def cachePlaysUptoRow : OpenClaim := { program := "ytkblnbbpeakgmaagreat", sum := "11acfb2304027d3951b68f9861f802a7e035312224e17a8da66379540fcef8bd", func := "lockbox/lockboxlaw28.CachePlays", spec := "cachePlays", inPlace := ["internal/bytealg.MakeNoZero"], unfollowed := true, recurses := true, plainKeys := false, apart := false, narrowed := true }
def CachePlaysUptoSaid : Prop := cachePlaysUptoRow.holds Tryz.pinned (OpenSpec.upto cachePlaysSpec)

/-- 'lockboxlaw29.PlayCrash', WHERE WHAT IT READS IS OF BULK AT MOST 1048576: true; the input reads as it did. -/
def playCrashUptoRow : OpenClaim := { program := "ytkblnbbpeakgmaagreat", sum := "11acfb2304027d3951b68f9861f802a7e035312224e17a8da66379540fcef8bd", func := "lockbox/lockboxlaw29.PlayCrash", spec := "playCrash", inPlace := ["internal/bytealg.MakeNoZero"], unfollowed := true, recurses := true, plainKeys := false, apart := false, narrowed := true }
def PlayCrashUptoSaid : Prop := playCrashUptoRow.holds Tryz.pinned (OpenSpec.upto playCrashSpec)

/-- 'lockboxlaw29.PlayOfNothing', WHERE WHAT IT READS IS OF BULK AT MOST 1048576: true; the input reads as it did. -/
def playOfNothingUptoRow : OpenClaim := { program := "ytkblnbbpeakgmaagreat", sum := "11acfb2304027d3951b68f9861f802a7e035312224e17a8da66379540fcef8bd", func := "lockbox/lockboxlaw29.PlayOfNothing", spec := "playOfNothing", inPlace := ["internal/bytealg.MakeNoZero"], unfollowed := true, recurses := true, plainKeys := false, apart := false, narrowed := true }
def PlayOfNothingUptoSaid : Prop := playOfNothingUptoRow.holds Tryz.pinned (OpenSpec.upto playOfNothingSpec)

/-- 'lockboxlaw29.PlayShut', WHERE WHAT IT READS IS OF BULK AT MOST 1048576: true; the input reads as it did. -/
def playShutUptoRow : OpenClaim := { program := "ytkblnbbpeakgmaagreat", sum := "11acfb2304027d3951b68f9861f802a7e035312224e17a8da66379540fcef8bd", func := "lockbox/lockboxlaw29.PlayShut", spec := "playShut", inPlace := ["internal/bytealg.MakeNoZero"], unfollowed := true, recurses := true, plainKeys := false, apart := false, narrowed := true }
def PlayShutUptoSaid : Prop := playShutUptoRow.holds Tryz.pinned (OpenSpec.upto playShutSpec)

/-- 'lockboxlaw29.PlayTwins', WHERE WHAT IT READS IS OF BULK AT MOST 1048576: true; the input reads as it did. -/
def playTwinsUptoRow : OpenClaim := { program := "ytkblnbbpeakgmaagreat", sum := "11acfb2304027d3951b68f9861f802a7e035312224e17a8da66379540fcef8bd", func := "lockbox/lockboxlaw29.PlayTwins", spec := "playTwins", inPlace := ["internal/bytealg.MakeNoZero"], unfollowed := true, recurses := true, plainKeys := false, apart := false, narrowed := true }
def PlayTwinsUptoSaid : Prop := playTwinsUptoRow.holds Tryz.pinned (OpenSpec.upto playTwinsSpec)

/-- 'lockboxlaw30.AuditTells', WHERE WHAT IT READS IS OF BULK AT MOST 1048576: true; the input reads as it did. -/
def auditTellsUptoRow : OpenClaim := { program := "ytkblnbbpeakgmaagreat", sum := "11acfb2304027d3951b68f9861f802a7e035312224e17a8da66379540fcef8bd", func := "lockbox/lockboxlaw30.AuditTells", spec := "auditTells", inPlace := ["internal/bytealg.MakeNoZero"], unfollowed := true, recurses := true, plainKeys := false, apart := false, narrowed := true }
def AuditTellsUptoSaid : Prop := auditTellsUptoRow.holds Tryz.pinned (OpenSpec.upto auditTellsSpec)

/-- 'lockboxlaw30.AuditSecrets', WHERE WHAT IT READS IS OF BULK AT MOST 1048576: true; the input reads as it did. -/
def auditSecretsUptoRow : OpenClaim := { program := "ytkblnbbpeakgmaagreat", sum := "11acfb2304027d3951b68f9861f802a7e035312224e17a8da66379540fcef8bd", func := "lockbox/lockboxlaw30.AuditSecrets", spec := "auditSecrets", inPlace := ["internal/bytealg.MakeNoZero"], unfollowed := true, recurses := true, plainKeys := false, apart := false, narrowed := true }
def AuditSecretsUptoSaid : Prop := auditSecretsUptoRow.holds Tryz.pinned (OpenSpec.upto auditSecretsSpec)

/-- 'lockboxlaw30.AuditOwn', WHERE WHAT IT READS IS OF BULK AT MOST 1048576: true; the input reads as it did. -/
def auditOwnUptoRow : OpenClaim := { program := "ytkblnbbpeakgmaagreat", sum := "11acfb2304027d3951b68f9861f802a7e035312224e17a8da66379540fcef8bd", func := "lockbox/lockboxlaw30.AuditOwn", spec := "auditOwn", inPlace := ["internal/bytealg.MakeNoZero"], unfollowed := true, recurses := true, plainKeys := false, apart := false, narrowed := true }
def AuditOwnUptoSaid : Prop := auditOwnUptoRow.holds Tryz.pinned (OpenSpec.upto auditOwnSpec)

/-- 'lockboxlaw29.PlayPlays', WHERE WHAT IT READS IS OF BULK AT MOST 1048576: true; the input reads as it did. -/
def playPlaysUptoRow : OpenClaim := { program := "ytkblnbbpeakgmaagreat", sum := "11acfb2304027d3951b68f9861f802a7e035312224e17a8da66379540fcef8bd", func := "lockbox/lockboxlaw29.PlayPlays", spec := "playPlays", inPlace := ["internal/bytealg.MakeNoZero"], unfollowed := true, recurses := true, plainKeys := false, apart := false, narrowed := true }
def PlayPlaysUptoSaid : Prop := playPlaysUptoRow.holds Tryz.pinned (OpenSpec.upto playPlaysSpec)

/-- 'lockboxtop.TopPlays', WHERE WHAT IT READS IS OF BULK AT MOST 1048576: true; the input reads as it did. -/
def topPlaysUptoRow : OpenClaim := { program := "ytkblnbbpeakgmaagreat", sum := "11acfb2304027d3951b68f9861f802a7e035312224e17a8da66379540fcef8bd", func := "lockbox/lockboxtop.TopPlays", spec := "topPlays", inPlace := ["internal/bytealg.MakeNoZero"], unfollowed := true, recurses := true, plainKeys := false, apart := false, narrowed := true }
def TopPlaysUptoSaid : Prop := topPlaysUptoRow.holds Tryz.pinned (OpenSpec.upto topPlaysSpec)

/-- 'lockboxtop.TopBlind', WHERE WHAT IT READS IS OF BULK AT MOST 1048576: true; the input reads as it did. -/
def topBlindUptoRow : OpenClaim := { program := "ytkblnbbpeakgmaagreat", sum := "11acfb2304027d3951b68f9861f802a7e035312224e17a8da66379540fcef8bd", func := "lockbox/lockboxtop.TopBlind", spec := "topBlind", inPlace := ["internal/bytealg.MakeNoZero"], unfollowed := true, recurses := true, plainKeys := false, apart := false, narrowed := true }
def TopBlindUptoSaid : Prop := topBlindUptoRow.holds Tryz.pinned (OpenSpec.upto topBlindSpec)

end Rows
end Go.Proofs.YtkblnbbpeakgmaaGreat
