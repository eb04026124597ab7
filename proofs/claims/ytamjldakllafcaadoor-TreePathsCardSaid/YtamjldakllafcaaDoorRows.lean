/-
  NARROWER THAN 'FOR EVERY INPUT', by the rows' own cells (each row's printed sentence says how): TreeHalves: laid · WorkGood: laid · TreeBinds: laid · TreeSound: laid · TreeProves: laid · WorkTells: laid · TreeRoots: laid · WorkMines: laid · TreePaths: laid.
  DERIVED. THE GIVEN ROWS OF THIS SEAT. 9 by the template 'for every input the law returns true; each argument reads behind the call as it read before'; 0 by the template 'total and deterministic' (their statements: YtamjldakllafcaaDoorTotals.lean).
  GIVEN WITH THE SEED: the statements are not yours to turn. If you find one false, say at which input.
  Laid BY PROGRAM, IN A SANDBOX (cutbox-rows.mjs): the forced cells as the released guide's own fill.sh prints them over the translation 166feed35cc64928… (all of the seat's roots in one cut). By AI agents, Wed Nov 11 2026. No macro, syntax, notation, axiom, sorry.
-/
import Derived.Test.YtamjldakllafcaaDoorChecked
import GoSem.Claim
import GoSem.ClaimJoined
import GoSem.ClaimMapViews
import Derived.JoinedTies
import Derived.KernelRfl
namespace Go.Proofs.YtamjldakllafcaaDoor
/- THE CELL 'sum', in the pinned program and in every row, IS THE sha256 OF THE DUMP (.gsa) THAT YtamjldakllafcaaDoorProg.lean LOADS. Nothing in Lean hashes anything: it is a label: what it is worth is what the hold of that sum in a sandbox is worth. -/
noncomputable def Tryd.pinned : Pinned := { name := "ytamjldakllafcaadoor", sum := "166feed35cc649287b1fb0eb59ae1f66d51b2c2350e6bdcaef5ede175fedde0d", checked := Tryd.checked }
namespace Rows
def none {H : Type} : Left H := { results := [], args := [] }

/- WHAT THE LISTED PACKAGE-LEVEL VARIABLES READ AS WHEN THE CALL BEGINS. Each datum BY PROGRAM (the guide's laid-datum.mjs) off the statement by which the dump's own 'gosem.cut.vars' lays the variable. In a bare row this is a premise. The card (YtamjldakllafcaaDoorCards.lean) ties it to the program's text. -/
def laid_moneyer_sha_rounds {H : Type} : DataW H := .agg [.lit (.int .u32 1116352408), .lit (.int .u32 1899447441), .lit (.int .u32 3049323471), .lit (.int .u32 3921009573), .lit (.int .u32 961987163), .lit (.int .u32 1508970993), .lit (.int .u32 2453635748), .lit (.int .u32 2870763221), .lit (.int .u32 3624381080), .lit (.int .u32 310598401), .lit (.int .u32 607225278), .lit (.int .u32 1426881987), .lit (.int .u32 1925078388), .lit (.int .u32 2162078206), .lit (.int .u32 2614888103), .lit (.int .u32 3248222580), .lit (.int .u32 3835390401), .lit (.int .u32 4022224774), .lit (.int .u32 264347078), .lit (.int .u32 604807628), .lit (.int .u32 770255983), .lit (.int .u32 1249150122), .lit (.int .u32 1555081692), .lit (.int .u32 1996064986), .lit (.int .u32 2554220882), .lit (.int .u32 2821834349), .lit (.int .u32 2952996808), .lit (.int .u32 3210313671), .lit (.int .u32 3336571891), .lit (.int .u32 3584528711), .lit (.int .u32 113926993), .lit (.int .u32 338241895), .lit (.int .u32 666307205), .lit (.int .u32 773529912), .lit (.int .u32 1294757372), .lit (.int .u32 1396182291), .lit (.int .u32 1695183700), .lit (.int .u32 1986661051), .lit (.int .u32 2177026350), .lit (.int .u32 2456956037), .lit (.int .u32 2730485921), .lit (.int .u32 2820302411), .lit (.int .u32 3259730800), .lit (.int .u32 3345764771), .lit (.int .u32 3516065817), .lit (.int .u32 3600352804), .lit (.int .u32 4094571909), .lit (.int .u32 275423344), .lit (.int .u32 430227734), .lit (.int .u32 506948616), .lit (.int .u32 659060556), .lit (.int .u32 883997877), .lit (.int .u32 958139571), .lit (.int .u32 1322822218), .lit (.int .u32 1537002063), .lit (.int .u32 1747873779), .lit (.int .u32 1955562222), .lit (.int .u32 2024104815), .lit (.int .u32 2227730452), .lit (.int .u32 2361852424), .lit (.int .u32 2428436474), .lit (.int .u32 2756734187), .lit (.int .u32 3204031479), .lit (.int .u32 3329325298)]
def laid_errors_errorType {H : Type} : DataW H := .iface "internal/reflectlite.rtype" (.agg [.ptr (.lit (.string [101, 114, 114, 111, 114]))])

/-- 'moneyerlaw3.TreeHalves': WHATEVER THE INPUT: true; the input reads as it did. -/
def treeHalvesSpec : ChangeSpec := { name := "treeHalves", fn := fun _ => fun
  | [d] => { results := [.lit (.bool true)], args := [d] }
  | _ => none }
def treeHalvesRow : OpenClaim := { program := "ytamjldakllafcaadoor", sum := "166feed35cc649287b1fb0eb59ae1f66d51b2c2350e6bdcaef5ede175fedde0d", func := "moneyer/moneyerlaw3.TreeHalves", spec := "treeHalves", recurses := true, named := ["moneyer/sha.rounds"], apart := false, laid := [("moneyer/sha.rounds", laid_moneyer_sha_rounds)] }
def TreeHalvesSaid : Prop := treeHalvesRow.holds Tryd.pinned (OpenSpec.ofChange treeHalvesSpec)

/-- ITS FALSE NEIGHBOUR: 'it returns false'. Refute it at one input. -/
def treeHalvesWrong : ChangeSpec := { name := "treeHalves", fn := fun _ => fun
  | [d] => { results := [.lit (.bool false)], args := [d] }
  | _ => none }
def TreeHalvesWrongFalsely : Prop := treeHalvesRow.holds Tryd.pinned (OpenSpec.ofChange treeHalvesWrong)

/-- 'moneyerlaw3.WorkGood': WHATEVER THE INPUT: true; the input reads as it did. -/
def workGoodSpec : ChangeSpec := { name := "workGood", fn := fun _ => fun
  | [d1, d2, d3, d4, d5] => { results := [.lit (.bool true)], args := [d1, d2, d3, d4, d5] }
  | _ => none }
def workGoodRow : OpenClaim := { program := "ytamjldakllafcaadoor", sum := "166feed35cc649287b1fb0eb59ae1f66d51b2c2350e6bdcaef5ede175fedde0d", func := "moneyer/moneyerlaw3.WorkGood", spec := "workGood", unfollowed := true, recurses := true, named := ["moneyer/sha.rounds"], apart := false, laid := [("moneyer/sha.rounds", laid_moneyer_sha_rounds)] }
def WorkGoodSaid : Prop := workGoodRow.holds Tryd.pinned (OpenSpec.ofChange workGoodSpec)

/-- ITS FALSE NEIGHBOUR: 'it returns false'. Refute it at one input. -/
def workGoodWrong : ChangeSpec := { name := "workGood", fn := fun _ => fun
  | [d1, d2, d3, d4, d5] => { results := [.lit (.bool false)], args := [d1, d2, d3, d4, d5] }
  | _ => none }
def WorkGoodWrongFalsely : Prop := workGoodRow.holds Tryd.pinned (OpenSpec.ofChange workGoodWrong)

/-- 'moneyerlaw3.TreeBinds': WHATEVER THE INPUT: true; the input reads as it did. -/
def treeBindsSpec : ChangeSpec := { name := "treeBinds", fn := fun _ => fun
  | [d1, d2] => { results := [.lit (.bool true)], args := [d1, d2] }
  | _ => none }
def treeBindsRow : OpenClaim := { program := "ytamjldakllafcaadoor", sum := "166feed35cc649287b1fb0eb59ae1f66d51b2c2350e6bdcaef5ede175fedde0d", func := "moneyer/moneyerlaw3.TreeBinds", spec := "treeBinds", recurses := true, named := ["moneyer/sha.rounds"], apart := false, laid := [("moneyer/sha.rounds", laid_moneyer_sha_rounds)] }
def TreeBindsSaid : Prop := treeBindsRow.holds Tryd.pinned (OpenSpec.ofChange treeBindsSpec)

/-- ITS FALSE NEIGHBOUR: 'it returns false'. Refute it at one input. -/
def treeBindsWrong : ChangeSpec := { name := "treeBinds", fn := fun _ => fun
  | [d1, d2] => { results := [.lit (.bool false)], args := [d1, d2] }
  | _ => none }
def TreeBindsWrongFalsely : Prop := treeBindsRow.holds Tryd.pinned (OpenSpec.ofChange treeBindsWrong)

/-- 'moneyerlaw3.TreeSound': WHATEVER THE INPUT: true; the input reads as it did. -/
def treeSoundSpec : ChangeSpec := { name := "treeSound", fn := fun _ => fun
  | [d1, d2, d3, d4, d5, d6] => { results := [.lit (.bool true)], args := [d1, d2, d3, d4, d5, d6] }
  | _ => none }
def treeSoundRow : OpenClaim := { program := "ytamjldakllafcaadoor", sum := "166feed35cc649287b1fb0eb59ae1f66d51b2c2350e6bdcaef5ede175fedde0d", func := "moneyer/moneyerlaw3.TreeSound", spec := "treeSound", recurses := true, named := ["moneyer/sha.rounds"], apart := false, laid := [("moneyer/sha.rounds", laid_moneyer_sha_rounds)] }
def TreeSoundSaid : Prop := treeSoundRow.holds Tryd.pinned (OpenSpec.ofChange treeSoundSpec)

/-- ITS FALSE NEIGHBOUR: 'it returns false'. Refute it at one input. -/
def treeSoundWrong : ChangeSpec := { name := "treeSound", fn := fun _ => fun
  | [d1, d2, d3, d4, d5, d6] => { results := [.lit (.bool false)], args := [d1, d2, d3, d4, d5, d6] }
  | _ => none }
def TreeSoundWrongFalsely : Prop := treeSoundRow.holds Tryd.pinned (OpenSpec.ofChange treeSoundWrong)

/-- 'moneyerlaw3.TreeProves': WHATEVER THE INPUT: true; the input reads as it did. -/
def treeProvesSpec : ChangeSpec := { name := "treeProves", fn := fun _ => fun
  | [d1, d2] => { results := [.lit (.bool true)], args := [d1, d2] }
  | _ => none }
def treeProvesRow : OpenClaim := { program := "ytamjldakllafcaadoor", sum := "166feed35cc649287b1fb0eb59ae1f66d51b2c2350e6bdcaef5ede175fedde0d", func := "moneyer/moneyerlaw3.TreeProves", spec := "treeProves", recurses := true, named := ["moneyer/sha.rounds"], apart := false, laid := [("moneyer/sha.rounds", laid_moneyer_sha_rounds)] }
def TreeProvesSaid : Prop := treeProvesRow.holds Tryd.pinned (OpenSpec.ofChange treeProvesSpec)

/-- ITS FALSE NEIGHBOUR: 'it returns false'. Refute it at one input. -/
def treeProvesWrong : ChangeSpec := { name := "treeProves", fn := fun _ => fun
  | [d1, d2] => { results := [.lit (.bool false)], args := [d1, d2] }
  | _ => none }
def TreeProvesWrongFalsely : Prop := treeProvesRow.holds Tryd.pinned (OpenSpec.ofChange treeProvesWrong)

/-- 'moneyerlaw3.WorkTells': WHATEVER THE INPUT: true; the input reads as it did. -/
def workTellsSpec : ChangeSpec := { name := "workTells", fn := fun _ => fun
  | [d1, d2, d3, d4] => { results := [.lit (.bool true)], args := [d1, d2, d3, d4] }
  | _ => none }
def workTellsRow : OpenClaim := { program := "ytamjldakllafcaadoor", sum := "166feed35cc649287b1fb0eb59ae1f66d51b2c2350e6bdcaef5ede175fedde0d", func := "moneyer/moneyerlaw3.WorkTells", spec := "workTells", inPlace := ["internal/reflectlite.ValueOf", "(internal/reflectlite.Value).Type", "(internal/reflectlite.Value).IsNil", "internal/reflectlite.TypeOf", "(internal/reflectlite.Value).Elem", "(internal/reflectlite.Value).Set"], unfollowed := true, recurses := true, named := ["errors.errorType"], apart := false, laid := [("errors.errorType", laid_errors_errorType)] }
def WorkTellsSaid : Prop := workTellsRow.holds Tryd.pinned (OpenSpec.ofChange workTellsSpec)

/-- ITS FALSE NEIGHBOUR: 'it returns false'. Refute it at one input. -/
def workTellsWrong : ChangeSpec := { name := "workTells", fn := fun _ => fun
  | [d1, d2, d3, d4] => { results := [.lit (.bool false)], args := [d1, d2, d3, d4] }
  | _ => none }
def WorkTellsWrongFalsely : Prop := workTellsRow.holds Tryd.pinned (OpenSpec.ofChange workTellsWrong)

/-- 'moneyerlaw3.TreeRoots': WHATEVER THE INPUT: true; the input reads as it did. -/
def treeRootsSpec : ChangeSpec := { name := "treeRoots", fn := fun _ => fun
  | [d1, d2] => { results := [.lit (.bool true)], args := [d1, d2] }
  | _ => none }
def treeRootsRow : OpenClaim := { program := "ytamjldakllafcaadoor", sum := "166feed35cc649287b1fb0eb59ae1f66d51b2c2350e6bdcaef5ede175fedde0d", func := "moneyer/moneyerlaw3.TreeRoots", spec := "treeRoots", inPlace := ["internal/reflectlite.ValueOf", "(internal/reflectlite.Value).Type", "(internal/reflectlite.Value).IsNil", "internal/reflectlite.TypeOf", "(internal/reflectlite.Value).Elem", "(internal/reflectlite.Value).Set"], unfollowed := true, recurses := true, named := ["moneyer/sha.rounds", "errors.errorType"], apart := false, laid := [("moneyer/sha.rounds", laid_moneyer_sha_rounds), ("errors.errorType", laid_errors_errorType)] }
def TreeRootsSaid : Prop := treeRootsRow.holds Tryd.pinned (OpenSpec.ofChange treeRootsSpec)

/-- ITS FALSE NEIGHBOUR: 'it returns false'. Refute it at one input. -/
def treeRootsWrong : ChangeSpec := { name := "treeRoots", fn := fun _ => fun
  | [d1, d2] => { results := [.lit (.bool false)], args := [d1, d2] }
  | _ => none }
def TreeRootsWrongFalsely : Prop := treeRootsRow.holds Tryd.pinned (OpenSpec.ofChange treeRootsWrong)

/-- 'moneyerlaw3.WorkMines': WHATEVER THE INPUT: true; the input reads as it did. -/
def workMinesSpec : ChangeSpec := { name := "workMines", fn := fun _ => fun
  | [d1, d2, d3, d4] => { results := [.lit (.bool true)], args := [d1, d2, d3, d4] }
  | _ => none }
def workMinesRow : OpenClaim := { program := "ytamjldakllafcaadoor", sum := "166feed35cc649287b1fb0eb59ae1f66d51b2c2350e6bdcaef5ede175fedde0d", func := "moneyer/moneyerlaw3.WorkMines", spec := "workMines", inPlace := ["internal/reflectlite.ValueOf", "(internal/reflectlite.Value).Type", "(internal/reflectlite.Value).IsNil", "internal/reflectlite.TypeOf", "(internal/reflectlite.Value).Elem", "(internal/reflectlite.Value).Set"], unfollowed := true, recurses := true, named := ["moneyer/sha.rounds", "errors.errorType"], apart := false, laid := [("moneyer/sha.rounds", laid_moneyer_sha_rounds), ("errors.errorType", laid_errors_errorType)] }
def WorkMinesSaid : Prop := workMinesRow.holds Tryd.pinned (OpenSpec.ofChange workMinesSpec)

/-- ITS FALSE NEIGHBOUR: 'it returns false'. Refute it at one input. -/
def workMinesWrong : ChangeSpec := { name := "workMines", fn := fun _ => fun
  | [d1, d2, d3, d4] => { results := [.lit (.bool false)], args := [d1, d2, d3, d4] }
  | _ => none }
def WorkMinesWrongFalsely : Prop := workMinesRow.holds Tryd.pinned (OpenSpec.ofChange workMinesWrong)

/-- 'moneyerlaw3.TreePaths': WHATEVER THE INPUT: true; the input reads as it did. -/
def treePathsSpec : ChangeSpec := { name := "treePaths", fn := fun _ => fun
  | [d1, d2, d3, d4, d5] => { results := [.lit (.bool true)], args := [d1, d2, d3, d4, d5] }
  | _ => none }
def treePathsRow : OpenClaim := { program := "ytamjldakllafcaadoor", sum := "166feed35cc649287b1fb0eb59ae1f66d51b2c2350e6bdcaef5ede175fedde0d", func := "moneyer/moneyerlaw3.TreePaths", spec := "treePaths", inPlace := ["internal/reflectlite.ValueOf", "(internal/reflectlite.Value).Type", "(internal/reflectlite.Value).IsNil", "internal/reflectlite.TypeOf", "(internal/reflectlite.Value).Elem", "(internal/reflectlite.Value).Set"], unfollowed := true, recurses := true, named := ["moneyer/sha.rounds", "errors.errorType"], apart := false, laid := [("moneyer/sha.rounds", laid_moneyer_sha_rounds), ("errors.errorType", laid_errors_errorType)] }
def TreePathsSaid : Prop := treePathsRow.holds Tryd.pinned (OpenSpec.ofChange treePathsSpec)

/-- ITS FALSE NEIGHBOUR: 'it returns false'. Refute it at one input. -/
def treePathsWrong : ChangeSpec := { name := "treePaths", fn := fun _ => fun
  | [d1, d2, d3, d4, d5] => { results := [.lit (.bool false)], args := [d1, d2, d3, d4, d5] }
  | _ => none }
def TreePathsWrongFalsely : Prop := treePathsRow.holds Tryd.pinned (OpenSpec.ofChange treePathsWrong)

/- THE SECOND FORM. 'bulk': how many values and letters a reading holds, each counted each time it is reached (what is shared counts as often as it is met; a slice's spare places count too). A statement '..UptoSaid' is the law's where the arguments, and the package variables that the reading takes, are together of bulk at most 1048576: NARROWER than '..Said'. Prove '..Said' where nothing that the law and all that it calls make is longer than what came in: it says more and counts as full. Else prove '..UptoSaid'. A law counts once. -/
mutual
def uptoBulk {H : Type} : DataW H → Nat
  | .lit (.string bytes) => bytes.length + 1
  | .lit _ => 1
  | .nil => 1
  | .ptr d => uptoBulk d + 1
  | .slice elems spare => uptoBulkAll elems + uptoBulkAll spare + 1
  | .agg parts => uptoBulkAll parts + 1
  | .iface _ d => uptoBulk d + 1
  | .map entries => uptoBulkEntries entries + 1
  | .held _ => 1
def uptoBulkAll {H : Type} : List (DataW H) → Nat
  | [] => 0
  | d :: r => uptoBulk d + uptoBulkAll r
def uptoBulkEntries {H : Type} : List (Lit × DataW H) → Nat
  | [] => 0
  | x :: r => uptoBulkEntry x + uptoBulkEntries r
def uptoBulkEntry {H : Type} : Lit × DataW H → Nat
  | (.string bytes, d) => bytes.length + uptoBulk d + 1
  | (_, d) => uptoBulk d + 1
 end
def uptoSmall : (H : Type) → List (DataW H) → Bool := fun _ ds => decide (uptoBulkAll ds ≤ 1048576)
def OpenSpec.upto (s : _root_.Go.ChangeSpec) : _root_.Go.OpenSpec := { _root_.Go.OpenSpec.ofChange s with cond := some uptoSmall }

/-- 'moneyerlaw3.TreeHalves', WHERE WHAT IT READS IS OF BULK AT MOST 1048576: true; the input reads as it did. -/
def treeHalvesUptoRow : OpenClaim := { program := "ytamjldakllafcaadoor", sum := "166feed35cc649287b1fb0eb59ae1f66d51b2c2350e6bdcaef5ede175fedde0d", func := "moneyer/moneyerlaw3.TreeHalves", spec := "treeHalves", recurses := true, named := ["moneyer/sha.rounds"], apart := false, laid := [("moneyer/sha.rounds", laid_moneyer_sha_rounds)], narrowed := true }
def TreeHalvesUptoSaid : Prop := treeHalvesUptoRow.holds Tryd.pinned (OpenSpec.upto treeHalvesSpec)

/-- 'moneyerlaw3.WorkGood', WHERE WHAT IT READS IS OF BULK AT MOST 1048576: true; the input reads as it did. -/
def workGoodUptoRow : OpenClaim := { program := "ytamjldakllafcaadoor", sum := "166feed35cc649287b1fb0eb59ae1f66d51b2c2350e6bdcaef5ede175fedde0d", func := "moneyer/moneyerlaw3.WorkGood", spec := "workGood", unfollowed := true, recurses := true, named := ["moneyer/sha.rounds"], apart := false, laid := [("moneyer/sha.rounds", laid_moneyer_sha_rounds)], narrowed := true }
def WorkGoodUptoSaid : Prop := workGoodUptoRow.holds Tryd.pinned (OpenSpec.upto workGoodSpec)

/-- 'moneyerlaw3.TreeBinds', WHERE WHAT IT READS IS OF BULK AT MOST 1048576: true; the input reads as it did. -/
def treeBindsUptoRow : OpenClaim := { program := "ytamjldakllafcaadoor", sum := "166feed35cc649287b1fb0eb59ae1f66d51b2c2350e6bdcaef5ede175fedde0d", func := "moneyer/moneyerlaw3.TreeBinds", spec := "treeBinds", recurses := true, named := ["moneyer/sha.rounds"], apart := false, laid := [("moneyer/sha.rounds", laid_moneyer_sha_rounds)], narrowed := true }
def TreeBindsUptoSaid : Prop := treeBindsUptoRow.holds Tryd.pinned (OpenSpec.upto treeBindsSpec)

/-- 'moneyerlaw3.TreeSound', WHERE WHAT IT READS IS OF BULK AT MOST 1048576: true; the input reads as it did. -/
def treeSoundUptoRow : OpenClaim := { program := "ytamjldakllafcaadoor", sum := "166feed35cc649287b1fb0eb59ae1f66d51b2c2350e6bdcaef5ede175fedde0d", func := "moneyer/moneyerlaw3.TreeSound", spec := "treeSound", recurses := true, named := ["moneyer/sha.rounds"], apart := false, laid := [("moneyer/sha.rounds", laid_moneyer_sha_rounds)], narrowed := true }
def TreeSoundUptoSaid : Prop := treeSoundUptoRow.holds Tryd.pinned (OpenSpec.upto treeSoundSpec)

/-- 'moneyerlaw3.TreeProves', WHERE WHAT IT READS IS OF BULK AT MOST 1048576: true; the input reads as it did. -/
def treeProvesUptoRow : OpenClaim := { program := "ytamjldakllafcaadoor", sum := "166feed35cc649287b1fb0eb59ae1f66d51b2c2350e6bdcaef5ede175fedde0d", func := "moneyer/moneyerlaw3.TreeProves", spec := "treeProves", recurses := true, named := ["moneyer/sha.rounds"], apart := false, laid := [("moneyer/sha.rounds", laid_moneyer_sha_rounds)], narrowed := true }
def TreeProvesUptoSaid : Prop := treeProvesUptoRow.holds Tryd.pinned (OpenSpec.upto treeProvesSpec)

/-- 'moneyerlaw3.WorkTells', WHERE WHAT IT READS IS OF BULK AT MOST 1048576: true; the input reads as it did. -/
def workTellsUptoRow : OpenClaim := { program := "ytamjldakllafcaadoor", sum := "166feed35cc649287b1fb0eb59ae1f66d51b2c2350e6bdcaef5ede175fedde0d", func := "moneyer/moneyerlaw3.WorkTells", spec := "workTells", inPlace := ["internal/reflectlite.ValueOf", "(internal/reflectlite.Value).Type", "(internal/reflectlite.Value).IsNil", "internal/reflectlite.TypeOf", "(internal/reflectlite.Value).Elem", "(internal/reflectlite.Value).Set"], unfollowed := true, recurses := true, named := ["errors.errorType"], apart := false, laid := [("errors.errorType", laid_errors_errorType)], narrowed := true }
def WorkTellsUptoSaid : Prop := workTellsUptoRow.holds Tryd.pinned (OpenSpec.upto workTellsSpec)

/-- 'moneyerlaw3.TreeRoots', WHERE WHAT IT READS IS OF BULK AT MOST 1048576: true; the input reads as it did. -/
def treeRootsUptoRow : OpenClaim := { program := "ytamjldakllafcaadoor", sum := "166feed35cc649287b1fb0eb59ae1f66d51b2c2350e6bdcaef5ede175fedde0d", func := "moneyer/moneyerlaw3.TreeRoots", spec := "treeRoots", inPlace := ["internal/reflectlite.ValueOf", "(internal/reflectlite.Value).Type", "(internal/reflectlite.Value).IsNil", "internal/reflectlite.TypeOf", "(internal/reflectlite.Value).Elem", "(internal/reflectlite.Value).Set"], unfollowed := true, recurses := true, named := ["moneyer/sha.rounds", "errors.errorType"], apart := false, laid := [("moneyer/sha.rounds", laid_moneyer_sha_rounds), ("errors.errorType", laid_errors_errorType)], narrowed := true }
def TreeRootsUptoSaid : Prop := treeRootsUptoRow.holds Tryd.pinned (OpenSpec.upto treeRootsSpec)

/-- 'moneyerlaw3.WorkMines', WHERE WHAT IT READS IS OF BULK AT MOST 1048576: true; the input reads as it did. -/
def workMinesUptoRow : OpenClaim := { program := "ytamjldakllafcaadoor", sum := "166feed35cc649287b1fb0eb59ae1f66d51b2c2350e6bdcaef5ede175fedde0d", func := "moneyer/moneyerlaw3.WorkMines", spec := "workMines", inPlace := ["internal/reflectlite.ValueOf", "(internal/reflectlite.Value).Type", "(internal/reflectlite.Value).IsNil", "internal/reflectlite.TypeOf", "(internal/reflectlite.Value).Elem", "(internal/reflectlite.Value).Set"], unfollowed := true, recurses := true, named := ["moneyer/sha.rounds", "errors.errorType"], apart := false, laid := [("moneyer/sha.rounds", laid_moneyer_sha_rounds), ("errors.errorType", laid_errors_errorType)], narrowed := true }
def WorkMinesUptoSaid : Prop := workMinesUptoRow.holds Tryd.pinned (OpenSpec.upto workMinesSpec)

/-- 'moneyerlaw3.TreePaths', WHERE WHAT IT READS IS OF BULK AT MOST 1048576: true; the input reads as it did. -/
def treePathsUptoRow : OpenClaim := { program := "ytamjldakllafcaadoor", sum := "166feed35cc649287b1fb0eb59ae1f66d51b2c2350e6bdcaef5ede175fedde0d", func := "moneyer/moneyerlaw3.TreePaths", spec := "treePaths", inPlace := ["internal/reflectlite.ValueOf", "(internal/reflectlite.Value).Type", "(internal/reflectlite.Value).IsNil", "internal/reflectlite.TypeOf", "(internal/reflectlite.Value).Elem", "(internal/reflectlite.Value).Set"], unfollowed := true, recurses := true, named := ["moneyer/sha.rounds", "errors.errorType"], apart := false, laid := [("moneyer/sha.rounds", laid_moneyer_sha_rounds), ("errors.errorType", laid_errors_errorType)], narrowed := true }
def TreePathsUptoSaid : Prop := treePathsUptoRow.holds Tryd.pinned (OpenSpec.upto treePathsSpec)

end Rows
end Go.Proofs.YtamjldakllafcaaDoor
