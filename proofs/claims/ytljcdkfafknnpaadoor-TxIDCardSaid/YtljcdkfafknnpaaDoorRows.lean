/-
  NARROWER THAN 'FOR EVERY INPUT', by the rows' own cells (each row's printed sentence says how): TxID: laid · CoinTells: laid · CoinOrder: laid · CoinSums: laid · CoinBack: laid · CoinOnce: laid.
  DERIVED. THE GIVEN ROWS OF THIS SEAT. 6 by the template 'for every input the law returns true; each argument reads behind the call as it read before'; 0 by the template 'total and deterministic' (their statements: YtljcdkfafknnpaaDoorTotals.lean).
  GIVEN WITH THE SEED: the statements are not yours to turn. If you find one false, say at which input.
  Laid BY PROGRAM, IN A SANDBOX (cutbox-rows.mjs): the forced cells as the released guide's own fill.sh prints them over the translation d89ac945e80dd9af… (all of the seat's roots in one cut). By AI agents, Wed Nov 11 2026. No macro, syntax, notation, axiom, sorry.
-/
import Derived.Test.YtljcdkfafknnpaaDoorChecked
import GoSem.Claim
import GoSem.ClaimJoined
import GoSem.ClaimMapViews
import Derived.JoinedTies
import Derived.KernelRfl
namespace Go.Proofs.YtljcdkfafknnpaaDoor
/- THE CELL 'sum', in the pinned program and in every row, IS THE sha256 OF THE DUMP (.gsa) THAT YtljcdkfafknnpaaDoorProg.lean LOADS. Nothing in Lean hashes anything: it is a label: what it is worth is what the hold of that sum in a sandbox is worth. -/
noncomputable def Tryd.pinned : Pinned := { name := "ytljcdkfafknnpaadoor", sum := "d89ac945e80dd9afbb917d6f98b37ac1b47da0331300d5179cb96ec7c4adf191", checked := Tryd.checked }
namespace Rows
def none {H : Type} : Left H := { results := [], args := [] }

/- WHAT THE LISTED PACKAGE-LEVEL VARIABLES READ AS WHEN THE CALL BEGINS. Each datum BY PROGRAM (the guide's laid-datum.mjs) off the statement by which the dump's own 'gosem.cut.vars' lays the variable. In a bare row this is a premise. The card (YtljcdkfafknnpaaDoorCards.lean) ties it to the program's text. -/
def laid_moneyer_sha_rounds {H : Type} : DataW H := .agg [.lit (.int .u32 1116352408), .lit (.int .u32 1899447441), .lit (.int .u32 3049323471), .lit (.int .u32 3921009573), .lit (.int .u32 961987163), .lit (.int .u32 1508970993), .lit (.int .u32 2453635748), .lit (.int .u32 2870763221), .lit (.int .u32 3624381080), .lit (.int .u32 310598401), .lit (.int .u32 607225278), .lit (.int .u32 1426881987), .lit (.int .u32 1925078388), .lit (.int .u32 2162078206), .lit (.int .u32 2614888103), .lit (.int .u32 3248222580), .lit (.int .u32 3835390401), .lit (.int .u32 4022224774), .lit (.int .u32 264347078), .lit (.int .u32 604807628), .lit (.int .u32 770255983), .lit (.int .u32 1249150122), .lit (.int .u32 1555081692), .lit (.int .u32 1996064986), .lit (.int .u32 2554220882), .lit (.int .u32 2821834349), .lit (.int .u32 2952996808), .lit (.int .u32 3210313671), .lit (.int .u32 3336571891), .lit (.int .u32 3584528711), .lit (.int .u32 113926993), .lit (.int .u32 338241895), .lit (.int .u32 666307205), .lit (.int .u32 773529912), .lit (.int .u32 1294757372), .lit (.int .u32 1396182291), .lit (.int .u32 1695183700), .lit (.int .u32 1986661051), .lit (.int .u32 2177026350), .lit (.int .u32 2456956037), .lit (.int .u32 2730485921), .lit (.int .u32 2820302411), .lit (.int .u32 3259730800), .lit (.int .u32 3345764771), .lit (.int .u32 3516065817), .lit (.int .u32 3600352804), .lit (.int .u32 4094571909), .lit (.int .u32 275423344), .lit (.int .u32 430227734), .lit (.int .u32 506948616), .lit (.int .u32 659060556), .lit (.int .u32 883997877), .lit (.int .u32 958139571), .lit (.int .u32 1322822218), .lit (.int .u32 1537002063), .lit (.int .u32 1747873779), .lit (.int .u32 1955562222), .lit (.int .u32 2024104815), .lit (.int .u32 2227730452), .lit (.int .u32 2361852424), .lit (.int .u32 2428436474), .lit (.int .u32 2756734187), .lit (.int .u32 3204031479), .lit (.int .u32 3329325298)]
def laid_errors_errorType {H : Type} : DataW H := .iface "internal/reflectlite.rtype" (.agg [.ptr (.lit (.string [101, 114, 114, 111, 114]))])

/-- 'moneyerlaw2.TxID': WHATEVER THE INPUT: true; the input reads as it did. -/
def txIDSpec : ChangeSpec := { name := "txID", fn := fun _ => fun
  | [d1, d2, d3] => { results := [.lit (.bool true)], args := [d1, d2, d3] }
  | _ => none }
def txIDRow : OpenClaim := { program := "ytljcdkfafknnpaadoor", sum := "d89ac945e80dd9afbb917d6f98b37ac1b47da0331300d5179cb96ec7c4adf191", func := "moneyer/moneyerlaw2.TxID", spec := "txID", unfollowed := true, recurses := true, named := ["moneyer/sha.rounds"], plainKeys := false, apart := false, laid := [("moneyer/sha.rounds", laid_moneyer_sha_rounds)] }
def TxIDSaid : Prop := txIDRow.holds Tryd.pinned (OpenSpec.ofChange txIDSpec)

/-- ITS FALSE NEIGHBOUR: 'it returns false'. Refute it at one input. -/
def txIDWrong : ChangeSpec := { name := "txID", fn := fun _ => fun
  | [d1, d2, d3] => { results := [.lit (.bool false)], args := [d1, d2, d3] }
  | _ => none }
def TxIDWrongFalsely : Prop := txIDRow.holds Tryd.pinned (OpenSpec.ofChange txIDWrong)

/-- 'moneyerlaw2.CoinTells': WHATEVER THE INPUT: true; the input reads as it did. -/
def coinTellsSpec : ChangeSpec := { name := "coinTells", fn := fun _ => fun
  | [d1, d2, d3] => { results := [.lit (.bool true)], args := [d1, d2, d3] }
  | _ => none }
def coinTellsRow : OpenClaim := { program := "ytljcdkfafknnpaadoor", sum := "d89ac945e80dd9afbb917d6f98b37ac1b47da0331300d5179cb96ec7c4adf191", func := "moneyer/moneyerlaw2.CoinTells", spec := "coinTells", inPlace := ["internal/bytealg.Compare", "internal/reflectlite.ValueOf", "(internal/reflectlite.Value).Type", "(internal/reflectlite.Value).IsNil", "internal/reflectlite.TypeOf", "(internal/reflectlite.Value).Elem", "(internal/reflectlite.Value).Set"], unfollowed := true, recurses := true, named := ["errors.errorType"], plainKeys := false, apart := false, laid := [("errors.errorType", laid_errors_errorType)] }
def CoinTellsSaid : Prop := coinTellsRow.holds Tryd.pinned (OpenSpec.ofChange coinTellsSpec)

/-- ITS FALSE NEIGHBOUR: 'it returns false'. Refute it at one input. -/
def coinTellsWrong : ChangeSpec := { name := "coinTells", fn := fun _ => fun
  | [d1, d2, d3] => { results := [.lit (.bool false)], args := [d1, d2, d3] }
  | _ => none }
def CoinTellsWrongFalsely : Prop := coinTellsRow.holds Tryd.pinned (OpenSpec.ofChange coinTellsWrong)

/-- 'moneyerlaw2.CoinOrder': WHATEVER THE INPUT: true; the input reads as it did. -/
def coinOrderSpec : ChangeSpec := { name := "coinOrder", fn := fun _ => fun
  | [d1, d2, d3, d4] => { results := [.lit (.bool true)], args := [d1, d2, d3, d4] }
  | _ => none }
def coinOrderRow : OpenClaim := { program := "ytljcdkfafknnpaadoor", sum := "d89ac945e80dd9afbb917d6f98b37ac1b47da0331300d5179cb96ec7c4adf191", func := "moneyer/moneyerlaw2.CoinOrder", spec := "coinOrder", inPlace := ["internal/bytealg.Compare", "slices.overlaps[moneyer/api.Coin]"], unfollowed := true, recurses := true, named := ["moneyer/sha.rounds"], plainKeys := false, apart := false, laid := [("moneyer/sha.rounds", laid_moneyer_sha_rounds)] }
def CoinOrderSaid : Prop := coinOrderRow.holds Tryd.pinned (OpenSpec.ofChange coinOrderSpec)

/-- ITS FALSE NEIGHBOUR: 'it returns false'. Refute it at one input. -/
def coinOrderWrong : ChangeSpec := { name := "coinOrder", fn := fun _ => fun
  | [d1, d2, d3, d4] => { results := [.lit (.bool false)], args := [d1, d2, d3, d4] }
  | _ => none }
def CoinOrderWrongFalsely : Prop := coinOrderRow.holds Tryd.pinned (OpenSpec.ofChange coinOrderWrong)

/-- 'moneyerlaw2.CoinSums': WHATEVER THE INPUT: true; the input reads as it did. -/
def coinSumsSpec : ChangeSpec := { name := "coinSums", fn := fun _ => fun
  | [d1, d2, d3] => { results := [.lit (.bool true)], args := [d1, d2, d3] }
  | _ => none }
def coinSumsRow : OpenClaim := { program := "ytljcdkfafknnpaadoor", sum := "d89ac945e80dd9afbb917d6f98b37ac1b47da0331300d5179cb96ec7c4adf191", func := "moneyer/moneyerlaw2.CoinSums", spec := "coinSums", inPlace := ["internal/bytealg.Compare", "slices.overlaps[moneyer/api.Coin]"], unfollowed := true, recurses := true, named := ["moneyer/sha.rounds"], plainKeys := false, apart := false, laid := [("moneyer/sha.rounds", laid_moneyer_sha_rounds)] }
def CoinSumsSaid : Prop := coinSumsRow.holds Tryd.pinned (OpenSpec.ofChange coinSumsSpec)

/-- ITS FALSE NEIGHBOUR: 'it returns false'. Refute it at one input. -/
def coinSumsWrong : ChangeSpec := { name := "coinSums", fn := fun _ => fun
  | [d1, d2, d3] => { results := [.lit (.bool false)], args := [d1, d2, d3] }
  | _ => none }
def CoinSumsWrongFalsely : Prop := coinSumsRow.holds Tryd.pinned (OpenSpec.ofChange coinSumsWrong)

/-- 'moneyerlaw2.CoinBack': WHATEVER THE INPUT: true; the input reads as it did. -/
def coinBackSpec : ChangeSpec := { name := "coinBack", fn := fun _ => fun
  | [d1, d2, d3] => { results := [.lit (.bool true)], args := [d1, d2, d3] }
  | _ => none }
def coinBackRow : OpenClaim := { program := "ytljcdkfafknnpaadoor", sum := "d89ac945e80dd9afbb917d6f98b37ac1b47da0331300d5179cb96ec7c4adf191", func := "moneyer/moneyerlaw2.CoinBack", spec := "coinBack", inPlace := ["internal/bytealg.Compare", "slices.overlaps[moneyer/api.Coin]"], unfollowed := true, recurses := true, named := ["moneyer/sha.rounds"], plainKeys := false, apart := false, laid := [("moneyer/sha.rounds", laid_moneyer_sha_rounds)] }
def CoinBackSaid : Prop := coinBackRow.holds Tryd.pinned (OpenSpec.ofChange coinBackSpec)

/-- ITS FALSE NEIGHBOUR: 'it returns false'. Refute it at one input. -/
def coinBackWrong : ChangeSpec := { name := "coinBack", fn := fun _ => fun
  | [d1, d2, d3] => { results := [.lit (.bool false)], args := [d1, d2, d3] }
  | _ => none }
def CoinBackWrongFalsely : Prop := coinBackRow.holds Tryd.pinned (OpenSpec.ofChange coinBackWrong)

/-- 'moneyerlaw2.CoinOnce': WHATEVER THE INPUT: true; the input reads as it did. -/
def coinOnceSpec : ChangeSpec := { name := "coinOnce", fn := fun _ => fun
  | [d1, d2, d3, d4] => { results := [.lit (.bool true)], args := [d1, d2, d3, d4] }
  | _ => none }
def coinOnceRow : OpenClaim := { program := "ytljcdkfafknnpaadoor", sum := "d89ac945e80dd9afbb917d6f98b37ac1b47da0331300d5179cb96ec7c4adf191", func := "moneyer/moneyerlaw2.CoinOnce", spec := "coinOnce", inPlace := ["internal/bytealg.Compare", "slices.overlaps[moneyer/api.Coin]", "internal/reflectlite.ValueOf", "(internal/reflectlite.Value).Type", "(internal/reflectlite.Value).IsNil", "internal/reflectlite.TypeOf", "(internal/reflectlite.Value).Elem", "(internal/reflectlite.Value).Set"], unfollowed := true, recurses := true, named := ["moneyer/sha.rounds", "errors.errorType"], plainKeys := false, apart := false, laid := [("moneyer/sha.rounds", laid_moneyer_sha_rounds), ("errors.errorType", laid_errors_errorType)] }
def CoinOnceSaid : Prop := coinOnceRow.holds Tryd.pinned (OpenSpec.ofChange coinOnceSpec)

/-- ITS FALSE NEIGHBOUR: 'it returns false'. Refute it at one input. -/
def coinOnceWrong : ChangeSpec := { name := "coinOnce", fn := fun _ => fun
  | [d1, d2, d3, d4] => { results := [.lit (.bool false)], args := [d1, d2, d3, d4] }
  | _ => none }
def CoinOnceWrongFalsely : Prop := coinOnceRow.holds Tryd.pinned (OpenSpec.ofChange coinOnceWrong)

/- THE SECOND FORM. 'bulk': how many values and letters a reading holds, each counted each time it is reached (what is shared counts as often as it is met; a slice's spare places count too). A statement '..UptoSaid' is the law's where the arguments, and the package variables that the reading takes, are together of bulk at most 1048576: NARROWER than '..Said'. Prove '..Said' where nothing that the law and all that it calls make is longer than what came in: it says more and counts as full. Else prove '..UptoSaid'. A law counts once. -/
mutual
def uptoBulk {H : Type} : DataW H → Nat
  | .lit (.string bytes) => bytes.length + 1
  | .lit _ => 1
  | .nil => 1
  | .ptr d => uptoBulk d + 1
  | .slice elems spare => uptoBulkAll elems + uptoBulkAll spare + 1
  | .agg parts => uptoBulkAll parts + 1
  | .iface _ d => uptoBulk d + 1
  | .map entries => uptoBulkEntries entries + 1
  | .held _ => 1
def uptoBulkAll {H : Type} : List (DataW H) → Nat
  | [] => 0
  | d :: r => uptoBulk d + uptoBulkAll r
def uptoBulkEntries {H : Type} : List (Lit × DataW H) → Nat
  | [] => 0
  | x :: r => uptoBulkEntry x + uptoBulkEntries r
def uptoBulkEntry {H : Type} : Lit × DataW H → Nat
  | (.string bytes, d) => bytes.length + uptoBulk d + 1
  | (_, d) => uptoBulk d + 1
 end
def uptoSmall : (H : Type) → List (DataW H) → Bool := fun _ ds => decide (uptoBulkAll ds ≤ 1048576)
def OpenSpec.upto (s : _root_.Go.ChangeSpec) : _root_.Go.OpenSpec := { _root_.Go.OpenSpec.ofChange s with cond := some uptoSmall }

/-- 'moneyerlaw2.TxID', WHERE WHAT IT READS IS OF BULK AT MOST 1048576: true; the input reads as it did. -/
def txIDUptoRow : OpenClaim := { program := "ytljcdkfafknnpaadoor", sum := "d89ac945e80dd9afbb917d6f98b37ac1b47da0331300d5179cb96ec7c4adf191", func := "moneyer/moneyerlaw2.TxID", spec := "txID", unfollowed := true, recurses := true, named := ["moneyer/sha.rounds"], plainKeys := false, apart := false, laid := [("moneyer/sha.rounds", laid_moneyer_sha_rounds)], narrowed := true }
def TxIDUptoSaid : Prop := txIDUptoRow.holds Tryd.pinned (OpenSpec.upto txIDSpec)

/-- 'moneyerlaw2.CoinTells', WHERE WHAT IT READS IS OF BULK AT MOST 1048576: true; the input reads as it did. -/
def coinTellsUptoRow : OpenClaim := { program := "ytljcdkfafknnpaadoor", sum := "d89ac945e80dd9afbb917d6f98b37ac1b47da0331300d5179cb96ec7c4adf191", func := "moneyer/moneyerlaw2.CoinTells", spec := "coinTells", inPlace := ["internal/bytealg.Compare", "internal/reflectlite.ValueOf", "(internal/reflectlite.Value).Type", "(internal/reflectlite.Value).IsNil", "internal/reflectlite.TypeOf", "(internal/reflectlite.Value).Elem", "(internal/reflectlite.Value).Set"], unfollowed := true, recurses := true, named := ["errors.errorType"], plainKeys := false, apart := false, laid := [("errors.errorType", laid_errors_errorType)], narrowed := true }
def CoinTellsUptoSaid : Prop := coinTellsUptoRow.holds Tryd.pinned (OpenSpec.upto coinTellsSpec)

/-- 'moneyerlaw2.CoinOrder', WHERE WHAT IT READS IS OF BULK AT MOST 1048576: true; the input reads as it did. -/
def coinOrderUptoRow : OpenClaim := { program := "ytljcdkfafknnpaadoor", sum := "d89ac945e80dd9afbb917d6f98b37ac1b47da0331300d5179cb96ec7c4adf191", func := "moneyer/moneyerlaw2.CoinOrder", spec := "coinOrder", inPlace := ["internal/bytealg.Compare", "slices.overlaps[moneyer/api.Coin]"], unfollowed := true, recurses := true, named := ["moneyer/sha.rounds"], plainKeys := false, apart := false, laid := [("moneyer/sha.rounds", laid_moneyer_sha_rounds)], narrowed := true }
def CoinOrderUptoSaid : Prop := coinOrderUptoRow.holds Tryd.pinned (OpenSpec.upto coinOrderSpec)

/-- 'moneyerlaw2.CoinSums', WHERE WHAT IT READS IS OF BULK AT MOST 1048576: true; the input reads as it did. -/
def coinSumsUptoRow : OpenClaim := { program := "ytljcdkfafknnpaadoor", sum := "d89ac945e80dd9afbb917d6f98b37ac1b47da0331300d5179cb96ec7c4adf191", func := "moneyer/moneyerlaw2.CoinSums", spec := "coinSums", inPlace := ["internal/bytealg.Compare", "slices.overlaps[moneyer/api.Coin]"], unfollowed := true, recurses := true, named := ["moneyer/sha.rounds"], plainKeys := false, apart := false, laid := [("moneyer/sha.rounds", laid_moneyer_sha_rounds)], narrowed := true }
def CoinSumsUptoSaid : Prop := coinSumsUptoRow.holds Tryd.pinned (OpenSpec.upto coinSumsSpec)

/-- 'moneyerlaw2.CoinBack', WHERE WHAT IT READS IS OF BULK AT MOST 1048576: true; the input reads as it did. -/
def coinBackUptoRow : OpenClaim := { program := "ytljcdkfafknnpaadoor", sum := "d89ac945e80dd9afbb917d6f98b37ac1b47da0331300d5179cb96ec7c4adf191", func := "moneyer/moneyerlaw2.CoinBack", spec := "coinBack", inPlace := ["internal/bytealg.Compare", "slices.overlaps[moneyer/api.Coin]"], unfollowed := true, recurses := true, named := ["moneyer/sha.rounds"], plainKeys := false, apart := false, laid := [("moneyer/sha.rounds", laid_moneyer_sha_rounds)], narrowed := true }
def CoinBackUptoSaid : Prop := coinBackUptoRow.holds Tryd.pinned (OpenSpec.upto coinBackSpec)

/-- 'moneyerlaw2.CoinOnce', WHERE WHAT IT READS IS OF BULK AT MOST 1048576: true; the input reads as it did. -/
def coinOnceUptoRow : OpenClaim := { program := "ytljcdkfafknnpaadoor", sum := "d89ac945e80dd9afbb917d6f98b37ac1b47da0331300d5179cb96ec7c4adf191", func := "moneyer/moneyerlaw2.CoinOnce", spec := "coinOnce", inPlace := ["internal/bytealg.Compare", "slices.overlaps[moneyer/api.Coin]", "internal/reflectlite.ValueOf", "(internal/reflectlite.Value).Type", "(internal/reflectlite.Value).IsNil", "internal/reflectlite.TypeOf", "(internal/reflectlite.Value).Elem", "(internal/reflectlite.Value).Set"], unfollowed := true, recurses := true, named := ["moneyer/sha.rounds", "errors.errorType"], plainKeys := false, apart := false, laid := [("moneyer/sha.rounds", laid_moneyer_sha_rounds), ("errors.errorType", laid_errors_errorType)], narrowed := true }
def CoinOnceUptoSaid : Prop := coinOnceUptoRow.holds Tryd.pinned (OpenSpec.upto coinOnceSpec)

end Rows
end Go.Proofs.YtljcdkfafknnpaaDoor
