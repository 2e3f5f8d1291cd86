/-
  NARROWER THAN 'FOR EVERY INPUT', by the rows' own cells (each row's printed sentence says how): LoaderRises: laid · LoaderApart: laid · ConfigNumbers: laid · LoaderSwitches: laid · LoaderNotes: laid · ConfigBack: laid.
  DERIVED. THE GIVEN ROWS OF THIS SEAT. 6 by the template 'for every input the law returns true; each argument reads behind the call as it read before'; 0 by the template 'total and deterministic' (their statements: YtdalmiacjicgpaaGreatDoorTotals.lean).
  GIVEN WITH THE SEED: the statements are not yours to turn. If you find one false, say at which input.
  Laid BY PROGRAM, IN A SANDBOX (cutbox-rows.mjs): the forced cells as the released guide's own fill.sh prints them over the translation 9b6f50e380039d4d… (all of the seat's roots in one cut). By AI agents, Wed Nov 11 2026. No macro, syntax, notation, axiom, sorry.
-/
import Derived.Test.YtdalmiacjicgpaaGreatDoorChecked
import GoSem.Claim
import GoSem.ClaimJoined
import GoSem.ClaimMapViews
import Derived.JoinedTies
import Derived.KernelRfl
namespace Go.Proofs.YtdalmiacjicgpaaGreatDoor
/- THE CELL 'sum', in the pinned program and in every row, IS THE sha256 OF THE DUMP (.gsa) THAT YtdalmiacjicgpaaGreatDoorProg.lean LOADS. Nothing in Lean hashes anything: it is a label: what it is worth is what the hold of that sum in a sandbox is worth. -/
noncomputable def Tryz.pinned : Pinned := { name := "ytdalmiacjicgpaagreatdoor", sum := "9b6f50e380039d4dca48d4c675fd6aaf266ed7a5a5df5e6844aae272ea5c3e70", checked := Tryz.checked }
namespace Rows
def none {H : Type} : Left H := { results := [], args := [] }

/- WHAT THE LISTED PACKAGE-LEVEL VARIABLES READ AS WHEN THE CALL BEGINS. Each datum BY PROGRAM (the guide's laid-datum.mjs) off the statement by which the dump's own 'gosem.cut.vars' lays the variable. In a bare row this is a premise. The card (YtdalmiacjicgpaaGreatDoorCards.lean) ties it to the program's text. -/
def laid_nacelle_sha_initial {H : Type} : DataW H := .agg [.lit (.int .u32 1779033703), .lit (.int .u32 3144134277), .lit (.int .u32 1013904242), .lit (.int .u32 2773480762), .lit (.int .u32 1359893119), .lit (.int .u32 2600822924), .lit (.int .u32 528734635), .lit (.int .u32 1541459225)]
def laid_nacelle_sha_constants {H : Type} : DataW H := .agg [.lit (.int .u32 1116352408), .lit (.int .u32 1899447441), .lit (.int .u32 3049323471), .lit (.int .u32 3921009573), .lit (.int .u32 961987163), .lit (.int .u32 1508970993), .lit (.int .u32 2453635748), .lit (.int .u32 2870763221), .lit (.int .u32 3624381080), .lit (.int .u32 310598401), .lit (.int .u32 607225278), .lit (.int .u32 1426881987), .lit (.int .u32 1925078388), .lit (.int .u32 2162078206), .lit (.int .u32 2614888103), .lit (.int .u32 3248222580), .lit (.int .u32 3835390401), .lit (.int .u32 4022224774), .lit (.int .u32 264347078), .lit (.int .u32 604807628), .lit (.int .u32 770255983), .lit (.int .u32 1249150122), .lit (.int .u32 1555081692), .lit (.int .u32 1996064986), .lit (.int .u32 2554220882), .lit (.int .u32 2821834349), .lit (.int .u32 2952996808), .lit (.int .u32 3210313671), .lit (.int .u32 3336571891), .lit (.int .u32 3584528711), .lit (.int .u32 113926993), .lit (.int .u32 338241895), .lit (.int .u32 666307205), .lit (.int .u32 773529912), .lit (.int .u32 1294757372), .lit (.int .u32 1396182291), .lit (.int .u32 1695183700), .lit (.int .u32 1986661051), .lit (.int .u32 2177026350), .lit (.int .u32 2456956037), .lit (.int .u32 2730485921), .lit (.int .u32 2820302411), .lit (.int .u32 3259730800), .lit (.int .u32 3345764771), .lit (.int .u32 3516065817), .lit (.int .u32 3600352804), .lit (.int .u32 4094571909), .lit (.int .u32 275423344), .lit (.int .u32 430227734), .lit (.int .u32 506948616), .lit (.int .u32 659060556), .lit (.int .u32 883997877), .lit (.int .u32 958139571), .lit (.int .u32 1322822218), .lit (.int .u32 1537002063), .lit (.int .u32 1747873779), .lit (.int .u32 1955562222), .lit (.int .u32 2024104815), .lit (.int .u32 2227730452), .lit (.int .u32 2361852424), .lit (.int .u32 2428436474), .lit (.int .u32 2756734187), .lit (.int .u32 3204031479), .lit (.int .u32 3329325298)]
def laid_errors_errorType {H : Type} : DataW H := .iface "internal/reflectlite.rtype" (.agg [.ptr (.lit (.string [101, 114, 114, 111, 114]))])
def laid_nacelle_crc_nibbles {H : Type} : DataW H := .agg [.lit (.int .u32 0), .lit (.int .u32 274646895), .lit (.int .u32 549293790), .lit (.int .u32 820201905), .lit (.int .u32 1098587580), .lit (.int .u32 1361435347), .lit (.int .u32 1640403810), .lit (.int .u32 1905808397), .lit (.int .u32 2197175160), .lit (.int .u32 2460548119), .lit (.int .u32 2722870694), .lit (.int .u32 2987750089), .lit (.int .u32 3280807620), .lit (.int .u32 3553878443), .lit (.int .u32 3811616794), .lit (.int .u32 4084100981)]

/-- 'nacellelaw21.LoaderRises': WHATEVER THE INPUT: true; the input reads as it did. -/
def loaderRisesSpec : ChangeSpec := { name := "loaderRises", fn := fun _ => fun
  | [d1, d2, d3] => { results := [.lit (.bool true)], args := [d1, d2, d3] }
  | _ => none }
def loaderRisesRow : OpenClaim := { program := "ytdalmiacjicgpaagreatdoor", sum := "9b6f50e380039d4dca48d4c675fd6aaf266ed7a5a5df5e6844aae272ea5c3e70", func := "nacelle/nacellelaw21.LoaderRises", spec := "loaderRises", inPlace := ["internal/reflectlite.ValueOf", "(internal/reflectlite.Value).Type", "(internal/reflectlite.Value).IsNil", "internal/reflectlite.TypeOf", "(internal/reflectlite.Value).Elem", "(internal/reflectlite.Value).Set", "internal/bytealg.MakeNoZero"], unfollowed := true, recurses := true, named := ["nacelle/crc.nibbles", "errors.errorType", "nacelle/sha.initial", "nacelle/sha.constants"], apart := false, laid := [("nacelle/sha.initial", laid_nacelle_sha_initial), ("nacelle/sha.constants", laid_nacelle_sha_constants), ("errors.errorType", laid_errors_errorType), ("nacelle/crc.nibbles", laid_nacelle_crc_nibbles)] }
def LoaderRisesSaid : Prop := loaderRisesRow.holds Tryz.pinned (OpenSpec.ofChange loaderRisesSpec)

/-- ITS FALSE NEIGHBOUR: 'it returns false'. Refute it at one input. -/
def loaderRisesWrong : ChangeSpec := { name := "loaderRises", fn := fun _ => fun
  | [d1, d2, d3] => { results := [.lit (.bool false)], args := [d1, d2, d3] }
  | _ => none }
def LoaderRisesWrongFalsely : Prop := loaderRisesRow.holds Tryz.pinned (OpenSpec.ofChange loaderRisesWrong)

/-- 'nacellelaw21.LoaderApart': WHATEVER THE INPUT: true; the input reads as it did. -/
def loaderApartSpec : ChangeSpec := { name := "loaderApart", fn := fun _ => fun
  | [d] => { results := [.lit (.bool true)], args := [d] }
  | _ => none }
def loaderApartRow : OpenClaim := { program := "ytdalmiacjicgpaagreatdoor", sum := "9b6f50e380039d4dca48d4c675fd6aaf266ed7a5a5df5e6844aae272ea5c3e70", func := "nacelle/nacellelaw21.LoaderApart", spec := "loaderApart", inPlace := ["internal/reflectlite.ValueOf", "(internal/reflectlite.Value).Type", "(internal/reflectlite.Value).IsNil", "internal/reflectlite.TypeOf", "(internal/reflectlite.Value).Elem", "(internal/reflectlite.Value).Set", "internal/bytealg.MakeNoZero"], unfollowed := true, recurses := true, named := ["nacelle/crc.nibbles", "errors.errorType", "nacelle/sha.initial", "nacelle/sha.constants"], apart := false, laid := [("nacelle/sha.initial", laid_nacelle_sha_initial), ("nacelle/sha.constants", laid_nacelle_sha_constants), ("errors.errorType", laid_errors_errorType), ("nacelle/crc.nibbles", laid_nacelle_crc_nibbles)] }
def LoaderApartSaid : Prop := loaderApartRow.holds Tryz.pinned (OpenSpec.ofChange loaderApartSpec)

/-- ITS FALSE NEIGHBOUR: 'it returns false'. Refute it at one input. -/
def loaderApartWrong : ChangeSpec := { name := "loaderApart", fn := fun _ => fun
  | [d] => { results := [.lit (.bool false)], args := [d] }
  | _ => none }
def LoaderApartWrongFalsely : Prop := loaderApartRow.holds Tryz.pinned (OpenSpec.ofChange loaderApartWrong)

/-- 'nacellelaw14.ConfigNumbers': WHATEVER THE INPUT: true; the input reads as it did. -/
def configNumbersSpec : ChangeSpec := { name := "configNumbers", fn := fun _ => fun
  | [] => { results := [.lit (.bool true)], args := [] }
  | _ => none }
def configNumbersRow : OpenClaim := { program := "ytdalmiacjicgpaagreatdoor", sum := "9b6f50e380039d4dca48d4c675fd6aaf266ed7a5a5df5e6844aae272ea5c3e70", func := "nacelle/nacellelaw14.ConfigNumbers", spec := "configNumbers", inPlace := ["internal/reflectlite.ValueOf", "(internal/reflectlite.Value).Type", "(internal/reflectlite.Value).IsNil", "internal/reflectlite.TypeOf", "(internal/reflectlite.Value).Elem", "(internal/reflectlite.Value).Set"], unfollowed := true, recurses := true, named := ["errors.errorType", "nacelle/crc.nibbles"], apart := false, laid := [("errors.errorType", laid_errors_errorType), ("nacelle/crc.nibbles", laid_nacelle_crc_nibbles)] }
def ConfigNumbersSaid : Prop := configNumbersRow.holds Tryz.pinned (OpenSpec.ofChange configNumbersSpec)

/-- ITS FALSE NEIGHBOUR: 'it returns false'. Refute it at one input. -/
def configNumbersWrong : ChangeSpec := { name := "configNumbers", fn := fun _ => fun
  | [] => { results := [.lit (.bool false)], args := [] }
  | _ => none }
def ConfigNumbersWrongFalsely : Prop := configNumbersRow.holds Tryz.pinned (OpenSpec.ofChange configNumbersWrong)

/-- 'nacellelaw21.LoaderSwitches': WHATEVER THE INPUT: true; the input reads as it did. -/
def loaderSwitchesSpec : ChangeSpec := { name := "loaderSwitches", fn := fun _ => fun
  | [d] => { results := [.lit (.bool true)], args := [d] }
  | _ => none }
def loaderSwitchesRow : OpenClaim := { program := "ytdalmiacjicgpaagreatdoor", sum := "9b6f50e380039d4dca48d4c675fd6aaf266ed7a5a5df5e6844aae272ea5c3e70", func := "nacelle/nacellelaw21.LoaderSwitches", spec := "loaderSwitches", inPlace := ["internal/reflectlite.ValueOf", "(internal/reflectlite.Value).Type", "(internal/reflectlite.Value).IsNil", "internal/reflectlite.TypeOf", "(internal/reflectlite.Value).Elem", "(internal/reflectlite.Value).Set", "internal/bytealg.MakeNoZero"], unfollowed := true, recurses := true, named := ["nacelle/crc.nibbles", "errors.errorType", "nacelle/sha.initial", "nacelle/sha.constants"], apart := false, laid := [("nacelle/sha.initial", laid_nacelle_sha_initial), ("nacelle/sha.constants", laid_nacelle_sha_constants), ("errors.errorType", laid_errors_errorType), ("nacelle/crc.nibbles", laid_nacelle_crc_nibbles)] }
def LoaderSwitchesSaid : Prop := loaderSwitchesRow.holds Tryz.pinned (OpenSpec.ofChange loaderSwitchesSpec)

/-- ITS FALSE NEIGHBOUR: 'it returns false'. Refute it at one input. -/
def loaderSwitchesWrong : ChangeSpec := { name := "loaderSwitches", fn := fun _ => fun
  | [d] => { results := [.lit (.bool false)], args := [d] }
  | _ => none }
def LoaderSwitchesWrongFalsely : Prop := loaderSwitchesRow.holds Tryz.pinned (OpenSpec.ofChange loaderSwitchesWrong)

/-- 'nacellelaw21.LoaderNotes': WHATEVER THE INPUT: true; the input reads as it did. -/
def loaderNotesSpec : ChangeSpec := { name := "loaderNotes", fn := fun _ => fun
  | [d] => { results := [.lit (.bool true)], args := [d] }
  | _ => none }
def loaderNotesRow : OpenClaim := { program := "ytdalmiacjicgpaagreatdoor", sum := "9b6f50e380039d4dca48d4c675fd6aaf266ed7a5a5df5e6844aae272ea5c3e70", func := "nacelle/nacellelaw21.LoaderNotes", spec := "loaderNotes", inPlace := ["internal/reflectlite.ValueOf", "(internal/reflectlite.Value).Type", "(internal/reflectlite.Value).IsNil", "internal/reflectlite.TypeOf", "(internal/reflectlite.Value).Elem", "(internal/reflectlite.Value).Set", "internal/bytealg.MakeNoZero"], unfollowed := true, recurses := true, named := ["nacelle/crc.nibbles", "errors.errorType", "nacelle/sha.initial", "nacelle/sha.constants"], apart := false, laid := [("nacelle/sha.initial", laid_nacelle_sha_initial), ("nacelle/sha.constants", laid_nacelle_sha_constants), ("errors.errorType", laid_errors_errorType), ("nacelle/crc.nibbles", laid_nacelle_crc_nibbles)] }
def LoaderNotesSaid : Prop := loaderNotesRow.holds Tryz.pinned (OpenSpec.ofChange loaderNotesSpec)

/-- ITS FALSE NEIGHBOUR: 'it returns false'. Refute it at one input. -/
def loaderNotesWrong : ChangeSpec := { name := "loaderNotes", fn := fun _ => fun
  | [d] => { results := [.lit (.bool false)], args := [d] }
  | _ => none }
def LoaderNotesWrongFalsely : Prop := loaderNotesRow.holds Tryz.pinned (OpenSpec.ofChange loaderNotesWrong)

/-- 'nacellelaw14.ConfigBack': WHATEVER THE INPUT: true; the input reads as it did. -/
def configBackSpec : ChangeSpec := { name := "configBack", fn := fun _ => fun
  | [d1, d2] => { results := [.lit (.bool true)], args := [d1, d2] }
  | _ => none }
def configBackRow : OpenClaim := { program := "ytdalmiacjicgpaagreatdoor", sum := "9b6f50e380039d4dca48d4c675fd6aaf266ed7a5a5df5e6844aae272ea5c3e70", func := "nacelle/nacellelaw14.ConfigBack", spec := "configBack", inPlace := ["internal/reflectlite.ValueOf", "(internal/reflectlite.Value).Type", "(internal/reflectlite.Value).IsNil", "internal/reflectlite.TypeOf", "(internal/reflectlite.Value).Elem", "(internal/reflectlite.Value).Set"], unfollowed := true, recurses := true, named := ["errors.errorType", "nacelle/crc.nibbles"], apart := false, laid := [("errors.errorType", laid_errors_errorType), ("nacelle/crc.nibbles", laid_nacelle_crc_nibbles)] }
def ConfigBackSaid : Prop := configBackRow.holds Tryz.pinned (OpenSpec.ofChange configBackSpec)

/-- ITS FALSE NEIGHBOUR: 'it returns false'. Refute it at one input. -/
def configBackWrong : ChangeSpec := { name := "configBack", fn := fun _ => fun
  | [d1, d2] => { results := [.lit (.bool false)], args := [d1, d2] }
  | _ => none }
def ConfigBackWrongFalsely : Prop := configBackRow.holds Tryz.pinned (OpenSpec.ofChange configBackWrong)

/- THE SECOND FORM. 'bulk': how many values and letters a reading holds, each counted each time it is reached (what is shared counts as often as it is met; a slice's spare places count too). A statement '..UptoSaid' is the law's where the arguments, and the package variables that the reading takes, are together of bulk at most 1048576: NARROWER than '..Said'. Prove '..Said' where nothing that the law and all that it calls make is longer than what came in: it says more and counts as full. Else prove '..UptoSaid'. A law counts once. -/
mutual
def uptoBulk {H : Type} : DataW H → Nat
  | .lit (.string bytes) => bytes.length + 1
  | .lit _ => 1
  | .nil => 1
  | .ptr d => uptoBulk d + 1
  | .slice elems spare => uptoBulkAll elems + uptoBulkAll spare + 1
  | .agg parts => uptoBulkAll parts + 1
  | .iface _ d => uptoBulk d + 1
  | .map entries => uptoBulkEntries entries + 1
  | .held _ => 1
def uptoBulkAll {H : Type} : List (DataW H) → Nat
  | [] => 0
  | d :: r => uptoBulk d + uptoBulkAll r
def uptoBulkEntries {H : Type} : List (Lit × DataW H) → Nat
  | [] => 0
  | x :: r => uptoBulkEntry x + uptoBulkEntries r
def uptoBulkEntry {H : Type} : Lit × DataW H → Nat
  | (.string bytes, d) => bytes.length + uptoBulk d + 1
  | (_, d) => uptoBulk d + 1
 end
def uptoSmall : (H : Type) → List (DataW H) → Bool := fun _ ds => decide (uptoBulkAll ds ≤ 1048576)
def OpenSpec.upto (s : _root_.Go.ChangeSpec) : _root_.Go.OpenSpec := { _root_.Go.OpenSpec.ofChange s with cond := some uptoSmall }

/-- 'nacellelaw21.LoaderRises', WHERE WHAT IT READS IS OF BULK AT MOST 1048576: true; the input reads as it did. -/
def loaderRisesUptoRow : OpenClaim := { program := "ytdalmiacjicgpaagreatdoor", sum := "9b6f50e380039d4dca48d4c675fd6aaf266ed7a5a5df5e6844aae272ea5c3e70", func := "nacelle/nacellelaw21.LoaderRises", spec := "loaderRises", inPlace := ["internal/reflectlite.ValueOf", "(internal/reflectlite.Value).Type", "(internal/reflectlite.Value).IsNil", "internal/reflectlite.TypeOf", "(internal/reflectlite.Value).Elem", "(internal/reflectlite.Value).Set", "internal/bytealg.MakeNoZero"], unfollowed := true, recurses := true, named := ["nacelle/crc.nibbles", "errors.errorType", "nacelle/sha.initial", "nacelle/sha.constants"], apart := false, laid := [("nacelle/sha.initial", laid_nacelle_sha_initial), ("nacelle/sha.constants", laid_nacelle_sha_constants), ("errors.errorType", laid_errors_errorType), ("nacelle/crc.nibbles", laid_nacelle_crc_nibbles)], narrowed := true }
def LoaderRisesUptoSaid : Prop := loaderRisesUptoRow.holds Tryz.pinned (OpenSpec.upto loaderRisesSpec)

/-- 'nacellelaw21.LoaderApart', WHERE WHAT IT READS IS OF BULK AT MOST 1048576: true; the input reads as it did. -/
def loaderApartUptoRow : OpenClaim := { program := "ytdalmiacjicgpaagreatdoor", sum := "9b6f50e380039d4dca48d4c675fd6aaf266ed7a5a5df5e6844aae272ea5c3e70", func := "nacelle/nacellelaw21.LoaderApart", spec := "loaderApart", inPlace := ["internal/reflectlite.ValueOf", "(internal/reflectlite.Value).Type", "(internal/reflectlite.Value).IsNil", "internal/reflectlite.TypeOf", "(internal/reflectlite.Value).Elem", "(internal/reflectlite.Value).Set", "internal/bytealg.MakeNoZero"], unfollowed := true, recurses := true, named := ["nacelle/crc.nibbles", "errors.errorType", "nacelle/sha.initial", "nacelle/sha.constants"], apart := false, laid := [("nacelle/sha.initial", laid_nacelle_sha_initial), ("nacelle/sha.constants", laid_nacelle_sha_constants), ("errors.errorType", laid_errors_errorType), ("nacelle/crc.nibbles", laid_nacelle_crc_nibbles)], narrowed := true }
def LoaderApartUptoSaid : Prop := loaderApartUptoRow.holds Tryz.pinned (OpenSpec.upto loaderApartSpec)

/-- 'nacellelaw14.ConfigNumbers', WHERE WHAT IT READS IS OF BULK AT MOST 1048576: true; the input reads as it did. -/
def configNumbersUptoRow : OpenClaim := { program := "ytdalmiacjicgpaagreatdoor", sum := "9b6f50e380039d4dca48d4c675fd6aaf266ed7a5a5df5e6844aae272ea5c3e70", func := "nacelle/nacellelaw14.ConfigNumbers", spec := "configNumbers", inPlace := ["internal/reflectlite.ValueOf", "(internal/reflectlite.Value).Type", "(internal/reflectlite.Value).IsNil", "internal/reflectlite.TypeOf", "(internal/reflectlite.Value).Elem", "(internal/reflectlite.Value).Set"], unfollowed := true, recurses := true, named := ["errors.errorType", "nacelle/crc.nibbles"], apart := false, laid := [("errors.errorType", laid_errors_errorType), ("nacelle/crc.nibbles", laid_nacelle_crc_nibbles)], narrowed := true }
def ConfigNumbersUptoSaid : Prop := configNumbersUptoRow.holds Tryz.pinned (OpenSpec.upto configNumbersSpec)

/-- 'nacellelaw21.LoaderSwitches', WHERE WHAT IT READS IS OF BULK AT MOST 1048576: true; the input reads as it did. -/
def loaderSwitchesUptoRow : OpenClaim := { program := "ytdalmiacjicgpaagreatdoor", sum := "9b6f50e380039d4dca48d4c675fd6aaf266ed7a5a5df5e6844aae272ea5c3e70", func := "nacelle/nacellelaw21.LoaderSwitches", spec := "loaderSwitches", inPlace := ["internal/reflectlite.ValueOf", "(internal/reflectlite.Value).Type", "(internal/reflectlite.Value).IsNil", "internal/reflectlite.TypeOf", "(internal/reflectlite.Value).Elem", "(internal/reflectlite.Value).Set", "internal/bytealg.MakeNoZero"], unfollowed := true, recurses := true, named := ["nacelle/crc.nibbles", "errors.errorType", "nacelle/sha.initial", "nacelle/sha.constants"], apart := false, laid := [("nacelle/sha.initial", laid_nacelle_sha_initial), ("nacelle/sha.constants", laid_nacelle_sha_constants), ("errors.errorType", laid_errors_errorType), ("nacelle/crc.nibbles", laid_nacelle_crc_nibbles)], narrowed := true }
def LoaderSwitchesUptoSaid : Prop := loaderSwitchesUptoRow.holds Tryz.pinned (OpenSpec.upto loaderSwitchesSpec)

/-- 'nacellelaw21.LoaderNotes', WHERE WHAT IT READS IS OF BULK AT MOST 1048576: true; the input reads as it did. -/
def loaderNotesUptoRow : OpenClaim := { program := "ytdalmiacjicgpaagreatdoor", sum := "9b6f50e380039d4dca48d4c675fd6aaf266ed7a5a5df5e6844aae272ea5c3e70", func := "nacelle/nacellelaw21.LoaderNotes", spec := "loaderNotes", inPlace := ["internal/reflectlite.ValueOf", "(internal/reflectlite.Value).Type", "(internal/reflectlite.Value).IsNil", "internal/reflectlite.TypeOf", "(internal/reflectlite.Value).Elem", "(internal/reflectlite.Value).Set", "internal/bytealg.MakeNoZero"], unfollowed := true, recurses := true, named := ["nacelle/crc.nibbles", "errors.errorType", "nacelle/sha.initial", "nacelle/sha.constants"], apart := false, laid := [("nacelle/sha.initial", laid_nacelle_sha_initial), ("nacelle/sha.constants", laid_nacelle_sha_constants), ("errors.errorType", laid_errors_errorType), ("nacelle/crc.nibbles", laid_nacelle_crc_nibbles)], narrowed := true }
def LoaderNotesUptoSaid : Prop := loaderNotesUptoRow.holds Tryz.pinned (OpenSpec.upto loaderNotesSpec)

/-- 'nacellelaw14.ConfigBack', WHERE WHAT IT READS IS OF BULK AT MOST 1048576: true; the input reads as it did. -/
def configBackUptoRow : OpenClaim := { program := "ytdalmiacjicgpaagreatdoor", sum := "9b6f50e380039d4dca48d4c675fd6aaf266ed7a5a5df5e6844aae272ea5c3e70", func := "nacelle/nacellelaw14.ConfigBack", spec := "configBack", inPlace := ["internal/reflectlite.ValueOf", "(internal/reflectlite.Value).Type", "(internal/reflectlite.Value).IsNil", "internal/reflectlite.TypeOf", "(internal/reflectlite.Value).Elem", "(internal/reflectlite.Value).Set"], unfollowed := true, recurses := true, named := ["errors.errorType", "nacelle/crc.nibbles"], apart := false, laid := [("errors.errorType", laid_errors_errorType), ("nacelle/crc.nibbles", laid_nacelle_crc_nibbles)], narrowed := true }
def ConfigBackUptoSaid : Prop := configBackUptoRow.holds Tryz.pinned (OpenSpec.upto configBackSpec)

end Rows
end Go.Proofs.YtdalmiacjicgpaaGreatDoor
