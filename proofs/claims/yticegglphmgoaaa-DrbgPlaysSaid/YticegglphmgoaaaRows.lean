/-
  No cell of these rows narrows 'for every input' (looked for: loops, veiled, ifaces, maps, wideKeys, modest, calm, conditions, laid).
  DERIVED. THE GIVEN ROWS OF THIS SEAT. 14 by the template 'for every input the law returns true; each argument reads behind the call as it read before'; 0 by the template 'total and deterministic' (their statements: YticegglphmgoaaaTotals.lean).
  GIVEN WITH THE SEED: the statements are not yours to turn. If you find one false, say at which input.
  Laid BY PROGRAM, IN A SANDBOX (cutbox-rows.mjs): the forced cells as the released guide's own fill.sh prints them over the translation eadcaa7b5c83537b… (all of the seat's roots in one cut). By AI agents, Wed Nov 11 2026. No macro, syntax, notation, axiom, sorry.
-/
import Derived.Test.YticegglphmgoaaaChecked
import GoSem.Claim
import GoSem.ClaimJoined
import GoSem.ClaimMapViews
import Derived.JoinedTies
import Derived.KernelRfl
namespace Go.Proofs.Yticegglphmgoaaa
/- THE CELL 'sum', in the pinned program and in every row, IS THE sha256 OF THE DUMP (.gsa) THAT YticegglphmgoaaaProg.lean LOADS. Nothing in Lean hashes anything: it is a label: what it is worth is what the hold of that sum in a sandbox is worth. -/
noncomputable def Try.pinned : Pinned := { name := "yticegglphmgoaaa", sum := "eadcaa7b5c83537b05294cea60cba1c3745660f43ca68ce7edbeb25f57cc97df", checked := Try.checked }
namespace Rows
def none {H : Type} : Left H := { results := [], args := [] }

/-- 'sacristylaw05.ShaSums': WHATEVER THE INPUT: true; the input reads as it did. -/
def shaSumsSpec : ChangeSpec := { name := "shaSums", fn := fun _ => fun
  | [d] => { results := [.lit (.bool true)], args := [d] }
  | _ => none }
def shaSumsRow : OpenClaim := { program := "yticegglphmgoaaa", sum := "eadcaa7b5c83537b05294cea60cba1c3745660f43ca68ce7edbeb25f57cc97df", func := "sacristy/sacristylaw05.ShaSums", spec := "shaSums", apart := false }
def ShaSumsSaid : Prop := shaSumsRow.holds Try.pinned (OpenSpec.ofChange shaSumsSpec)

/-- ITS FALSE NEIGHBOUR: 'it returns false'. Refute it at one input. -/
def shaSumsWrong : ChangeSpec := { name := "shaSums", fn := fun _ => fun
  | [d] => { results := [.lit (.bool false)], args := [d] }
  | _ => none }
def ShaSumsWrongFalsely : Prop := shaSumsRow.holds Try.pinned (OpenSpec.ofChange shaSumsWrong)

/-- 'sacristylaw05.ShaParts': WHATEVER THE INPUT: true; the input reads as it did. -/
def shaPartsSpec : ChangeSpec := { name := "shaParts", fn := fun _ => fun
  | [d] => { results := [.lit (.bool true)], args := [d] }
  | _ => none }
def shaPartsRow : OpenClaim := { program := "yticegglphmgoaaa", sum := "eadcaa7b5c83537b05294cea60cba1c3745660f43ca68ce7edbeb25f57cc97df", func := "sacristy/sacristylaw05.ShaParts", spec := "shaParts", apart := false }
def ShaPartsSaid : Prop := shaPartsRow.holds Try.pinned (OpenSpec.ofChange shaPartsSpec)

/-- ITS FALSE NEIGHBOUR: 'it returns false'. Refute it at one input. -/
def shaPartsWrong : ChangeSpec := { name := "shaParts", fn := fun _ => fun
  | [d] => { results := [.lit (.bool false)], args := [d] }
  | _ => none }
def ShaPartsWrongFalsely : Prop := shaPartsRow.holds Try.pinned (OpenSpec.ofChange shaPartsWrong)

/-- 'sacristylaw05.ShaEdges': WHATEVER THE INPUT: true; the input reads as it did. -/
def shaEdgesSpec : ChangeSpec := { name := "shaEdges", fn := fun _ => fun
  | [d1, d2] => { results := [.lit (.bool true)], args := [d1, d2] }
  | _ => none }
def shaEdgesRow : OpenClaim := { program := "yticegglphmgoaaa", sum := "eadcaa7b5c83537b05294cea60cba1c3745660f43ca68ce7edbeb25f57cc97df", func := "sacristy/sacristylaw05.ShaEdges", spec := "shaEdges", apart := false }
def ShaEdgesSaid : Prop := shaEdgesRow.holds Try.pinned (OpenSpec.ofChange shaEdgesSpec)

/-- ITS FALSE NEIGHBOUR: 'it returns false'. Refute it at one input. -/
def shaEdgesWrong : ChangeSpec := { name := "shaEdges", fn := fun _ => fun
  | [d1, d2] => { results := [.lit (.bool false)], args := [d1, d2] }
  | _ => none }
def ShaEdgesWrongFalsely : Prop := shaEdgesRow.holds Try.pinned (OpenSpec.ofChange shaEdgesWrong)

/-- 'sacristylaw05.ShaHex': WHATEVER THE INPUT: true; the input reads as it did. -/
def shaHexSpec : ChangeSpec := { name := "shaHex", fn := fun _ => fun
  | [d] => { results := [.lit (.bool true)], args := [d] }
  | _ => none }
def shaHexRow : OpenClaim := { program := "yticegglphmgoaaa", sum := "eadcaa7b5c83537b05294cea60cba1c3745660f43ca68ce7edbeb25f57cc97df", func := "sacristy/sacristylaw05.ShaHex", spec := "shaHex", apart := false }
def ShaHexSaid : Prop := shaHexRow.holds Try.pinned (OpenSpec.ofChange shaHexSpec)

/-- ITS FALSE NEIGHBOUR: 'it returns false'. Refute it at one input. -/
def shaHexWrong : ChangeSpec := { name := "shaHex", fn := fun _ => fun
  | [d] => { results := [.lit (.bool false)], args := [d] }
  | _ => none }
def ShaHexWrongFalsely : Prop := shaHexRow.holds Try.pinned (OpenSpec.ofChange shaHexWrong)

/-- 'sacristylaw06.HmacSums': WHATEVER THE INPUT: true; the input reads as it did. -/
def hmacSumsSpec : ChangeSpec := { name := "hmacSums", fn := fun _ => fun
  | [d1, d2] => { results := [.lit (.bool true)], args := [d1, d2] }
  | _ => none }
def hmacSumsRow : OpenClaim := { program := "yticegglphmgoaaa", sum := "eadcaa7b5c83537b05294cea60cba1c3745660f43ca68ce7edbeb25f57cc97df", func := "sacristy/sacristylaw06.HmacSums", spec := "hmacSums", unfollowed := true, recurses := true, apart := false }
def HmacSumsSaid : Prop := hmacSumsRow.holds Try.pinned (OpenSpec.ofChange hmacSumsSpec)

/-- ITS FALSE NEIGHBOUR: 'it returns false'. Refute it at one input. -/
def hmacSumsWrong : ChangeSpec := { name := "hmacSums", fn := fun _ => fun
  | [d1, d2] => { results := [.lit (.bool false)], args := [d1, d2] }
  | _ => none }
def HmacSumsWrongFalsely : Prop := hmacSumsRow.holds Try.pinned (OpenSpec.ofChange hmacSumsWrong)

/-- 'sacristylaw06.HmacKeys': WHATEVER THE INPUT: true; the input reads as it did. -/
def hmacKeysSpec : ChangeSpec := { name := "hmacKeys", fn := fun _ => fun
  | [d1, d2, d3] => { results := [.lit (.bool true)], args := [d1, d2, d3] }
  | _ => none }
def hmacKeysRow : OpenClaim := { program := "yticegglphmgoaaa", sum := "eadcaa7b5c83537b05294cea60cba1c3745660f43ca68ce7edbeb25f57cc97df", func := "sacristy/sacristylaw06.HmacKeys", spec := "hmacKeys", unfollowed := true, recurses := true, apart := false }
def HmacKeysSaid : Prop := hmacKeysRow.holds Try.pinned (OpenSpec.ofChange hmacKeysSpec)

/-- ITS FALSE NEIGHBOUR: 'it returns false'. Refute it at one input. -/
def hmacKeysWrong : ChangeSpec := { name := "hmacKeys", fn := fun _ => fun
  | [d1, d2, d3] => { results := [.lit (.bool false)], args := [d1, d2, d3] }
  | _ => none }
def HmacKeysWrongFalsely : Prop := hmacKeysRow.holds Try.pinned (OpenSpec.ofChange hmacKeysWrong)

/-- 'sacristylaw06.HmacSame': WHATEVER THE INPUT: true; the input reads as it did. -/
def hmacSameSpec : ChangeSpec := { name := "hmacSame", fn := fun _ => fun
  | [d1, d2] => { results := [.lit (.bool true)], args := [d1, d2] }
  | _ => none }
def hmacSameRow : OpenClaim := { program := "yticegglphmgoaaa", sum := "eadcaa7b5c83537b05294cea60cba1c3745660f43ca68ce7edbeb25f57cc97df", func := "sacristy/sacristylaw06.HmacSame", spec := "hmacSame", unfollowed := true, recurses := true, apart := false }
def HmacSameSaid : Prop := hmacSameRow.holds Try.pinned (OpenSpec.ofChange hmacSameSpec)

/-- ITS FALSE NEIGHBOUR: 'it returns false'. Refute it at one input. -/
def hmacSameWrong : ChangeSpec := { name := "hmacSame", fn := fun _ => fun
  | [d1, d2] => { results := [.lit (.bool false)], args := [d1, d2] }
  | _ => none }
def HmacSameWrongFalsely : Prop := hmacSameRow.holds Try.pinned (OpenSpec.ofChange hmacSameWrong)

/-- 'sacristylaw19.FrameSeals': WHATEVER THE INPUT: true; the input reads as it did. -/
def frameSealsSpec : ChangeSpec := { name := "frameSeals", fn := fun _ => fun
  | [d1, d2, d3] => { results := [.lit (.bool true)], args := [d1, d2, d3] }
  | _ => none }
def frameSealsRow : OpenClaim := { program := "yticegglphmgoaaa", sum := "eadcaa7b5c83537b05294cea60cba1c3745660f43ca68ce7edbeb25f57cc97df", func := "sacristy/sacristylaw19.FrameSeals", spec := "frameSeals", unfollowed := true, recurses := true, apart := false }
def FrameSealsSaid : Prop := frameSealsRow.holds Try.pinned (OpenSpec.ofChange frameSealsSpec)

/-- ITS FALSE NEIGHBOUR: 'it returns false'. Refute it at one input. -/
def frameSealsWrong : ChangeSpec := { name := "frameSeals", fn := fun _ => fun
  | [d1, d2, d3] => { results := [.lit (.bool false)], args := [d1, d2, d3] }
  | _ => none }
def FrameSealsWrongFalsely : Prop := frameSealsRow.holds Try.pinned (OpenSpec.ofChange frameSealsWrong)

/-- 'sacristylaw19.FrameOpens': WHATEVER THE INPUT: true; the input reads as it did. -/
def frameOpensSpec : ChangeSpec := { name := "frameOpens", fn := fun _ => fun
  | [d1, d2] => { results := [.lit (.bool true)], args := [d1, d2] }
  | _ => none }
def frameOpensRow : OpenClaim := { program := "yticegglphmgoaaa", sum := "eadcaa7b5c83537b05294cea60cba1c3745660f43ca68ce7edbeb25f57cc97df", func := "sacristy/sacristylaw19.FrameOpens", spec := "frameOpens", unfollowed := true, recurses := true, apart := false }
def FrameOpensSaid : Prop := frameOpensRow.holds Try.pinned (OpenSpec.ofChange frameOpensSpec)

/-- ITS FALSE NEIGHBOUR: 'it returns false'. Refute it at one input. -/
def frameOpensWrong : ChangeSpec := { name := "frameOpens", fn := fun _ => fun
  | [d1, d2] => { results := [.lit (.bool false)], args := [d1, d2] }
  | _ => none }
def FrameOpensWrongFalsely : Prop := frameOpensRow.holds Try.pinned (OpenSpec.ofChange frameOpensWrong)

/-- 'sacristylaw19.FrameBytes': WHATEVER THE INPUT: true; the input reads as it did. -/
def frameBytesSpec : ChangeSpec := { name := "frameBytes", fn := fun _ => fun
  | [d1, d2] => { results := [.lit (.bool true)], args := [d1, d2] }
  | _ => none }
def frameBytesRow : OpenClaim := { program := "yticegglphmgoaaa", sum := "eadcaa7b5c83537b05294cea60cba1c3745660f43ca68ce7edbeb25f57cc97df", func := "sacristy/sacristylaw19.FrameBytes", spec := "frameBytes", unfollowed := true, recurses := true, apart := false }
def FrameBytesSaid : Prop := frameBytesRow.holds Try.pinned (OpenSpec.ofChange frameBytesSpec)

/-- ITS FALSE NEIGHBOUR: 'it returns false'. Refute it at one input. -/
def frameBytesWrong : ChangeSpec := { name := "frameBytes", fn := fun _ => fun
  | [d1, d2] => { results := [.lit (.bool false)], args := [d1, d2] }
  | _ => none }
def FrameBytesWrongFalsely : Prop := frameBytesRow.holds Try.pinned (OpenSpec.ofChange frameBytesWrong)

/-- 'sacristylaw19.FrameLong': WHATEVER THE INPUT: true; the input reads as it did. -/
def frameLongSpec : ChangeSpec := { name := "frameLong", fn := fun _ => fun
  | [d] => { results := [.lit (.bool true)], args := [d] }
  | _ => none }
def frameLongRow : OpenClaim := { program := "yticegglphmgoaaa", sum := "eadcaa7b5c83537b05294cea60cba1c3745660f43ca68ce7edbeb25f57cc97df", func := "sacristy/sacristylaw19.FrameLong", spec := "frameLong", unfollowed := true, recurses := true, apart := false }
def FrameLongSaid : Prop := frameLongRow.holds Try.pinned (OpenSpec.ofChange frameLongSpec)

/-- ITS FALSE NEIGHBOUR: 'it returns false'. Refute it at one input. -/
def frameLongWrong : ChangeSpec := { name := "frameLong", fn := fun _ => fun
  | [d] => { results := [.lit (.bool false)], args := [d] }
  | _ => none }
def FrameLongWrongFalsely : Prop := frameLongRow.holds Try.pinned (OpenSpec.ofChange frameLongWrong)

/-- 'sacristylaw34.DrbgSame': WHATEVER THE INPUT: true; the input reads as it did. -/
def drbgSameSpec : ChangeSpec := { name := "drbgSame", fn := fun _ => fun
  | [d1, d2, d3] => { results := [.lit (.bool true)], args := [d1, d2, d3] }
  | _ => none }
def drbgSameRow : OpenClaim := { program := "yticegglphmgoaaa", sum := "eadcaa7b5c83537b05294cea60cba1c3745660f43ca68ce7edbeb25f57cc97df", func := "sacristy/sacristylaw34.DrbgSame", spec := "drbgSame", inPlace := ["internal/abi.NoEscape", "internal/bytealg.MakeNoZero"], unfollowed := true, recurses := true, apart := false }
def DrbgSameSaid : Prop := drbgSameRow.holds Try.pinned (OpenSpec.ofChange drbgSameSpec)

/-- ITS FALSE NEIGHBOUR: 'it returns false'. Refute it at one input. -/
def drbgSameWrong : ChangeSpec := { name := "drbgSame", fn := fun _ => fun
  | [d1, d2, d3] => { results := [.lit (.bool false)], args := [d1, d2, d3] }
  | _ => none }
def DrbgSameWrongFalsely : Prop := drbgSameRow.holds Try.pinned (OpenSpec.ofChange drbgSameWrong)

/-- 'sacristylaw34.DrbgPlays': WHATEVER THE INPUT: true; the input reads as it did. -/
def drbgPlaysSpec : ChangeSpec := { name := "drbgPlays", fn := fun _ => fun
  | [d1, d2] => { results := [.lit (.bool true)], args := [d1, d2] }
  | _ => none }
def drbgPlaysRow : OpenClaim := { program := "yticegglphmgoaaa", sum := "eadcaa7b5c83537b05294cea60cba1c3745660f43ca68ce7edbeb25f57cc97df", func := "sacristy/sacristylaw34.DrbgPlays", spec := "drbgPlays", inPlace := ["internal/abi.NoEscape", "internal/bytealg.MakeNoZero"], unfollowed := true, recurses := true, apart := false }
def DrbgPlaysSaid : Prop := drbgPlaysRow.holds Try.pinned (OpenSpec.ofChange drbgPlaysSpec)

/-- ITS FALSE NEIGHBOUR: 'it returns false'. Refute it at one input. -/
def drbgPlaysWrong : ChangeSpec := { name := "drbgPlays", fn := fun _ => fun
  | [d1, d2] => { results := [.lit (.bool false)], args := [d1, d2] }
  | _ => none }
def DrbgPlaysWrongFalsely : Prop := drbgPlaysRow.holds Try.pinned (OpenSpec.ofChange drbgPlaysWrong)

/-- 'sacristylaw34.DrbgEnds': WHATEVER THE INPUT: true; the input reads as it did. -/
def drbgEndsSpec : ChangeSpec := { name := "drbgEnds", fn := fun _ => fun
  | [d] => { results := [.lit (.bool true)], args := [d] }
  | _ => none }
def drbgEndsRow : OpenClaim := { program := "yticegglphmgoaaa", sum := "eadcaa7b5c83537b05294cea60cba1c3745660f43ca68ce7edbeb25f57cc97df", func := "sacristy/sacristylaw34.DrbgEnds", spec := "drbgEnds", inPlace := ["internal/abi.NoEscape", "internal/bytealg.MakeNoZero"], unfollowed := true, recurses := true, apart := false }
def DrbgEndsSaid : Prop := drbgEndsRow.holds Try.pinned (OpenSpec.ofChange drbgEndsSpec)

/-- ITS FALSE NEIGHBOUR: 'it returns false'. Refute it at one input. -/
def drbgEndsWrong : ChangeSpec := { name := "drbgEnds", fn := fun _ => fun
  | [d] => { results := [.lit (.bool false)], args := [d] }
  | _ => none }
def DrbgEndsWrongFalsely : Prop := drbgEndsRow.holds Try.pinned (OpenSpec.ofChange drbgEndsWrong)

/- THE SECOND FORM. 'bulk': how many values and letters a reading holds, each counted each time it is reached (what is shared counts as often as it is met; a slice's spare places count too). A statement '..UptoSaid' is the law's where the arguments, and the package variables that the reading takes, are together of bulk at most 1048576: NARROWER than '..Said'. Prove '..Said' where nothing that the law and all that it calls make is longer than what came in: it says more and counts as full. Else prove '..UptoSaid'. A law counts once. -/
mutual
def uptoBulk {H : Type} : DataW H → Nat
  | .lit (.string bytes) => bytes.length + 1
  | .lit _ => 1
  | .nil => 1
  | .ptr d => uptoBulk d + 1
  | .slice elems spare => uptoBulkAll elems + uptoBulkAll spare + 1
  | .agg parts => uptoBulkAll parts + 1
  | .iface _ d => uptoBulk d + 1
  | .map entries => uptoBulkEntries entries + 1
  | .held _ => 1
def uptoBulkAll {H : Type} : List (DataW H) → Nat
  | [] => 0
  | d :: r => uptoBulk d + uptoBulkAll r
def uptoBulkEntries {H : Type} : List (Lit × DataW H) → Nat
  | [] => 0
  | x :: r => uptoBulkEntry x + uptoBulkEntries r
def uptoBulkEntry {H : Type} : Lit × DataW H → Nat
  | (.string bytes, d) => bytes.length + uptoBulk d + 1
  | (_, d) => uptoBulk d + 1
 end
def uptoSmall : (H : Type) → List (DataW H) → Bool := fun _ ds => decide (uptoBulkAll ds ≤ 1048576)
def OpenSpec.upto (s : _root_.Go.ChangeSpec) : _root_.Go.OpenSpec := { _root_.Go.OpenSpec.ofChange s with cond := some uptoSmall }

/-- 'sacristylaw05.ShaSums', WHERE WHAT IT READS IS OF BULK AT MOST 1048576: true; the input reads as it did. -/
def shaSumsUptoRow : OpenClaim := { program := "yticegglphmgoaaa", sum := "eadcaa7b5c83537b05294cea60cba1c3745660f43ca68ce7edbeb25f57cc97df", func := "sacristy/sacristylaw05.ShaSums", spec := "shaSums", apart := false, narrowed := true }
def ShaSumsUptoSaid : Prop := shaSumsUptoRow.holds Try.pinned (OpenSpec.upto shaSumsSpec)

/-- 'sacristylaw05.ShaParts', WHERE WHAT IT READS IS OF BULK AT MOST 1048576: true; the input reads as it did. -/
def shaPartsUptoRow : OpenClaim := { program := "yticegglphmgoaaa", sum := "eadcaa7b5c83537b05294cea60cba1c3745660f43ca68ce7edbeb25f57cc97df", func := "sacristy/sacristylaw05.ShaParts", spec := "shaParts", apart := false, narrowed := true }
def ShaPartsUptoSaid : Prop := shaPartsUptoRow.holds Try.pinned (OpenSpec.upto shaPartsSpec)

/-- 'sacristylaw05.ShaEdges', WHERE WHAT IT READS IS OF BULK AT MOST 1048576: true; the input reads as it did. -/
def shaEdgesUptoRow : OpenClaim := { program := "yticegglphmgoaaa", sum := "eadcaa7b5c83537b05294cea60cba1c3745660f43ca68ce7edbeb25f57cc97df", func := "sacristy/sacristylaw05.ShaEdges", spec := "shaEdges", apart := false, narrowed := true }
def ShaEdgesUptoSaid : Prop := shaEdgesUptoRow.holds Try.pinned (OpenSpec.upto shaEdgesSpec)

/-- 'sacristylaw05.ShaHex', WHERE WHAT IT READS IS OF BULK AT MOST 1048576: true; the input reads as it did. -/
def shaHexUptoRow : OpenClaim := { program := "yticegglphmgoaaa", sum := "eadcaa7b5c83537b05294cea60cba1c3745660f43ca68ce7edbeb25f57cc97df", func := "sacristy/sacristylaw05.ShaHex", spec := "shaHex", apart := false, narrowed := true }
def ShaHexUptoSaid : Prop := shaHexUptoRow.holds Try.pinned (OpenSpec.upto shaHexSpec)

/-- 'sacristylaw06.HmacSums', WHERE WHAT IT READS IS OF BULK AT MOST 1048576: true; the input reads as it did. -/
def hmacSumsUptoRow : OpenClaim := { program := "yticegglphmgoaaa", sum := "eadcaa7b5c83537b05294cea60cba1c3745660f43ca68ce7edbeb25f57cc97df", func := "sacristy/sacristylaw06.HmacSums", spec := "hmacSums", unfollowed := true, recurses := true, apart := false, narrowed := true }
def HmacSumsUptoSaid : Prop := hmacSumsUptoRow.holds Try.pinned (OpenSpec.upto hmacSumsSpec)

/-- 'sacristylaw06.HmacKeys', WHERE WHAT IT READS IS OF BULK AT MOST 1048576: true; the input reads as it did. -/
def hmacKeysUptoRow : OpenClaim := { program := "yticegglphmgoaaa", sum := "eadcaa7b5c83537b05294cea60cba1c3745660f43ca68ce7edbeb25f57cc97df", func := "sacristy/sacristylaw06.HmacKeys", spec := "hmacKeys", unfollowed := true, recurses := true, apart := false, narrowed := true }
def HmacKeysUptoSaid : Prop := hmacKeysUptoRow.holds Try.pinned (OpenSpec.upto hmacKeysSpec)

/-- 'sacristylaw06.HmacSame', WHERE WHAT IT READS IS OF BULK AT MOST 1048576: true; the input reads as it did. -/
def hmacSameUptoRow : OpenClaim := { program := "yticegglphmgoaaa", sum := "eadcaa7b5c83537b05294cea60cba1c3745660f43ca68ce7edbeb25f57cc97df", func := "sacristy/sacristylaw06.HmacSame", spec := "hmacSame", unfollowed := true, recurses := true, apart := false, narrowed := true }
def HmacSameUptoSaid : Prop := hmacSameUptoRow.holds Try.pinned (OpenSpec.upto hmacSameSpec)

/-- 'sacristylaw19.FrameSeals', WHERE WHAT IT READS IS OF BULK AT MOST 1048576: true; the input reads as it did. -/
def frameSealsUptoRow : OpenClaim := { program := "yticegglphmgoaaa", sum := "eadcaa7b5c83537b05294cea60cba1c3745660f43ca68ce7edbeb25f57cc97df", func := "sacristy/sacristylaw19.FrameSeals", spec := "frameSeals", unfollowed := true, recurses := true, apart := false, narrowed := true }
def FrameSealsUptoSaid : Prop := frameSealsUptoRow.holds Try.pinned (OpenSpec.upto frameSealsSpec)

/-- 'sacristylaw19.FrameOpens', WHERE WHAT IT READS IS OF BULK AT MOST 1048576: true; the input reads as it did. -/
def frameOpensUptoRow : OpenClaim := { program := "yticegglphmgoaaa", sum := "eadcaa7b5c83537b05294cea60cba1c3745660f43ca68ce7edbeb25f57cc97df", func := "sacristy/sacristylaw19.FrameOpens", spec := "frameOpens", unfollowed := true, recurses := true, apart := false, narrowed := true }
def FrameOpensUptoSaid : Prop := frameOpensUptoRow.holds Try.pinned (OpenSpec.upto frameOpensSpec)

/-- 'sacristylaw19.FrameBytes', WHERE WHAT IT READS IS OF BULK AT MOST 1048576: true; the input reads as it did. -/
def frameBytesUptoRow : OpenClaim := { program := "yticegglphmgoaaa", sum := "eadcaa7b5c83537b05294cea60cba1c3745660f43ca68ce7edbeb25f57cc97df", func := "sacristy/sacristylaw19.FrameBytes", spec := "frameBytes", unfollowed := true, recurses := true, apart := false, narrowed := true }
def FrameBytesUptoSaid : Prop := frameBytesUptoRow.holds Try.pinned (OpenSpec.upto frameBytesSpec)

/-- 'sacristylaw19.FrameLong', WHERE WHAT IT READS IS OF BULK AT MOST 1048576: true; the input reads as it did. -/
def frameLongUptoRow : OpenClaim := { program := "yticegglphmgoaaa", sum := "eadcaa7b5c83537b05294cea60cba1c3745660f43ca68ce7edbeb25f57cc97df", func := "sacristy/sacristylaw19.FrameLong", spec := "frameLong", unfollowed := true, recurses := true, apart := false, narrowed := true }
def FrameLongUptoSaid : Prop := frameLongUptoRow.holds Try.pinned (OpenSpec.upto frameLongSpec)

/-- 'sacristylaw34.DrbgSame', WHERE WHAT IT READS IS OF BULK AT MOST 1048576: true; the input reads as it did. -/
def drbgSameUptoRow : OpenClaim := { program := "yticegglphmgoaaa", sum := "eadcaa7b5c83537b05294cea60cba1c3745660f43ca68ce7edbeb25f57cc97df", func := "sacristy/sacristylaw34.DrbgSame", spec := "drbgSame", inPlace := ["internal/abi.NoEscape", "internal/bytealg.MakeNoZero"], unfollowed := true, recurses := true, apart := false, narrowed := true }
def DrbgSameUptoSaid : Prop := drbgSameUptoRow.holds Try.pinned (OpenSpec.upto drbgSameSpec)

/-- 'sacristylaw34.DrbgPlays', WHERE WHAT IT READS IS OF BULK AT MOST 1048576: true; the input reads as it did. -/
def drbgPlaysUptoRow : OpenClaim := { program := "yticegglphmgoaaa", sum := "eadcaa7b5c83537b05294cea60cba1c3745660f43ca68ce7edbeb25f57cc97df", func := "sacristy/sacristylaw34.DrbgPlays", spec := "drbgPlays", inPlace := ["internal/abi.NoEscape", "internal/bytealg.MakeNoZero"], unfollowed := true, recurses := true, apart := false, narrowed := true }
def DrbgPlaysUptoSaid : Prop := drbgPlaysUptoRow.holds Try.pinned (OpenSpec.upto drbgPlaysSpec)

/-- 'sacristylaw34.DrbgEnds', WHERE WHAT IT READS IS OF BULK AT MOST 1048576: true; the input reads as it did. -/
def drbgEndsUptoRow : OpenClaim := { program := "yticegglphmgoaaa", sum := "eadcaa7b5c83537b05294cea60cba1c3745660f43ca68ce7edbeb25f57cc97df", func := "sacristy/sacristylaw34.DrbgEnds", spec := "drbgEnds", inPlace := ["internal/abi.NoEscape", "internal/bytealg.MakeNoZero"], unfollowed := true, recurses := true, apart := false, narrowed := true }
def DrbgEndsUptoSaid : Prop := drbgEndsUptoRow.holds Try.pinned (OpenSpec.upto drbgEndsSpec)

end Rows
end Go.Proofs.Yticegglphmgoaaa
