/-
  No cell of these rows narrows 'for every input' (looked for: loops, veiled, ifaces, maps, wideKeys, modest, calm, conditions, laid).
  DERIVED. THE GIVEN ROWS OF THIS SEAT. 17 by the template 'for every input the law returns true; each argument reads behind the call as it read before'; 0 by the template 'total and deterministic' (their statements: YteahdaddbmhfgaaTotals.lean).
  GIVEN WITH THE SEED: the statements are not yours to turn. If you find one false, say at which input.
  Laid BY PROGRAM, IN A SANDBOX (cutbox-rows.mjs): the forced cells as the released guide's own fill.sh prints them over the translation 9149a28a4f6836d2… (all of the seat's roots in one cut). By AI agents, Wed Nov 11 2026. No macro, syntax, notation, axiom, sorry.
-/
import Derived.Test.YteahdaddbmhfgaaChecked
import GoSem.Claim
import GoSem.ClaimJoined
import GoSem.ClaimMapViews
import Derived.JoinedTies
import Derived.KernelRfl
namespace Go.Proofs.Yteahdaddbmhfgaa
/- THE CELL 'sum', in the pinned program and in every row, IS THE sha256 OF THE DUMP (.gsa) THAT YteahdaddbmhfgaaProg.lean LOADS. Nothing in Lean hashes anything: it is a label: what it is worth is what the hold of that sum in a sandbox is worth. -/
noncomputable def Try.pinned : Pinned := { name := "yteahdaddbmhfgaa", sum := "9149a28a4f6836d21dc9f7519683f1ee91d8852808327e58cc2067daa4007199", checked := Try.checked }
namespace Rows
def none {H : Type} : Left H := { results := [], args := [] }

/-- 'ostiarylaw09.EdnsPuts': WHATEVER THE INPUT: true; the input reads as it did. -/
def ednsPutsSpec : ChangeSpec := { name := "ednsPuts", fn := fun _ => fun
  | [d1, d2] => { results := [.lit (.bool true)], args := [d1, d2] }
  | _ => none }
def ednsPutsRow : OpenClaim := { program := "yteahdaddbmhfgaa", sum := "9149a28a4f6836d21dc9f7519683f1ee91d8852808327e58cc2067daa4007199", func := "ostiary/ostiarylaw09.EdnsPuts", spec := "ednsPuts", unfollowed := true, recurses := true, apart := false }
def EdnsPutsSaid : Prop := ednsPutsRow.holds Try.pinned (OpenSpec.ofChange ednsPutsSpec)

/-- ITS FALSE NEIGHBOUR: 'it returns false'. Refute it at one input. -/
def ednsPutsWrong : ChangeSpec := { name := "ednsPuts", fn := fun _ => fun
  | [d1, d2] => { results := [.lit (.bool false)], args := [d1, d2] }
  | _ => none }
def EdnsPutsWrongFalsely : Prop := ednsPutsRow.holds Try.pinned (OpenSpec.ofChange ednsPutsWrong)

/-- 'ostiarylaw09.EdnsTells': WHATEVER THE INPUT: true; the input reads as it did. -/
def ednsTellsSpec : ChangeSpec := { name := "ednsTells", fn := fun _ => fun
  | [d] => { results := [.lit (.bool true)], args := [d] }
  | _ => none }
def ednsTellsRow : OpenClaim := { program := "yteahdaddbmhfgaa", sum := "9149a28a4f6836d21dc9f7519683f1ee91d8852808327e58cc2067daa4007199", func := "ostiary/ostiarylaw09.EdnsTells", spec := "ednsTells", unfollowed := true, recurses := true, apart := false }
def EdnsTellsSaid : Prop := ednsTellsRow.holds Try.pinned (OpenSpec.ofChange ednsTellsSpec)

/-- ITS FALSE NEIGHBOUR: 'it returns false'. Refute it at one input. -/
def ednsTellsWrong : ChangeSpec := { name := "ednsTells", fn := fun _ => fun
  | [d] => { results := [.lit (.bool false)], args := [d] }
  | _ => none }
def EdnsTellsWrongFalsely : Prop := ednsTellsRow.holds Try.pinned (OpenSpec.ofChange ednsTellsWrong)

/-- 'ostiarylaw09.EdnsStrips': WHATEVER THE INPUT: true; the input reads as it did. -/
def ednsStripsSpec : ChangeSpec := { name := "ednsStrips", fn := fun _ => fun
  | [d] => { results := [.lit (.bool true)], args := [d] }
  | _ => none }
def ednsStripsRow : OpenClaim := { program := "yteahdaddbmhfgaa", sum := "9149a28a4f6836d21dc9f7519683f1ee91d8852808327e58cc2067daa4007199", func := "ostiary/ostiarylaw09.EdnsStrips", spec := "ednsStrips", unfollowed := true, recurses := true, apart := false }
def EdnsStripsSaid : Prop := ednsStripsRow.holds Try.pinned (OpenSpec.ofChange ednsStripsSpec)

/-- ITS FALSE NEIGHBOUR: 'it returns false'. Refute it at one input. -/
def ednsStripsWrong : ChangeSpec := { name := "ednsStrips", fn := fun _ => fun
  | [d] => { results := [.lit (.bool false)], args := [d] }
  | _ => none }
def EdnsStripsWrongFalsely : Prop := ednsStripsRow.holds Try.pinned (OpenSpec.ofChange ednsStripsWrong)

/-- 'ostiarylaw09.EdnsKnown': WHATEVER THE INPUT: true; the input reads as it did. -/
def ednsKnownSpec : ChangeSpec := { name := "ednsKnown", fn := fun _ => fun
  | [] => { results := [.lit (.bool true)], args := [] }
  | _ => none }
def ednsKnownRow : OpenClaim := { program := "yteahdaddbmhfgaa", sum := "9149a28a4f6836d21dc9f7519683f1ee91d8852808327e58cc2067daa4007199", func := "ostiary/ostiarylaw09.EdnsKnown", spec := "ednsKnown", unfollowed := true, recurses := true, apart := false }
def EdnsKnownSaid : Prop := ednsKnownRow.holds Try.pinned (OpenSpec.ofChange ednsKnownSpec)

/-- ITS FALSE NEIGHBOUR: 'it returns false'. Refute it at one input. -/
def ednsKnownWrong : ChangeSpec := { name := "ednsKnown", fn := fun _ => fun
  | [] => { results := [.lit (.bool false)], args := [] }
  | _ => none }
def EdnsKnownWrongFalsely : Prop := ednsKnownRow.holds Try.pinned (OpenSpec.ofChange ednsKnownWrong)

/-- 'ostiarylaw10.TrimFits': WHATEVER THE INPUT: true; the input reads as it did. -/
def trimFitsSpec : ChangeSpec := { name := "trimFits", fn := fun _ => fun
  | [d1, d2] => { results := [.lit (.bool true)], args := [d1, d2] }
  | _ => none }
def trimFitsRow : OpenClaim := { program := "yteahdaddbmhfgaa", sum := "9149a28a4f6836d21dc9f7519683f1ee91d8852808327e58cc2067daa4007199", func := "ostiary/ostiarylaw10.TrimFits", spec := "trimFits", unfollowed := true, recurses := true, apart := false }
def TrimFitsSaid : Prop := trimFitsRow.holds Try.pinned (OpenSpec.ofChange trimFitsSpec)

/-- ITS FALSE NEIGHBOUR: 'it returns false'. Refute it at one input. -/
def trimFitsWrong : ChangeSpec := { name := "trimFits", fn := fun _ => fun
  | [d1, d2] => { results := [.lit (.bool false)], args := [d1, d2] }
  | _ => none }
def TrimFitsWrongFalsely : Prop := trimFitsRow.holds Try.pinned (OpenSpec.ofChange trimFitsWrong)

/-- 'ostiarylaw10.TrimLeast': WHATEVER THE INPUT: true; the input reads as it did. -/
def trimLeastSpec : ChangeSpec := { name := "trimLeast", fn := fun _ => fun
  | [d] => { results := [.lit (.bool true)], args := [d] }
  | _ => none }
def trimLeastRow : OpenClaim := { program := "yteahdaddbmhfgaa", sum := "9149a28a4f6836d21dc9f7519683f1ee91d8852808327e58cc2067daa4007199", func := "ostiary/ostiarylaw10.TrimLeast", spec := "trimLeast", unfollowed := true, recurses := true, apart := false }
def TrimLeastSaid : Prop := trimLeastRow.holds Try.pinned (OpenSpec.ofChange trimLeastSpec)

/-- ITS FALSE NEIGHBOUR: 'it returns false'. Refute it at one input. -/
def trimLeastWrong : ChangeSpec := { name := "trimLeast", fn := fun _ => fun
  | [d] => { results := [.lit (.bool false)], args := [d] }
  | _ => none }
def TrimLeastWrongFalsely : Prop := trimLeastRow.holds Try.pinned (OpenSpec.ofChange trimLeastWrong)

/-- 'ostiarylaw08.MsgWrites': WHATEVER THE INPUT: true; the input reads as it did. -/
def msgWritesSpec : ChangeSpec := { name := "msgWrites", fn := fun _ => fun
  | [d] => { results := [.lit (.bool true)], args := [d] }
  | _ => none }
def msgWritesRow : OpenClaim := { program := "yteahdaddbmhfgaa", sum := "9149a28a4f6836d21dc9f7519683f1ee91d8852808327e58cc2067daa4007199", func := "ostiary/ostiarylaw08.MsgWrites", spec := "msgWrites", unfollowed := true, recurses := true, apart := false }
def MsgWritesSaid : Prop := msgWritesRow.holds Try.pinned (OpenSpec.ofChange msgWritesSpec)

/-- ITS FALSE NEIGHBOUR: 'it returns false'. Refute it at one input. -/
def msgWritesWrong : ChangeSpec := { name := "msgWrites", fn := fun _ => fun
  | [d] => { results := [.lit (.bool false)], args := [d] }
  | _ => none }
def MsgWritesWrongFalsely : Prop := msgWritesRow.holds Try.pinned (OpenSpec.ofChange msgWritesWrong)

/-- 'ostiarylaw08.MsgFlags': WHATEVER THE INPUT: true; the input reads as it did. -/
def msgFlagsSpec : ChangeSpec := { name := "msgFlags", fn := fun _ => fun
  | [d1, d2] => { results := [.lit (.bool true)], args := [d1, d2] }
  | _ => none }
def msgFlagsRow : OpenClaim := { program := "yteahdaddbmhfgaa", sum := "9149a28a4f6836d21dc9f7519683f1ee91d8852808327e58cc2067daa4007199", func := "ostiary/ostiarylaw08.MsgFlags", spec := "msgFlags", unfollowed := true, recurses := true, apart := false }
def MsgFlagsSaid : Prop := msgFlagsRow.holds Try.pinned (OpenSpec.ofChange msgFlagsSpec)

/-- ITS FALSE NEIGHBOUR: 'it returns false'. Refute it at one input. -/
def msgFlagsWrong : ChangeSpec := { name := "msgFlags", fn := fun _ => fun
  | [d1, d2] => { results := [.lit (.bool false)], args := [d1, d2] }
  | _ => none }
def MsgFlagsWrongFalsely : Prop := msgFlagsRow.holds Try.pinned (OpenSpec.ofChange msgFlagsWrong)

/-- 'ostiarylaw08.MsgReplies': WHATEVER THE INPUT: true; the input reads as it did. -/
def msgRepliesSpec : ChangeSpec := { name := "msgReplies", fn := fun _ => fun
  | [d1, d2, d3] => { results := [.lit (.bool true)], args := [d1, d2, d3] }
  | _ => none }
def msgRepliesRow : OpenClaim := { program := "yteahdaddbmhfgaa", sum := "9149a28a4f6836d21dc9f7519683f1ee91d8852808327e58cc2067daa4007199", func := "ostiary/ostiarylaw08.MsgReplies", spec := "msgReplies", unfollowed := true, recurses := true, apart := false }
def MsgRepliesSaid : Prop := msgRepliesRow.holds Try.pinned (OpenSpec.ofChange msgRepliesSpec)

/-- ITS FALSE NEIGHBOUR: 'it returns false'. Refute it at one input. -/
def msgRepliesWrong : ChangeSpec := { name := "msgReplies", fn := fun _ => fun
  | [d1, d2, d3] => { results := [.lit (.bool false)], args := [d1, d2, d3] }
  | _ => none }
def MsgRepliesWrongFalsely : Prop := msgRepliesRow.holds Try.pinned (OpenSpec.ofChange msgRepliesWrong)

/-- 'ostiarylaw08.MsgReply': WHATEVER THE INPUT: true; the input reads as it did. -/
def msgReplySpec : ChangeSpec := { name := "msgReply", fn := fun _ => fun
  | [d1, d2] => { results := [.lit (.bool true)], args := [d1, d2] }
  | _ => none }
def msgReplyRow : OpenClaim := { program := "yteahdaddbmhfgaa", sum := "9149a28a4f6836d21dc9f7519683f1ee91d8852808327e58cc2067daa4007199", func := "ostiary/ostiarylaw08.MsgReply", spec := "msgReply", unfollowed := true, recurses := true, apart := false }
def MsgReplySaid : Prop := msgReplyRow.holds Try.pinned (OpenSpec.ofChange msgReplySpec)

/-- ITS FALSE NEIGHBOUR: 'it returns false'. Refute it at one input. -/
def msgReplyWrong : ChangeSpec := { name := "msgReply", fn := fun _ => fun
  | [d1, d2] => { results := [.lit (.bool false)], args := [d1, d2] }
  | _ => none }
def MsgReplyWrongFalsely : Prop := msgReplyRow.holds Try.pinned (OpenSpec.ofChange msgReplyWrong)

/-- 'ostiarylaw08.MsgReads': WHATEVER THE INPUT: true; the input reads as it did. -/
def msgReadsSpec : ChangeSpec := { name := "msgReads", fn := fun _ => fun
  | [d] => { results := [.lit (.bool true)], args := [d] }
  | _ => none }
def msgReadsRow : OpenClaim := { program := "yteahdaddbmhfgaa", sum := "9149a28a4f6836d21dc9f7519683f1ee91d8852808327e58cc2067daa4007199", func := "ostiary/ostiarylaw08.MsgReads", spec := "msgReads", unfollowed := true, recurses := true, apart := false }
def MsgReadsSaid : Prop := msgReadsRow.holds Try.pinned (OpenSpec.ofChange msgReadsSpec)

/-- ITS FALSE NEIGHBOUR: 'it returns false'. Refute it at one input. -/
def msgReadsWrong : ChangeSpec := { name := "msgReads", fn := fun _ => fun
  | [d] => { results := [.lit (.bool false)], args := [d] }
  | _ => none }
def MsgReadsWrongFalsely : Prop := msgReadsRow.holds Try.pinned (OpenSpec.ofChange msgReadsWrong)

/-- 'ostiarylaw08.MsgBack': WHATEVER THE INPUT: true; the input reads as it did. -/
def msgBackSpec : ChangeSpec := { name := "msgBack", fn := fun _ => fun
  | [d1, d2, d3, d4] => { results := [.lit (.bool true)], args := [d1, d2, d3, d4] }
  | _ => none }
def msgBackRow : OpenClaim := { program := "yteahdaddbmhfgaa", sum := "9149a28a4f6836d21dc9f7519683f1ee91d8852808327e58cc2067daa4007199", func := "ostiary/ostiarylaw08.MsgBack", spec := "msgBack", unfollowed := true, recurses := true, apart := false }
def MsgBackSaid : Prop := msgBackRow.holds Try.pinned (OpenSpec.ofChange msgBackSpec)

/-- ITS FALSE NEIGHBOUR: 'it returns false'. Refute it at one input. -/
def msgBackWrong : ChangeSpec := { name := "msgBack", fn := fun _ => fun
  | [d1, d2, d3, d4] => { results := [.lit (.bool false)], args := [d1, d2, d3, d4] }
  | _ => none }
def MsgBackWrongFalsely : Prop := msgBackRow.holds Try.pinned (OpenSpec.ofChange msgBackWrong)

/-- 'ostiarylaw08.MsgKnown': WHATEVER THE INPUT: true; the input reads as it did. -/
def msgKnownSpec : ChangeSpec := { name := "msgKnown", fn := fun _ => fun
  | [] => { results := [.lit (.bool true)], args := [] }
  | _ => none }
def msgKnownRow : OpenClaim := { program := "yteahdaddbmhfgaa", sum := "9149a28a4f6836d21dc9f7519683f1ee91d8852808327e58cc2067daa4007199", func := "ostiary/ostiarylaw08.MsgKnown", spec := "msgKnown", unfollowed := true, recurses := true, apart := false }
def MsgKnownSaid : Prop := msgKnownRow.holds Try.pinned (OpenSpec.ofChange msgKnownSpec)

/-- ITS FALSE NEIGHBOUR: 'it returns false'. Refute it at one input. -/
def msgKnownWrong : ChangeSpec := { name := "msgKnown", fn := fun _ => fun
  | [] => { results := [.lit (.bool false)], args := [] }
  | _ => none }
def MsgKnownWrongFalsely : Prop := msgKnownRow.holds Try.pinned (OpenSpec.ofChange msgKnownWrong)

/-- 'ostiarylaw09.EdnsBack': WHATEVER THE INPUT: true; the input reads as it did. -/
def ednsBackSpec : ChangeSpec := { name := "ednsBack", fn := fun _ => fun
  | [d1, d2] => { results := [.lit (.bool true)], args := [d1, d2] }
  | _ => none }
def ednsBackRow : OpenClaim := { program := "yteahdaddbmhfgaa", sum := "9149a28a4f6836d21dc9f7519683f1ee91d8852808327e58cc2067daa4007199", func := "ostiary/ostiarylaw09.EdnsBack", spec := "ednsBack", unfollowed := true, recurses := true, apart := false }
def EdnsBackSaid : Prop := ednsBackRow.holds Try.pinned (OpenSpec.ofChange ednsBackSpec)

/-- ITS FALSE NEIGHBOUR: 'it returns false'. Refute it at one input. -/
def ednsBackWrong : ChangeSpec := { name := "ednsBack", fn := fun _ => fun
  | [d1, d2] => { results := [.lit (.bool false)], args := [d1, d2] }
  | _ => none }
def EdnsBackWrongFalsely : Prop := ednsBackRow.holds Try.pinned (OpenSpec.ofChange ednsBackWrong)

/-- 'ostiarylaw10.TrimKeeps': WHATEVER THE INPUT: true; the input reads as it did. -/
def trimKeepsSpec : ChangeSpec := { name := "trimKeeps", fn := fun _ => fun
  | [d1, d2] => { results := [.lit (.bool true)], args := [d1, d2] }
  | _ => none }
def trimKeepsRow : OpenClaim := { program := "yteahdaddbmhfgaa", sum := "9149a28a4f6836d21dc9f7519683f1ee91d8852808327e58cc2067daa4007199", func := "ostiary/ostiarylaw10.TrimKeeps", spec := "trimKeeps", unfollowed := true, recurses := true, apart := false }
def TrimKeepsSaid : Prop := trimKeepsRow.holds Try.pinned (OpenSpec.ofChange trimKeepsSpec)

/-- ITS FALSE NEIGHBOUR: 'it returns false'. Refute it at one input. -/
def trimKeepsWrong : ChangeSpec := { name := "trimKeeps", fn := fun _ => fun
  | [d1, d2] => { results := [.lit (.bool false)], args := [d1, d2] }
  | _ => none }
def TrimKeepsWrongFalsely : Prop := trimKeepsRow.holds Try.pinned (OpenSpec.ofChange trimKeepsWrong)

/-- 'ostiarylaw10.TrimMore': WHATEVER THE INPUT: true; the input reads as it did. -/
def trimMoreSpec : ChangeSpec := { name := "trimMore", fn := fun _ => fun
  | [d1, d2, d3] => { results := [.lit (.bool true)], args := [d1, d2, d3] }
  | _ => none }
def trimMoreRow : OpenClaim := { program := "yteahdaddbmhfgaa", sum := "9149a28a4f6836d21dc9f7519683f1ee91d8852808327e58cc2067daa4007199", func := "ostiary/ostiarylaw10.TrimMore", spec := "trimMore", unfollowed := true, recurses := true, apart := false }
def TrimMoreSaid : Prop := trimMoreRow.holds Try.pinned (OpenSpec.ofChange trimMoreSpec)

/-- ITS FALSE NEIGHBOUR: 'it returns false'. Refute it at one input. -/
def trimMoreWrong : ChangeSpec := { name := "trimMore", fn := fun _ => fun
  | [d1, d2, d3] => { results := [.lit (.bool false)], args := [d1, d2, d3] }
  | _ => none }
def TrimMoreWrongFalsely : Prop := trimMoreRow.holds Try.pinned (OpenSpec.ofChange trimMoreWrong)

/-- 'ostiarylaw10.TrimKnown': WHATEVER THE INPUT: true; the input reads as it did. -/
def trimKnownSpec : ChangeSpec := { name := "trimKnown", fn := fun _ => fun
  | [] => { results := [.lit (.bool true)], args := [] }
  | _ => none }
def trimKnownRow : OpenClaim := { program := "yteahdaddbmhfgaa", sum := "9149a28a4f6836d21dc9f7519683f1ee91d8852808327e58cc2067daa4007199", func := "ostiary/ostiarylaw10.TrimKnown", spec := "trimKnown", unfollowed := true, recurses := true, apart := false }
def TrimKnownSaid : Prop := trimKnownRow.holds Try.pinned (OpenSpec.ofChange trimKnownSpec)

/-- ITS FALSE NEIGHBOUR: 'it returns false'. Refute it at one input. -/
def trimKnownWrong : ChangeSpec := { name := "trimKnown", fn := fun _ => fun
  | [] => { results := [.lit (.bool false)], args := [] }
  | _ => none }
def TrimKnownWrongFalsely : Prop := trimKnownRow.holds Try.pinned (OpenSpec.ofChange trimKnownWrong)

/- THE SECOND FORM. 'bulk': how many values and letters a reading holds, each counted each time it is reached (what is shared counts as often as it is met; a slice's spare places count too). A statement '..UptoSaid' is the law's where the arguments, and the package variables that the reading takes, are together of bulk at most 1048576: NARROWER than '..Said'. Prove '..Said' where nothing that the law and all that it calls make is longer than what came in: it says more and counts as full. Else prove '..UptoSaid'. A law counts once. -/
mutual
def uptoBulk {H : Type} : DataW H → Nat
  | .lit (.string bytes) => bytes.length + 1
  | .lit _ => 1
  | .nil => 1
  | .ptr d => uptoBulk d + 1
  | .slice elems spare => uptoBulkAll elems + uptoBulkAll spare + 1
  | .agg parts => uptoBulkAll parts + 1
  | .iface _ d => uptoBulk d + 1
  | .map entries => uptoBulkEntries entries + 1
  | .held _ => 1
def uptoBulkAll {H : Type} : List (DataW H) → Nat
  | [] => 0
  | d :: r => uptoBulk d + uptoBulkAll r
def uptoBulkEntries {H : Type} : List (Lit × DataW H) → Nat
  | [] => 0
  | x :: r => uptoBulkEntry x + uptoBulkEntries r
def uptoBulkEntry {H : Type} : Lit × DataW H → Nat
  | (.string bytes, d) => bytes.length + uptoBulk d + 1
  | (_, d) => uptoBulk d + 1
 end
def uptoSmall : (H : Type) → List (DataW H) → Bool := fun _ ds => decide (uptoBulkAll ds ≤ 1048576)
def OpenSpec.upto (s : _root_.Go.ChangeSpec) : _root_.Go.OpenSpec := { _root_.Go.OpenSpec.ofChange s with cond := some uptoSmall }

/-- 'ostiarylaw09.EdnsPuts', WHERE WHAT IT READS IS OF BULK AT MOST 1048576: true; the input reads as it did. -/
def ednsPutsUptoRow : OpenClaim := { program := "yteahdaddbmhfgaa", sum := "9149a28a4f6836d21dc9f7519683f1ee91d8852808327e58cc2067daa4007199", func := "ostiary/ostiarylaw09.EdnsPuts", spec := "ednsPuts", unfollowed := true, recurses := true, apart := false, narrowed := true }
def EdnsPutsUptoSaid : Prop := ednsPutsUptoRow.holds Try.pinned (OpenSpec.upto ednsPutsSpec)

/-- 'ostiarylaw09.EdnsTells', WHERE WHAT IT READS IS OF BULK AT MOST 1048576: true; the input reads as it did. -/
def ednsTellsUptoRow : OpenClaim := { program := "yteahdaddbmhfgaa", sum := "9149a28a4f6836d21dc9f7519683f1ee91d8852808327e58cc2067daa4007199", func := "ostiary/ostiarylaw09.EdnsTells", spec := "ednsTells", unfollowed := true, recurses := true, apart := false, narrowed := true }
def EdnsTellsUptoSaid : Prop := ednsTellsUptoRow.holds Try.pinned (OpenSpec.upto ednsTellsSpec)

/-- 'ostiarylaw09.EdnsStrips', WHERE WHAT IT READS IS OF BULK AT MOST 1048576: true; the input reads as it did. -/
def ednsStripsUptoRow : OpenClaim := { program := "yteahdaddbmhfgaa", sum := "9149a28a4f6836d21dc9f7519683f1ee91d8852808327e58cc2067daa4007199", func := "ostiary/ostiarylaw09.EdnsStrips", spec := "ednsStrips", unfollowed := true, recurses := true, apart := false, narrowed := true }
def EdnsStripsUptoSaid : Prop := ednsStripsUptoRow.holds Try.pinned (OpenSpec.upto ednsStripsSpec)

/-- 'ostiarylaw09.EdnsKnown', WHERE WHAT IT READS IS OF BULK AT MOST 1048576: true; the input reads as it did. -/
def ednsKnownUptoRow : OpenClaim := { program := "yteahdaddbmhfgaa", sum := "9149a28a4f6836d21dc9f7519683f1ee91d8852808327e58cc2067daa4007199", func := "ostiary/ostiarylaw09.EdnsKnown", spec := "ednsKnown", unfollowed := true, recurses := true, apart := false, narrowed := true }
def EdnsKnownUptoSaid : Prop := ednsKnownUptoRow.holds Try.pinned (OpenSpec.upto ednsKnownSpec)

/-- 'ostiarylaw10.TrimFits', WHERE WHAT IT READS IS OF BULK AT MOST 1048576: true; the input reads as it did. -/
def trimFitsUptoRow : OpenClaim := { program := "yteahdaddbmhfgaa", sum := "9149a28a4f6836d21dc9f7519683f1ee91d8852808327e58cc2067daa4007199", func := "ostiary/ostiarylaw10.TrimFits", spec := "trimFits", unfollowed := true, recurses := true, apart := false, narrowed := true }
def TrimFitsUptoSaid : Prop := trimFitsUptoRow.holds Try.pinned (OpenSpec.upto trimFitsSpec)

/-- 'ostiarylaw10.TrimLeast', WHERE WHAT IT READS IS OF BULK AT MOST 1048576: true; the input reads as it did. -/
def trimLeastUptoRow : OpenClaim := { program := "yteahdaddbmhfgaa", sum := "9149a28a4f6836d21dc9f7519683f1ee91d8852808327e58cc2067daa4007199", func := "ostiary/ostiarylaw10.TrimLeast", spec := "trimLeast", unfollowed := true, recurses := true, apart := false, narrowed := true }
def TrimLeastUptoSaid : Prop := trimLeastUptoRow.holds Try.pinned (OpenSpec.upto trimLeastSpec)

/-- 'ostiarylaw08.MsgWrites', WHERE WHAT IT READS IS OF BULK AT MOST 1048576: true; the input reads as it did. -/
def msgWritesUptoRow : OpenClaim := { program := "yteahdaddbmhfgaa", sum := "9149a28a4f6836d21dc9f7519683f1ee91d8852808327e58cc2067daa4007199", func := "ostiary/ostiarylaw08.MsgWrites", spec := "msgWrites", unfollowed := true, recurses := true, apart := false, narrowed := true }
def MsgWritesUptoSaid : Prop := msgWritesUptoRow.holds Try.pinned (OpenSpec.upto msgWritesSpec)

/-- 'ostiarylaw08.MsgFlags', WHERE WHAT IT READS IS OF BULK AT MOST 1048576: true; the input reads as it did. -/
def msgFlagsUptoRow : OpenClaim := { program := "yteahdaddbmhfgaa", sum := "9149a28a4f6836d21dc9f7519683f1ee91d8852808327e58cc2067daa4007199", func := "ostiary/ostiarylaw08.MsgFlags", spec := "msgFlags", unfollowed := true, recurses := true, apart := false, narrowed := true }
def MsgFlagsUptoSaid : Prop := msgFlagsUptoRow.holds Try.pinned (OpenSpec.upto msgFlagsSpec)

/-- 'ostiarylaw08.MsgReplies', WHERE WHAT IT READS IS OF BULK AT MOST 1048576: true; the input reads as it did. -/
def msgRepliesUptoRow : OpenClaim := { program := "yteahdaddbmhfgaa", sum := "9149a28a4f6836d21dc9f7519683f1ee91d8852808327e58cc2067daa4007199", func := "ostiary/ostiarylaw08.MsgReplies", spec := "msgReplies", unfollowed := true, recurses := true, apart := false, narrowed := true }
def MsgRepliesUptoSaid : Prop := msgRepliesUptoRow.holds Try.pinned (OpenSpec.upto msgRepliesSpec)

/-- 'ostiarylaw08.MsgReply', WHERE WHAT IT READS IS OF BULK AT MOST 1048576: true; the input reads as it did. -/
def msgReplyUptoRow : OpenClaim := { program := "yteahdaddbmhfgaa", sum := "9149a28a4f6836d21dc9f7519683f1ee91d8852808327e58cc2067daa4007199", func := "ostiary/ostiarylaw08.MsgReply", spec := "msgReply", unfollowed := true, recurses := true, apart := false, narrowed := true }
def MsgReplyUptoSaid : Prop := msgReplyUptoRow.holds Try.pinned (OpenSpec.upto msgReplySpec)

/-- 'ostiarylaw08.MsgReads', WHERE WHAT IT READS IS OF BULK AT MOST 1048576: true; the input reads as it did. -/
def msgReadsUptoRow : OpenClaim := { program := "yteahdaddbmhfgaa", sum := "9149a28a4f6836d21dc9f7519683f1ee91d8852808327e58cc2067daa4007199", func := "ostiary/ostiarylaw08.MsgReads", spec := "msgReads", unfollowed := true, recurses := true, apart := false, narrowed := true }
def MsgReadsUptoSaid : Prop := msgReadsUptoRow.holds Try.pinned (OpenSpec.upto msgReadsSpec)

/-- 'ostiarylaw08.MsgBack', WHERE WHAT IT READS IS OF BULK AT MOST 1048576: true; the input reads as it did. -/
def msgBackUptoRow : OpenClaim := { program := "yteahdaddbmhfgaa", sum := "9149a28a4f6836d21dc9f7519683f1ee91d8852808327e58cc2067daa4007199", func := "ostiary/ostiarylaw08.MsgBack", spec := "msgBack", unfollowed := true, recurses := true, apart := false, narrowed := true }
def MsgBackUptoSaid : Prop := msgBackUptoRow.holds Try.pinned (OpenSpec.upto msgBackSpec)

/-- 'ostiarylaw08.MsgKnown', WHERE WHAT IT READS IS OF BULK AT MOST 1048576: true; the input reads as it did. -/
def msgKnownUptoRow : OpenClaim := { program := "yteahdaddbmhfgaa", sum := "9149a28a4f6836d21dc9f7519683f1ee91d8852808327e58cc2067daa4007199", func := "ostiary/ostiarylaw08.MsgKnown", spec := "msgKnown", unfollowed := true, recurses := true, apart := false, narrowed := true }
def MsgKnownUptoSaid : Prop := msgKnownUptoRow.holds Try.pinned (OpenSpec.upto msgKnownSpec)

/-- 'ostiarylaw09.EdnsBack', WHERE WHAT IT READS IS OF BULK AT MOST 1048576: true; the input reads as it did. -/
def ednsBackUptoRow : OpenClaim := { program := "yteahdaddbmhfgaa", sum := "9149a28a4f6836d21dc9f7519683f1ee91d8852808327e58cc2067daa4007199", func := "ostiary/ostiarylaw09.EdnsBack", spec := "ednsBack", unfollowed := true, recurses := true, apart := false, narrowed := true }
def EdnsBackUptoSaid : Prop := ednsBackUptoRow.holds Try.pinned (OpenSpec.upto ednsBackSpec)

/-- 'ostiarylaw10.TrimKeeps', WHERE WHAT IT READS IS OF BULK AT MOST 1048576: true; the input reads as it did. -/
def trimKeepsUptoRow : OpenClaim := { program := "yteahdaddbmhfgaa", sum := "9149a28a4f6836d21dc9f7519683f1ee91d8852808327e58cc2067daa4007199", func := "ostiary/ostiarylaw10.TrimKeeps", spec := "trimKeeps", unfollowed := true, recurses := true, apart := false, narrowed := true }
def TrimKeepsUptoSaid : Prop := trimKeepsUptoRow.holds Try.pinned (OpenSpec.upto trimKeepsSpec)

/-- 'ostiarylaw10.TrimMore', WHERE WHAT IT READS IS OF BULK AT MOST 1048576: true; the input reads as it did. -/
def trimMoreUptoRow : OpenClaim := { program := "yteahdaddbmhfgaa", sum := "9149a28a4f6836d21dc9f7519683f1ee91d8852808327e58cc2067daa4007199", func := "ostiary/ostiarylaw10.TrimMore", spec := "trimMore", unfollowed := true, recurses := true, apart := false, narrowed := true }
def TrimMoreUptoSaid : Prop := trimMoreUptoRow.holds Try.pinned (OpenSpec.upto trimMoreSpec)

/-- 'ostiarylaw10.TrimKnown', WHERE WHAT IT READS IS OF BULK AT MOST 1048576: true; the input reads as it did. -/
def trimKnownUptoRow : OpenClaim := { program := "yteahdaddbmhfgaa", sum := "9149a28a4f6836d21dc9f7519683f1ee91d8852808327e58cc2067daa4007199", func := "ostiary/ostiarylaw10.TrimKnown", spec := "trimKnown", unfollowed := true, recurses := true, apart := false, narrowed := true }
def TrimKnownUptoSaid : Prop := trimKnownUptoRow.holds Try.pinned (OpenSpec.upto trimKnownSpec)

end Rows
end Go.Proofs.Yteahdaddbmhfgaa
