/-
  No cell of these rows narrows 'for every input' (looked for: loops, veiled, ifaces, maps, wideKeys, modest, calm, conditions, laid).
  DERIVED. THE GIVEN ROWS OF THIS SEAT. 6 by the template 'for every input the law returns true; each argument reads behind the call as it read before'; 0 by the template 'total and deterministic' (their statements: YtlpfeikoniepiaaRRTotals.lean).
  GIVEN WITH THE SEED: the statements are not yours to turn. If you find one false, say at which input.
  Laid BY PROGRAM, IN A SANDBOX (cutbox-rows.mjs): the forced cells as the released guide's own fill.sh prints them over the translation ac032d86f61e7063… (all of the seat's roots in one cut). By AI agents, Wed Nov 11 2026. No macro, syntax, notation, axiom, sorry.
-/
import Derived.Test.YtlpfeikoniepiaaRRChecked
import GoSem.Claim
import GoSem.ClaimJoined
import GoSem.ClaimMapViews
import Derived.JoinedTies
import Derived.KernelRfl
namespace Go.Proofs.YtlpfeikoniepiaaRR
/- THE CELL 'sum', in the pinned program and in every row, IS THE sha256 OF THE DUMP (.gsa) THAT YtlpfeikoniepiaaRRProg.lean LOADS. Nothing in Lean hashes anything: it is a label: what it is worth is what the hold of that sum in a sandbox is worth. -/
noncomputable def Try.pinned : Pinned := { name := "ytlpfeikoniepiaarr", sum := "ac032d86f61e70631f7988cc3c9489e19c1813f8b13d0938099b626d05d1112a", checked := Try.checked }
namespace Rows
def none {H : Type} : Left H := { results := [], args := [] }

/-- 'rovinglaw10.SeqsTake': WHATEVER THE INPUT: true; the input reads as it did. -/
def seqsTakeSpec : ChangeSpec := { name := "seqsTake", fn := fun _ => fun
  | [d1, d2, d3] => { results := [.lit (.bool true)], args := [d1, d2, d3] }
  | _ => none }
def seqsTakeRow : OpenClaim := { program := "ytlpfeikoniepiaarr", sum := "ac032d86f61e70631f7988cc3c9489e19c1813f8b13d0938099b626d05d1112a", func := "roving/rovinglaw10.SeqsTake", spec := "seqsTake", unfollowed := true, recurses := true, apart := false }
def SeqsTakeSaid : Prop := seqsTakeRow.holds Try.pinned (OpenSpec.ofChange seqsTakeSpec)

/-- ITS FALSE NEIGHBOUR: 'it returns false'. Refute it at one input. -/
def seqsTakeWrong : ChangeSpec := { name := "seqsTake", fn := fun _ => fun
  | [d1, d2, d3] => { results := [.lit (.bool false)], args := [d1, d2, d3] }
  | _ => none }
def SeqsTakeWrongFalsely : Prop := seqsTakeRow.holds Try.pinned (OpenSpec.ofChange seqsTakeWrong)

/-- 'rovinglaw10.SeqsOnce': WHATEVER THE INPUT: true; the input reads as it did. -/
def seqsOnceSpec : ChangeSpec := { name := "seqsOnce", fn := fun _ => fun
  | [d] => { results := [.lit (.bool true)], args := [d] }
  | _ => none }
def seqsOnceRow : OpenClaim := { program := "ytlpfeikoniepiaarr", sum := "ac032d86f61e70631f7988cc3c9489e19c1813f8b13d0938099b626d05d1112a", func := "roving/rovinglaw10.SeqsOnce", spec := "seqsOnce", unfollowed := true, recurses := true, apart := false }
def SeqsOnceSaid : Prop := seqsOnceRow.holds Try.pinned (OpenSpec.ofChange seqsOnceSpec)

/-- ITS FALSE NEIGHBOUR: 'it returns false'. Refute it at one input. -/
def seqsOnceWrong : ChangeSpec := { name := "seqsOnce", fn := fun _ => fun
  | [d] => { results := [.lit (.bool false)], args := [d] }
  | _ => none }
def SeqsOnceWrongFalsely : Prop := seqsOnceRow.holds Try.pinned (OpenSpec.ofChange seqsOnceWrong)

/-- 'rovinglaw10.SeqsApart': WHATEVER THE INPUT: true; the input reads as it did. -/
def seqsApartSpec : ChangeSpec := { name := "seqsApart", fn := fun _ => fun
  | [d1, d2, d3] => { results := [.lit (.bool true)], args := [d1, d2, d3] }
  | _ => none }
def seqsApartRow : OpenClaim := { program := "ytlpfeikoniepiaarr", sum := "ac032d86f61e70631f7988cc3c9489e19c1813f8b13d0938099b626d05d1112a", func := "roving/rovinglaw10.SeqsApart", spec := "seqsApart", unfollowed := true, recurses := true, apart := false }
def SeqsApartSaid : Prop := seqsApartRow.holds Try.pinned (OpenSpec.ofChange seqsApartSpec)

/-- ITS FALSE NEIGHBOUR: 'it returns false'. Refute it at one input. -/
def seqsApartWrong : ChangeSpec := { name := "seqsApart", fn := fun _ => fun
  | [d1, d2, d3] => { results := [.lit (.bool false)], args := [d1, d2, d3] }
  | _ => none }
def SeqsApartWrongFalsely : Prop := seqsApartRow.holds Try.pinned (OpenSpec.ofChange seqsApartWrong)

/-- 'rovinglaw12.InlineOrder': WHATEVER THE INPUT: true; the input reads as it did. -/
def inlineOrderSpec : ChangeSpec := { name := "inlineOrder", fn := fun _ => fun
  | [d] => { results := [.lit (.bool true)], args := [d] }
  | _ => none }
def inlineOrderRow : OpenClaim := { program := "ytlpfeikoniepiaarr", sum := "ac032d86f61e70631f7988cc3c9489e19c1813f8b13d0938099b626d05d1112a", func := "roving/rovinglaw12.InlineOrder", spec := "inlineOrder", unfollowed := true, recurses := true, apart := false }
def InlineOrderSaid : Prop := inlineOrderRow.holds Try.pinned (OpenSpec.ofChange inlineOrderSpec)

/-- ITS FALSE NEIGHBOUR: 'it returns false'. Refute it at one input. -/
def inlineOrderWrong : ChangeSpec := { name := "inlineOrder", fn := fun _ => fun
  | [d] => { results := [.lit (.bool false)], args := [d] }
  | _ => none }
def InlineOrderWrongFalsely : Prop := inlineOrderRow.holds Try.pinned (OpenSpec.ofChange inlineOrderWrong)

/-- 'rovinglaw12.InlineTurns': WHATEVER THE INPUT: true; the input reads as it did. -/
def inlineTurnsSpec : ChangeSpec := { name := "inlineTurns", fn := fun _ => fun
  | [d1, d2] => { results := [.lit (.bool true)], args := [d1, d2] }
  | _ => none }
def inlineTurnsRow : OpenClaim := { program := "ytlpfeikoniepiaarr", sum := "ac032d86f61e70631f7988cc3c9489e19c1813f8b13d0938099b626d05d1112a", func := "roving/rovinglaw12.InlineTurns", spec := "inlineTurns", unfollowed := true, recurses := true, apart := false }
def InlineTurnsSaid : Prop := inlineTurnsRow.holds Try.pinned (OpenSpec.ofChange inlineTurnsSpec)

/-- ITS FALSE NEIGHBOUR: 'it returns false'. Refute it at one input. -/
def inlineTurnsWrong : ChangeSpec := { name := "inlineTurns", fn := fun _ => fun
  | [d1, d2] => { results := [.lit (.bool false)], args := [d1, d2] }
  | _ => none }
def InlineTurnsWrongFalsely : Prop := inlineTurnsRow.holds Try.pinned (OpenSpec.ofChange inlineTurnsWrong)

/-- 'rovinglaw12.InlineBack': WHATEVER THE INPUT: true; the input reads as it did. -/
def inlineBackSpec : ChangeSpec := { name := "inlineBack", fn := fun _ => fun
  | [d] => { results := [.lit (.bool true)], args := [d] }
  | _ => none }
def inlineBackRow : OpenClaim := { program := "ytlpfeikoniepiaarr", sum := "ac032d86f61e70631f7988cc3c9489e19c1813f8b13d0938099b626d05d1112a", func := "roving/rovinglaw12.InlineBack", spec := "inlineBack", unfollowed := true, recurses := true, apart := false }
def InlineBackSaid : Prop := inlineBackRow.holds Try.pinned (OpenSpec.ofChange inlineBackSpec)

/-- ITS FALSE NEIGHBOUR: 'it returns false'. Refute it at one input. -/
def inlineBackWrong : ChangeSpec := { name := "inlineBack", fn := fun _ => fun
  | [d] => { results := [.lit (.bool false)], args := [d] }
  | _ => none }
def InlineBackWrongFalsely : Prop := inlineBackRow.holds Try.pinned (OpenSpec.ofChange inlineBackWrong)

/- THE SECOND FORM. 'bulk': how many values and letters a reading holds, each counted each time it is reached (what is shared counts as often as it is met; a slice's spare places count too). A statement '..UptoSaid' is the law's where the arguments, and the package variables that the reading takes, are together of bulk at most 1048576: NARROWER than '..Said'. Prove '..Said' where nothing that the law and all that it calls make is longer than what came in: it says more and counts as full. Else prove '..UptoSaid'. A law counts once. -/
mutual
def uptoBulk {H : Type} : DataW H → Nat
  | .lit (.string bytes) => bytes.length + 1
  | .lit _ => 1
  | .nil => 1
  | .ptr d => uptoBulk d + 1
  | .slice elems spare => uptoBulkAll elems + uptoBulkAll spare + 1
  | .agg parts => uptoBulkAll parts + 1
  | .iface _ d => uptoBulk d + 1
  | .map entries => uptoBulkEntries entries + 1
  | .held _ => 1
def uptoBulkAll {H : Type} : List (DataW H) → Nat
  | [] => 0
  | d :: r => uptoBulk d + uptoBulkAll r
def uptoBulkEntries {H : Type} : List (Lit × DataW H) → Nat
  | [] => 0
  | x :: r => uptoBulkEntry x + uptoBulkEntries r
def uptoBulkEntry {H : Type} : Lit × DataW H → Nat
  | (.string bytes, d) => bytes.length + uptoBulk d + 1
  | (_, d) => uptoBulk d + 1
 end
def uptoSmall : (H : Type) → List (DataW H) → Bool := fun _ ds => decide (uptoBulkAll ds ≤ 1048576)
def OpenSpec.upto (s : _root_.Go.ChangeSpec) : _root_.Go.OpenSpec := { _root_.Go.OpenSpec.ofChange s with cond := some uptoSmall }

/-- 'rovinglaw10.SeqsTake', WHERE WHAT IT READS IS OF BULK AT MOST 1048576: true; the input reads as it did. -/
def seqsTakeUptoRow : OpenClaim := { program := "ytlpfeikoniepiaarr", sum := "ac032d86f61e70631f7988cc3c9489e19c1813f8b13d0938099b626d05d1112a", func := "roving/rovinglaw10.SeqsTake", spec := "seqsTake", unfollowed := true, recurses := true, apart := false, narrowed := true }
def SeqsTakeUptoSaid : Prop := seqsTakeUptoRow.holds Try.pinned (OpenSpec.upto seqsTakeSpec)

/-- 'rovinglaw10.SeqsOnce', WHERE WHAT IT READS IS OF BULK AT MOST 1048576: true; the input reads as it did. -/
def seqsOnceUptoRow : OpenClaim := { program := "ytlpfeikoniepiaarr", sum := "ac032d86f61e70631f7988cc3c9489e19c1813f8b13d0938099b626d05d1112a", func := "roving/rovinglaw10.SeqsOnce", spec := "seqsOnce", unfollowed := true, recurses := true, apart := false, narrowed := true }
def SeqsOnceUptoSaid : Prop := seqsOnceUptoRow.holds Try.pinned (OpenSpec.upto seqsOnceSpec)

/-- 'rovinglaw10.SeqsApart', WHERE WHAT IT READS IS OF BULK AT MOST 1048576: true; the input reads as it did. -/
def seqsApartUptoRow : OpenClaim := { program := "ytlpfeikoniepiaarr", sum := "ac032d86f61e70631f7988cc3c9489e19c1813f8b13d0938099b626d05d1112a", func := "roving/rovinglaw10.SeqsApart", spec := "seqsApart", unfollowed := true, recurses := true, apart := false, narrowed := true }
def SeqsApartUptoSaid : Prop := seqsApartUptoRow.holds Try.pinned (OpenSpec.upto seqsApartSpec)

/-- 'rovinglaw12.InlineOrder', WHERE WHAT IT READS IS OF BULK AT MOST 1048576: true; the input reads as it did. -/
def inlineOrderUptoRow : OpenClaim := { program := "ytlpfeikoniepiaarr", sum := "ac032d86f61e70631f7988cc3c9489e19c1813f8b13d0938099b626d05d1112a", func := "roving/rovinglaw12.InlineOrder", spec := "inlineOrder", unfollowed := true, recurses := true, apart := false, narrowed := true }
def InlineOrderUptoSaid : Prop := inlineOrderUptoRow.holds Try.pinned (OpenSpec.upto inlineOrderSpec)

/-- 'rovinglaw12.InlineTurns', WHERE WHAT IT READS IS OF BULK AT MOST 1048576: true; the input reads as it did. -/
def inlineTurnsUptoRow : OpenClaim := { program := "ytlpfeikoniepiaarr", sum := "ac032d86f61e70631f7988cc3c9489e19c1813f8b13d0938099b626d05d1112a", func := "roving/rovinglaw12.InlineTurns", spec := "inlineTurns", unfollowed := true, recurses := true, apart := false, narrowed := true }
def InlineTurnsUptoSaid : Prop := inlineTurnsUptoRow.holds Try.pinned (OpenSpec.upto inlineTurnsSpec)

/-- 'rovinglaw12.InlineBack', WHERE WHAT IT READS IS OF BULK AT MOST 1048576: true; the input reads as it did. -/
def inlineBackUptoRow : OpenClaim := { program := "ytlpfeikoniepiaarr", sum := "ac032d86f61e70631f7988cc3c9489e19c1813f8b13d0938099b626d05d1112a", func := "roving/rovinglaw12.InlineBack", spec := "inlineBack", unfollowed := true, recurses := true, apart := false, narrowed := true }
def InlineBackUptoSaid : Prop := inlineBackUptoRow.holds Try.pinned (OpenSpec.upto inlineBackSpec)

end Rows
end Go.Proofs.YtlpfeikoniepiaaRR
