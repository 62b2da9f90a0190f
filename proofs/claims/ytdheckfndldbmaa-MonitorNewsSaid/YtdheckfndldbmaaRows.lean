/-
  No cell of these rows narrows 'for every input' (looked for: loops, veiled, ifaces, maps, wideKeys, modest, calm, conditions, laid).
  DERIVED. THE GIVEN ROWS OF THIS SEAT. 4 by the template 'for every input the law returns true; each argument reads behind the call as it read before'; 0 by the template 'total and deterministic' (their statements: YtdheckfndldbmaaTotals.lean).
  GIVEN WITH THE SEED: the statements are not yours to turn. If you find one false, say at which input.
  Laid BY PROGRAM, IN A SANDBOX (cutbox-rows.mjs): the forced cells as the released guide's own fill.sh prints them over the translation eb503e8ab3695d5a… (all of the seat's roots in one cut). By AI agents, Wed Nov 11 2026. No macro, syntax, notation, axiom, sorry.
-/
import Derived.Test.YtdheckfndldbmaaChecked
import GoSem.Claim
import GoSem.ClaimJoined
import GoSem.ClaimMapViews
import Derived.JoinedTies
import Derived.KernelRfl
namespace Go.Proofs.Ytdheckfndldbmaa
/- THE CELL 'sum', in the pinned program and in every row, IS THE sha256 OF THE DUMP (.gsa) THAT YtdheckfndldbmaaProg.lean LOADS. Nothing in Lean hashes anything: it is a label: what it is worth is what the hold of that sum in a sandbox is worth. -/
noncomputable def Try.pinned : Pinned := { name := "ytdheckfndldbmaa", sum := "eb503e8ab3695d5ab7d29468a8dab08822f99009b0a15f7321ca0ad6bde5d408", checked := Try.checked }
namespace Rows
def none {H : Type} : Left H := { results := [], args := [] }

/-- 'honeycomblaw12.MonitorNews': WHATEVER THE INPUT: true; the input reads as it did. -/
def monitorNewsSpec : ChangeSpec := { name := "monitorNews", fn := fun _ => fun
  | [d] => { results := [.lit (.bool true)], args := [d] }
  | _ => none }
def monitorNewsRow : OpenClaim := { program := "ytdheckfndldbmaa", sum := "eb503e8ab3695d5ab7d29468a8dab08822f99009b0a15f7321ca0ad6bde5d408", func := "honeycomb/honeycomblaw12.MonitorNews", spec := "monitorNews", unfollowed := true, recurses := true, apart := false }
def MonitorNewsSaid : Prop := monitorNewsRow.holds Try.pinned (OpenSpec.ofChange monitorNewsSpec)

/-- ITS FALSE NEIGHBOUR: 'it returns false'. Refute it at one input. -/
def monitorNewsWrong : ChangeSpec := { name := "monitorNews", fn := fun _ => fun
  | [d] => { results := [.lit (.bool false)], args := [d] }
  | _ => none }
def MonitorNewsWrongFalsely : Prop := monitorNewsRow.holds Try.pinned (OpenSpec.ofChange monitorNewsWrong)

/-- 'honeycomblaw12.MonitorKeeps': WHATEVER THE INPUT: true; the input reads as it did. -/
def monitorKeepsSpec : ChangeSpec := { name := "monitorKeeps", fn := fun _ => fun
  | [d1, d2, d3] => { results := [.lit (.bool true)], args := [d1, d2, d3] }
  | _ => none }
def monitorKeepsRow : OpenClaim := { program := "ytdheckfndldbmaa", sum := "eb503e8ab3695d5ab7d29468a8dab08822f99009b0a15f7321ca0ad6bde5d408", func := "honeycomb/honeycomblaw12.MonitorKeeps", spec := "monitorKeeps", unfollowed := true, recurses := true, apart := false }
def MonitorKeepsSaid : Prop := monitorKeepsRow.holds Try.pinned (OpenSpec.ofChange monitorKeepsSpec)

/-- ITS FALSE NEIGHBOUR: 'it returns false'. Refute it at one input. -/
def monitorKeepsWrong : ChangeSpec := { name := "monitorKeeps", fn := fun _ => fun
  | [d1, d2, d3] => { results := [.lit (.bool false)], args := [d1, d2, d3] }
  | _ => none }
def MonitorKeepsWrongFalsely : Prop := monitorKeepsRow.holds Try.pinned (OpenSpec.ofChange monitorKeepsWrong)

/-- 'honeycomblaw12.MonitorTells': WHATEVER THE INPUT: true; the input reads as it did. -/
def monitorTellsSpec : ChangeSpec := { name := "monitorTells", fn := fun _ => fun
  | [d1, d2, d3] => { results := [.lit (.bool true)], args := [d1, d2, d3] }
  | _ => none }
def monitorTellsRow : OpenClaim := { program := "ytdheckfndldbmaa", sum := "eb503e8ab3695d5ab7d29468a8dab08822f99009b0a15f7321ca0ad6bde5d408", func := "honeycomb/honeycomblaw12.MonitorTells", spec := "monitorTells", unfollowed := true, recurses := true, apart := false }
def MonitorTellsSaid : Prop := monitorTellsRow.holds Try.pinned (OpenSpec.ofChange monitorTellsSpec)

/-- ITS FALSE NEIGHBOUR: 'it returns false'. Refute it at one input. -/
def monitorTellsWrong : ChangeSpec := { name := "monitorTells", fn := fun _ => fun
  | [d1, d2, d3] => { results := [.lit (.bool false)], args := [d1, d2, d3] }
  | _ => none }
def MonitorTellsWrongFalsely : Prop := monitorTellsRow.holds Try.pinned (OpenSpec.ofChange monitorTellsWrong)

/-- 'honeycomblaw12.MonitorCounts': WHATEVER THE INPUT: true; the input reads as it did. -/
def monitorCountsSpec : ChangeSpec := { name := "monitorCounts", fn := fun _ => fun
  | [d1, d2] => { results := [.lit (.bool true)], args := [d1, d2] }
  | _ => none }
def monitorCountsRow : OpenClaim := { program := "ytdheckfndldbmaa", sum := "eb503e8ab3695d5ab7d29468a8dab08822f99009b0a15f7321ca0ad6bde5d408", func := "honeycomb/honeycomblaw12.MonitorCounts", spec := "monitorCounts", unfollowed := true, recurses := true, apart := false }
def MonitorCountsSaid : Prop := monitorCountsRow.holds Try.pinned (OpenSpec.ofChange monitorCountsSpec)

/-- ITS FALSE NEIGHBOUR: 'it returns false'. Refute it at one input. -/
def monitorCountsWrong : ChangeSpec := { name := "monitorCounts", fn := fun _ => fun
  | [d1, d2] => { results := [.lit (.bool false)], args := [d1, d2] }
  | _ => none }
def MonitorCountsWrongFalsely : Prop := monitorCountsRow.holds Try.pinned (OpenSpec.ofChange monitorCountsWrong)

/- THE SECOND FORM. 'bulk': how many values and letters a reading holds, each counted each time it is reached (what is shared counts as often as it is met; a slice's spare places count too). A statement '..UptoSaid' is the law's where the arguments, and the package variables that the reading takes, are together of bulk at most 1048576: NARROWER than '..Said'. Prove '..Said' where nothing that the law and all that it calls make is longer than what came in: it says more and counts as full. Else prove '..UptoSaid'. A law counts once. -/
mutual
def uptoBulk {H : Type} : DataW H → Nat
  | .lit (.string bytes) => bytes.length + 1
  | .lit _ => 1
  | .nil => 1
  | .ptr d => uptoBulk d + 1
  | .slice elems spare => uptoBulkAll elems + uptoBulkAll spare + 1
  | .agg parts => uptoBulkAll parts + 1
  | .iface _ d => uptoBulk d + 1
  | .map entries => uptoBulkEntries entries + 1
  | .held _ => 1
def uptoBulkAll {H : Type} : List (DataW H) → Nat
  | [] => 0
  | d :: r => uptoBulk d + uptoBulkAll r
def uptoBulkEntries {H : Type} : List (Lit × DataW H) → Nat
  | [] => 0
  | x :: r => uptoBulkEntry x + uptoBulkEntries r
def uptoBulkEntry {H : Type} : Lit × DataW H → Nat
  | (.string bytes, d) => bytes.length + uptoBulk d + 1
  | (_, d) => uptoBulk d + 1
 end
def uptoSmall : (H : Type) → List (DataW H) → Bool := fun _ ds => decide (uptoBulkAll ds ≤ 1048576)
def OpenSpec.upto (s : _root_.Go.ChangeSpec) : _root_.Go.OpenSpec := { _root_.Go.OpenSpec.ofChange s with cond := some uptoSmall }

/-- 'honeycomblaw12.MonitorNews', WHERE WHAT IT READS IS OF BULK AT MOST 1048576: true; the input reads as it did. -/
def monitorNewsUptoRow : OpenClaim := { program := "ytdheckfndldbmaa", sum := "eb503e8ab3695d5ab7d29468a8dab08822f99009b0a15f7321ca0ad6bde5d408", func := "honeycomb/honeycomblaw12.MonitorNews", spec := "monitorNews", unfollowed := true, recurses := true, apart := false, narrowed := true }
def MonitorNewsUptoSaid : Prop := monitorNewsUptoRow.holds Try.pinned (OpenSpec.upto monitorNewsSpec)

/-- 'honeycomblaw12.MonitorKeeps', WHERE WHAT IT READS IS OF BULK AT MOST 1048576: true; the input reads as it did. -/
def monitorKeepsUptoRow : OpenClaim := { program := "ytdheckfndldbmaa", sum := "eb503e8ab3695d5ab7d29468a8dab08822f99009b0a15f7321ca0ad6bde5d408", func := "honeycomb/honeycomblaw12.MonitorKeeps", spec := "monitorKeeps", unfollowed := true, recurses := true, apart := false, narrowed := true }
def MonitorKeepsUptoSaid : Prop := monitorKeepsUptoRow.holds Try.pinned (OpenSpec.upto monitorKeepsSpec)

/-- 'honeycomblaw12.MonitorTells', WHERE WHAT IT READS IS OF BULK AT MOST 1048576: true; the input reads as it did. -/
def monitorTellsUptoRow : OpenClaim := { program := "ytdheckfndldbmaa", sum := "eb503e8ab3695d5ab7d29468a8dab08822f99009b0a15f7321ca0ad6bde5d408", func := "honeycomb/honeycomblaw12.MonitorTells", spec := "monitorTells", unfollowed := true, recurses := true, apart := false, narrowed := true }
def MonitorTellsUptoSaid : Prop := monitorTellsUptoRow.holds Try.pinned (OpenSpec.upto monitorTellsSpec)

/-- 'honeycomblaw12.MonitorCounts', WHERE WHAT IT READS IS OF BULK AT MOST 1048576: true; the input reads as it did. -/
def monitorCountsUptoRow : OpenClaim := { program := "ytdheckfndldbmaa", sum := "eb503e8ab3695d5ab7d29468a8dab08822f99009b0a15f7321ca0ad6bde5d408", func := "honeycomb/honeycomblaw12.MonitorCounts", spec := "monitorCounts", unfollowed := true, recurses := true, apart := false, narrowed := true }
def MonitorCountsUptoSaid : Prop := monitorCountsUptoRow.holds Try.pinned (OpenSpec.upto monitorCountsSpec)

end Rows
end Go.Proofs.Ytdheckfndldbmaa
