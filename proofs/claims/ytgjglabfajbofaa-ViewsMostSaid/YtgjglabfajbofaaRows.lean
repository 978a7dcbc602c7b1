/-
  No cell of these rows narrows 'for every input' (looked for: loops, veiled, ifaces, maps, wideKeys, modest, calm, conditions, laid).
  DERIVED. THE GIVEN ROWS OF THIS SEAT. 4 by the template 'for every input the law returns true; each argument reads behind the call as it read before'; 0 by the template 'total and deterministic' (their statements: YtgjglabfajbofaaTotals.lean).
  GIVEN WITH THE SEED: the statements are not yours to turn. If you find one false, say at which input.
  Laid BY PROGRAM, IN A SANDBOX (cutbox-rows.mjs): the forced cells as the released guide's own fill.sh prints them over the translation 5a43051e68fd043c… (all of the seat's roots in one cut). By AI agents, Wed Nov 11 2026. No macro, syntax, notation, axiom, sorry.
-/
import Derived.Test.YtgjglabfajbofaaChecked
import GoSem.Claim
import GoSem.ClaimJoined
import GoSem.ClaimMapViews
import Derived.JoinedTies
import Derived.KernelRfl
namespace Go.Proofs.Ytgjglabfajbofaa
/- THE CELL 'sum', in the pinned program and in every row, IS THE sha256 OF THE DUMP (.gsa) THAT YtgjglabfajbofaaProg.lean LOADS. Nothing in Lean hashes anything: it is a label: what it is worth is what the hold of that sum in a sandbox is worth. -/
noncomputable def Try.pinned : Pinned := { name := "ytgjglabfajbofaa", sum := "5a43051e68fd043cce45285b060efd6db0c6f48b735f9e20798456b8114cc34b", checked := Try.checked }
namespace Rows
def none {H : Type} : Left H := { results := [], args := [] }

/-- 'tithinglaw32.ViewsRises': WHATEVER THE INPUT: true; the input reads as it did. -/
def viewsRisesSpec : ChangeSpec := { name := "viewsRises", fn := fun _ => fun
  | [d1, d2] => { results := [.lit (.bool true)], args := [d1, d2] }
  | _ => none }
def viewsRisesRow : OpenClaim := { program := "ytgjglabfajbofaa", sum := "5a43051e68fd043cce45285b060efd6db0c6f48b735f9e20798456b8114cc34b", func := "tithing/tithinglaw32.ViewsRises", spec := "viewsRises", unfollowed := true, recurses := true, apart := false }
def ViewsRisesSaid : Prop := viewsRisesRow.holds Try.pinned (OpenSpec.ofChange viewsRisesSpec)

/-- ITS FALSE NEIGHBOUR: 'it returns false'. Refute it at one input. -/
def viewsRisesWrong : ChangeSpec := { name := "viewsRises", fn := fun _ => fun
  | [d1, d2] => { results := [.lit (.bool false)], args := [d1, d2] }
  | _ => none }
def ViewsRisesWrongFalsely : Prop := viewsRisesRow.holds Try.pinned (OpenSpec.ofChange viewsRisesWrong)

/-- 'tithinglaw32.ViewsMost': WHATEVER THE INPUT: true; the input reads as it did. -/
def viewsMostSpec : ChangeSpec := { name := "viewsMost", fn := fun _ => fun
  | [d1, d2] => { results := [.lit (.bool true)], args := [d1, d2] }
  | _ => none }
def viewsMostRow : OpenClaim := { program := "ytgjglabfajbofaa", sum := "5a43051e68fd043cce45285b060efd6db0c6f48b735f9e20798456b8114cc34b", func := "tithing/tithinglaw32.ViewsMost", spec := "viewsMost", unfollowed := true, recurses := true, apart := false }
def ViewsMostSaid : Prop := viewsMostRow.holds Try.pinned (OpenSpec.ofChange viewsMostSpec)

/-- ITS FALSE NEIGHBOUR: 'it returns false'. Refute it at one input. -/
def viewsMostWrong : ChangeSpec := { name := "viewsMost", fn := fun _ => fun
  | [d1, d2] => { results := [.lit (.bool false)], args := [d1, d2] }
  | _ => none }
def ViewsMostWrongFalsely : Prop := viewsMostRow.holds Try.pinned (OpenSpec.ofChange viewsMostWrong)

/-- 'tithinglaw55.PeersTurns': WHATEVER THE INPUT: true; the input reads as it did. -/
def peersTurnsSpec : ChangeSpec := { name := "peersTurns", fn := fun _ => fun
  | [d1, d2, d3] => { results := [.lit (.bool true)], args := [d1, d2, d3] }
  | _ => none }
def peersTurnsRow : OpenClaim := { program := "ytgjglabfajbofaa", sum := "5a43051e68fd043cce45285b060efd6db0c6f48b735f9e20798456b8114cc34b", func := "tithing/tithinglaw55.PeersTurns", spec := "peersTurns", inPlace := ["slices.overlaps[tithing/api.Peer]"], unfollowed := true, recurses := true, apart := false }
def PeersTurnsSaid : Prop := peersTurnsRow.holds Try.pinned (OpenSpec.ofChange peersTurnsSpec)

/-- ITS FALSE NEIGHBOUR: 'it returns false'. Refute it at one input. -/
def peersTurnsWrong : ChangeSpec := { name := "peersTurns", fn := fun _ => fun
  | [d1, d2, d3] => { results := [.lit (.bool false)], args := [d1, d2, d3] }
  | _ => none }
def PeersTurnsWrongFalsely : Prop := peersTurnsRow.holds Try.pinned (OpenSpec.ofChange peersTurnsWrong)

/-- 'tithinglaw55.PeersAgain': WHATEVER THE INPUT: true; the input reads as it did. -/
def peersAgainSpec : ChangeSpec := { name := "peersAgain", fn := fun _ => fun
  | [d1, d2] => { results := [.lit (.bool true)], args := [d1, d2] }
  | _ => none }
def peersAgainRow : OpenClaim := { program := "ytgjglabfajbofaa", sum := "5a43051e68fd043cce45285b060efd6db0c6f48b735f9e20798456b8114cc34b", func := "tithing/tithinglaw55.PeersAgain", spec := "peersAgain", inPlace := ["slices.overlaps[tithing/api.Peer]"], unfollowed := true, recurses := true, apart := false }
def PeersAgainSaid : Prop := peersAgainRow.holds Try.pinned (OpenSpec.ofChange peersAgainSpec)

/-- ITS FALSE NEIGHBOUR: 'it returns false'. Refute it at one input. -/
def peersAgainWrong : ChangeSpec := { name := "peersAgain", fn := fun _ => fun
  | [d1, d2] => { results := [.lit (.bool false)], args := [d1, d2] }
  | _ => none }
def PeersAgainWrongFalsely : Prop := peersAgainRow.holds Try.pinned (OpenSpec.ofChange peersAgainWrong)

/- THE SECOND FORM. 'bulk': how many values and letters a reading holds, each counted each time it is reached (what is shared counts as often as it is met; a slice's spare places count too). A statement '..UptoSaid' is the law's where the arguments, and the package variables that the reading takes, are together of bulk at most 1048576: NARROWER than '..Said'. Prove '..Said' where nothing that the law and all that it calls make is longer than what came in: it says more and counts as full. Else prove '..UptoSaid'. A law counts once. -/
mutual
def uptoBulk {H : Type} : DataW H → Nat
  | .lit (.string bytes) => bytes.length + 1
  | .lit _ => 1
  | .nil => 1
  | .ptr d => uptoBulk d + 1
  | .slice elems spare => uptoBulkAll elems + uptoBulkAll spare + 1
  | .agg parts => uptoBulkAll parts + 1
  | .iface _ d => uptoBulk d + 1
  | .map entries => uptoBulkEntries entries + 1
  | .held _ => 1
def uptoBulkAll {H : Type} : List (DataW H) → Nat
  | [] => 0
  | d :: r => uptoBulk d + uptoBulkAll r
def uptoBulkEntries {H : Type} : List (Lit × DataW H) → Nat
  | [] => 0
  | x :: r => uptoBulkEntry x + uptoBulkEntries r
def uptoBulkEntry {H : Type} : Lit × DataW H → Nat
  | (.string bytes, d) => bytes.length + uptoBulk d + 1
  | (_, d) => uptoBulk d + 1
 end
def uptoSmall : (H : Type) → List (DataW H) → Bool := fun _ ds => decide (uptoBulkAll ds ≤ 1048576)
def OpenSpec.upto (s : _root_.Go.ChangeSpec) : _root_.Go.OpenSpec := { _root_.Go.OpenSpec.ofChange s with cond := some uptoSmall }

/-- 'tithinglaw32.ViewsRises', WHERE WHAT IT READS IS OF BULK AT MOST 1048576: true; the input reads as it did. -/
def viewsRisesUptoRow : OpenClaim := { program := "ytgjglabfajbofaa", sum := "5a43051e68fd043cce45285b060efd6db0c6f48b735f9e20798456b8114cc34b", func := "tithing/tithinglaw32.ViewsRises", spec := "viewsRises", unfollowed := true, recurses := true, apart := false, narrowed := true }
def ViewsRisesUptoSaid : Prop := viewsRisesUptoRow.holds Try.pinned (OpenSpec.upto viewsRisesSpec)

/-- 'tithinglaw32.ViewsMost', WHERE WHAT IT READS IS OF BULK AT MOST 1048576: true; the input reads as it did. -/
def viewsMostUptoRow : OpenClaim := { program := "ytgjglabfajbofaa", sum := "5a43051e68fd043cce45285b060efd6db0c6f48b735f9e20798456b8114cc34b", func := "tithing/tithinglaw32.ViewsMost", spec := "viewsMost", unfollowed := true, recurses := true, apart := false, narrowed := true }
def ViewsMostUptoSaid : Prop := viewsMostUptoRow.holds Try.pinned (OpenSpec.upto viewsMostSpec)

/-- 'tithinglaw55.PeersTurns', WHERE WHAT IT READS IS OF BULK AT MOST 1048576: true; the input reads as it did. -/
def peersTurnsUptoRow : OpenClaim := { program := "ytgjglabfajbofaa", sum := "5a43051e68fd043cce45285b060efd6db0c6f48b735f9e20798456b8114cc34b", func := "tithing/tithinglaw55.PeersTurns", spec := "peersTurns", inPlace := ["slices.overlaps[tithing/api.Peer]"], unfollowed := true, recurses := true, apart := false, narrowed := true }
def PeersTurnsUptoSaid : Prop := peersTurnsUptoRow.holds Try.pinned (OpenSpec.upto peersTurnsSpec)

/-- 'tithinglaw55.PeersAgain', WHERE WHAT IT READS IS OF BULK AT MOST 1048576: true; the input reads as it did. -/
def peersAgainUptoRow : OpenClaim := { program := "ytgjglabfajbofaa", sum := "5a43051e68fd043cce45285b060efd6db0c6f48b735f9e20798456b8114cc34b", func := "tithing/tithinglaw55.PeersAgain", spec := "peersAgain", inPlace := ["slices.overlaps[tithing/api.Peer]"], unfollowed := true, recurses := true, apart := false, narrowed := true }
def PeersAgainUptoSaid : Prop := peersAgainUptoRow.holds Try.pinned (OpenSpec.upto peersAgainSpec)

end Rows
end Go.Proofs.Ytgjglabfajbofaa
