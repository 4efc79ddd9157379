/-
  No cell of these rows narrows 'for every input' (looked for: loops, veiled, ifaces, maps, wideKeys, modest, calm, conditions, laid).
  DERIVED. THE GIVEN ROWS OF THIS SEAT. 5 by the template 'for every input the law returns true; each argument reads behind the call as it read before'; 0 by the template 'total and deterministic' (their statements: YtfpmgcpdjlkomaaTotals.lean).
  GIVEN WITH THE SEED: the statements are not yours to turn. If you find one false, say at which input.
  Laid BY PROGRAM, IN A SANDBOX (cutbox-rows.mjs): the forced cells as the released guide's own fill.sh prints them over the translation e6bbfcef83d1e49a… (all of the seat's roots in one cut). By AI agents, Wed Nov 11 2026. No macro, syntax, notation, axiom, sorry.
-/
import Derived.Test.YtfpmgcpdjlkomaaChecked
import GoSem.Claim
import GoSem.ClaimJoined
import GoSem.ClaimMapViews
import Derived.JoinedTies
import Derived.KernelRfl
namespace Go.Proofs.Ytfpmgcpdjlkomaa
/- THE CELL 'sum', in the pinned program and in every row, IS THE sha256 OF THE DUMP (.gsa) THAT YtfpmgcpdjlkomaaProg.lean LOADS. Nothing in Lean hashes anything: it is a label: what it is worth is what the hold of that sum in a sandbox is worth. -/
noncomputable def Try.pinned : Pinned := { name := "ytfpmgcpdjlkomaa", sum := "e6bbfcef83d1e49a6e762d62d4e866c82905bfc84a0fc1c560eacdd56327af8d", checked := Try.checked }
namespace Rows
def none {H : Type} : Left H := { results := [], args := [] }

/-- 'phalanxlaw28.LogOwns': WHATEVER THE INPUT: true; the input reads as it did. -/
def logOwnsSpec : ChangeSpec := { name := "logOwns", fn := fun _ => fun
  | [d] => { results := [.lit (.bool true)], args := [d] }
  | _ => none }
def logOwnsRow : OpenClaim := { program := "ytfpmgcpdjlkomaa", sum := "e6bbfcef83d1e49a6e762d62d4e866c82905bfc84a0fc1c560eacdd56327af8d", func := "phalanx/phalanxlaw28.LogOwns", spec := "logOwns", unfollowed := true, recurses := true, plainKeys := false, apart := false }
def LogOwnsSaid : Prop := logOwnsRow.holds Try.pinned (OpenSpec.ofChange logOwnsSpec)

/-- ITS FALSE NEIGHBOUR: 'it returns false'. Refute it at one input. -/
def logOwnsWrong : ChangeSpec := { name := "logOwns", fn := fun _ => fun
  | [d] => { results := [.lit (.bool false)], args := [d] }
  | _ => none }
def LogOwnsWrongFalsely : Prop := logOwnsRow.holds Try.pinned (OpenSpec.ofChange logOwnsWrong)

/-- 'phalanxlaw28.LogOrder': WHATEVER THE INPUT: true; the input reads as it did. -/
def logOrderSpec : ChangeSpec := { name := "logOrder", fn := fun _ => fun
  | [d] => { results := [.lit (.bool true)], args := [d] }
  | _ => none }
def logOrderRow : OpenClaim := { program := "ytfpmgcpdjlkomaa", sum := "e6bbfcef83d1e49a6e762d62d4e866c82905bfc84a0fc1c560eacdd56327af8d", func := "phalanx/phalanxlaw28.LogOrder", spec := "logOrder", unfollowed := true, recurses := true, plainKeys := false, apart := false }
def LogOrderSaid : Prop := logOrderRow.holds Try.pinned (OpenSpec.ofChange logOrderSpec)

/-- ITS FALSE NEIGHBOUR: 'it returns false'. Refute it at one input. -/
def logOrderWrong : ChangeSpec := { name := "logOrder", fn := fun _ => fun
  | [d] => { results := [.lit (.bool false)], args := [d] }
  | _ => none }
def LogOrderWrongFalsely : Prop := logOrderRow.holds Try.pinned (OpenSpec.ofChange logOrderWrong)

/-- 'phalanxlaw28.LogFull': WHATEVER THE INPUT: true; the input reads as it did. -/
def logFullSpec : ChangeSpec := { name := "logFull", fn := fun _ => fun
  | [d] => { results := [.lit (.bool true)], args := [d] }
  | _ => none }
def logFullRow : OpenClaim := { program := "ytfpmgcpdjlkomaa", sum := "e6bbfcef83d1e49a6e762d62d4e866c82905bfc84a0fc1c560eacdd56327af8d", func := "phalanx/phalanxlaw28.LogFull", spec := "logFull", unfollowed := true, recurses := true, plainKeys := false, apart := false }
def LogFullSaid : Prop := logFullRow.holds Try.pinned (OpenSpec.ofChange logFullSpec)

/-- ITS FALSE NEIGHBOUR: 'it returns false'. Refute it at one input. -/
def logFullWrong : ChangeSpec := { name := "logFull", fn := fun _ => fun
  | [d] => { results := [.lit (.bool false)], args := [d] }
  | _ => none }
def LogFullWrongFalsely : Prop := logFullRow.holds Try.pinned (OpenSpec.ofChange logFullWrong)

/-- 'phalanxlaw28.LogActs': WHATEVER THE INPUT: true; the input reads as it did. -/
def logActsSpec : ChangeSpec := { name := "logActs", fn := fun _ => fun
  | [d1, d2] => { results := [.lit (.bool true)], args := [d1, d2] }
  | _ => none }
def logActsRow : OpenClaim := { program := "ytfpmgcpdjlkomaa", sum := "e6bbfcef83d1e49a6e762d62d4e866c82905bfc84a0fc1c560eacdd56327af8d", func := "phalanx/phalanxlaw28.LogActs", spec := "logActs", unfollowed := true, recurses := true, plainKeys := false, apart := false }
def LogActsSaid : Prop := logActsRow.holds Try.pinned (OpenSpec.ofChange logActsSpec)

/-- ITS FALSE NEIGHBOUR: 'it returns false'. Refute it at one input. -/
def logActsWrong : ChangeSpec := { name := "logActs", fn := fun _ => fun
  | [d1, d2] => { results := [.lit (.bool false)], args := [d1, d2] }
  | _ => none }
def LogActsWrongFalsely : Prop := logActsRow.holds Try.pinned (OpenSpec.ofChange logActsWrong)

/-- 'phalanxlaw28.LogNobody': WHATEVER THE INPUT: true; the input reads as it did. -/
def logNobodySpec : ChangeSpec := { name := "logNobody", fn := fun _ => fun
  | [d] => { results := [.lit (.bool true)], args := [d] }
  | _ => none }
def logNobodyRow : OpenClaim := { program := "ytfpmgcpdjlkomaa", sum := "e6bbfcef83d1e49a6e762d62d4e866c82905bfc84a0fc1c560eacdd56327af8d", func := "phalanx/phalanxlaw28.LogNobody", spec := "logNobody", unfollowed := true, recurses := true, plainKeys := false, apart := false }
def LogNobodySaid : Prop := logNobodyRow.holds Try.pinned (OpenSpec.ofChange logNobodySpec)

/-- ITS FALSE NEIGHBOUR: 'it returns false'. Refute it at one input. -/
def logNobodyWrong : ChangeSpec := { name := "logNobody", fn := fun _ => fun
  | [d] => { results := [.lit (.bool false)], args := [d] }
  | _ => none }
def LogNobodyWrongFalsely : Prop := logNobodyRow.holds Try.pinned (OpenSpec.ofChange logNobodyWrong)

/- THE SECOND FORM. 'bulk': how many values and letters a reading holds, each counted each time it is reached (what is shared counts as often as it is met; a slice's spare places count too). A statement '..UptoSaid' is the law's where the arguments, and the package variables that the reading takes, are together of bulk at most 1048576: NARROWER than '..Said'. Prove '..Said' where nothing that the law and all that it calls make is longer than what came in: it says more and counts as full. Else prove '..UptoSaid'. A law counts once. -/
mutual
def uptoBulk {H : Type} : DataW H → Nat
  | .lit (.string bytes) => bytes.length + 1
  | .lit _ => 1
  | .nil => 1
  | .ptr d => uptoBulk d + 1
  | .slice elems spare => uptoBulkAll elems + uptoBulkAll spare + 1
  | .agg parts => uptoBulkAll parts + 1
  | .iface _ d => uptoBulk d + 1
  | .map entries => uptoBulkEntries entries + 1
  | .held _ => 1
def uptoBulkAll {H : Type} : List (DataW H) → Nat
  | [] => 0
  | d :: r => uptoBulk d + uptoBulkAll r
def uptoBulkEntries {H : Type} : List (Lit × DataW H) → Nat
  | [] => 0
  | x :: r => uptoBulkEntry x + uptoBulkEntries r
def uptoBulkEntry {H : Type} : Lit × DataW H → Nat
  | (.string bytes, d) => bytes.length + uptoBulk d + 1
  | (_, d) => uptoBulk d + 1
 end
def uptoSmall : (H : Type) → List (DataW H) → Bool := fun _ ds => decide (uptoBulkAll ds ≤ 1048576)
def OpenSpec.upto (s : _root_.Go.ChangeSpec) : _root_.Go.OpenSpec := { _root_.Go.OpenSpec.ofChange s with cond := some uptoSmall }

/-- 'phalanxlaw28.LogOwns', WHERE WHAT IT READS IS OF BULK AT MOST 1048576: true; the input reads as it did. -/
def logOwnsUptoRow : OpenClaim := { program := "ytfpmgcpdjlkomaa", sum := "e6bbfcef83d1e49a6e762d62d4e866c82905bfc84a0fc1c560eacdd56327af8d", func := "phalanx/phalanxlaw28.LogOwns", spec := "logOwns", unfollowed := true, recurses := true, plainKeys := false, apart := false, narrowed := true }
def LogOwnsUptoSaid : Prop := logOwnsUptoRow.holds Try.pinned (OpenSpec.upto logOwnsSpec)

/-- 'phalanxlaw28.LogOrder', WHERE WHAT IT READS IS OF BULK AT MOST 1048576: true; the input reads as it did. -/
def logOrderUptoRow : OpenClaim := { program := "ytfpmgcpdjlkomaa", sum := "e6bbfcef83d1e49a6e762d62d4e866c82905bfc84a0fc1c560eacdd56327af8d", func := "phalanx/phalanxlaw28.LogOrder", spec := "logOrder", unfollowed := true, recurses := true, plainKeys := false, apart := false, narrowed := true }
def LogOrderUptoSaid : Prop := logOrderUptoRow.holds Try.pinned (OpenSpec.upto logOrderSpec)

/-- 'phalanxlaw28.LogFull', WHERE WHAT IT READS IS OF BULK AT MOST 1048576: true; the input reads as it did. -/
def logFullUptoRow : OpenClaim := { program := "ytfpmgcpdjlkomaa", sum := "e6bbfcef83d1e49a6e762d62d4e866c82905bfc84a0fc1c560eacdd56327af8d", func := "phalanx/phalanxlaw28.LogFull", spec := "logFull", unfollowed := true, recurses := true, plainKeys := false, apart := false, narrowed := true }
def LogFullUptoSaid : Prop := logFullUptoRow.holds Try.pinned (OpenSpec.upto logFullSpec)

/-- 'phalanxlaw28.LogActs', WHERE WHAT IT READS IS OF BULK AT MOST 1048576: true; the input reads as it did. -/
def logActsUptoRow : OpenClaim := { program := "ytfpmgcpdjlkomaa", sum := "e6bbfcef83d1e49a6e762d62d4e866c82905bfc84a0fc1c560eacdd56327af8d", func := "phalanx/phalanxlaw28.LogActs", spec := "logActs", unfollowed := true, recurses := true, plainKeys := false, apart := false, narrowed := true }
def LogActsUptoSaid : Prop := logActsUptoRow.holds Try.pinned (OpenSpec.upto logActsSpec)

/-- 'phalanxlaw28.LogNobody', WHERE WHAT IT READS IS OF BULK AT MOST 1048576: true; the input reads as it did. -/
def logNobodyUptoRow : OpenClaim := { program := "ytfpmgcpdjlkomaa", sum := "e6bbfcef83d1e49a6e762d62d4e866c82905bfc84a0fc1c560eacdd56327af8d", func := "phalanx/phalanxlaw28.LogNobody", spec := "logNobody", unfollowed := true, recurses := true, plainKeys := false, apart := false, narrowed := true }
def LogNobodyUptoSaid : Prop := logNobodyUptoRow.holds Try.pinned (OpenSpec.upto logNobodySpec)

end Rows
end Go.Proofs.Ytfpmgcpdjlkomaa
