/-
  No cell of these rows narrows 'for every input' (looked for: loops, veiled, ifaces, maps, wideKeys, modest, calm, conditions, laid).
  DERIVED. THE GIVEN ROWS OF THIS SEAT. 4 by the template 'for every input the law returns true; each argument reads behind the call as it read before'; 0 by the template 'total and deterministic' (their statements: YtidbkkebkgeioaaTotals.lean).
  GIVEN WITH THE SEED: the statements are not yours to turn. If you find one false, say at which input.
  Laid BY PROGRAM, IN A SANDBOX (cutbox-rows.mjs): the forced cells as the released guide's own fill.sh prints them over the translation 3f49d3e76d439345… (all of the seat's roots in one cut). By AI agents, Wed Nov 11 2026. No macro, syntax, notation, axiom, sorry.
-/
import Derived.Test.YtidbkkebkgeioaaChecked
import GoSem.Claim
import GoSem.ClaimJoined
import GoSem.ClaimMapViews
import Derived.JoinedTies
import Derived.KernelRfl
namespace Go.Proofs.Ytidbkkebkgeioaa
/- THE CELL 'sum', in the pinned program and in every row, IS THE sha256 OF THE DUMP (.gsa) THAT YtidbkkebkgeioaaProg.lean LOADS. Nothing in Lean hashes anything: it is a label: what it is worth is what the hold of that sum in a sandbox is worth. -/
noncomputable def Try.pinned : Pinned := { name := "ytidbkkebkgeioaa", sum := "3f49d3e76d4393458299ae4bdc52d11a8220e7be9c0de1e8125dc8cfc2cabee6", checked := Try.checked }
namespace Rows
def none {H : Type} : Left H := { results := [], args := [] }

/-- 'weftlinelaw02.SerialLists': WHATEVER THE INPUT: true; the input reads as it did. -/
def serialListsSpec : ChangeSpec := { name := "serialLists", fn := fun _ => fun
  | [d1, d2, d3] => { results := [.lit (.bool true)], args := [d1, d2, d3] }
  | _ => none }
def serialListsRow : OpenClaim := { program := "ytidbkkebkgeioaa", sum := "3f49d3e76d4393458299ae4bdc52d11a8220e7be9c0de1e8125dc8cfc2cabee6", func := "weftline/weftlinelaw02.SerialLists", spec := "serialLists", unfollowed := true, recurses := true, apart := false }
def SerialListsSaid : Prop := serialListsRow.holds Try.pinned (OpenSpec.ofChange serialListsSpec)

/-- ITS FALSE NEIGHBOUR: 'it returns false'. Refute it at one input. -/
def serialListsWrong : ChangeSpec := { name := "serialLists", fn := fun _ => fun
  | [d1, d2, d3] => { results := [.lit (.bool false)], args := [d1, d2, d3] }
  | _ => none }
def SerialListsWrongFalsely : Prop := serialListsRow.holds Try.pinned (OpenSpec.ofChange serialListsWrong)

/-- 'weftlinelaw15.TimerDues': WHATEVER THE INPUT: true; the input reads as it did. -/
def timerDuesSpec : ChangeSpec := { name := "timerDues", fn := fun _ => fun
  | [d1, d2] => { results := [.lit (.bool true)], args := [d1, d2] }
  | _ => none }
def timerDuesRow : OpenClaim := { program := "ytidbkkebkgeioaa", sum := "3f49d3e76d4393458299ae4bdc52d11a8220e7be9c0de1e8125dc8cfc2cabee6", func := "weftline/weftlinelaw15.TimerDues", spec := "timerDues", inPlace := ["maps.clone"], unfollowed := true, recurses := true, apart := false }
def TimerDuesSaid : Prop := timerDuesRow.holds Try.pinned (OpenSpec.ofChange timerDuesSpec)

/-- ITS FALSE NEIGHBOUR: 'it returns false'. Refute it at one input. -/
def timerDuesWrong : ChangeSpec := { name := "timerDues", fn := fun _ => fun
  | [d1, d2] => { results := [.lit (.bool false)], args := [d1, d2] }
  | _ => none }
def TimerDuesWrongFalsely : Prop := timerDuesRow.holds Try.pinned (OpenSpec.ofChange timerDuesWrong)

/-- 'weftlinelaw15.TimerMoves': WHATEVER THE INPUT: true; the input reads as it did. -/
def timerMovesSpec : ChangeSpec := { name := "timerMoves", fn := fun _ => fun
  | [d1, d2, d3] => { results := [.lit (.bool true)], args := [d1, d2, d3] }
  | _ => none }
def timerMovesRow : OpenClaim := { program := "ytidbkkebkgeioaa", sum := "3f49d3e76d4393458299ae4bdc52d11a8220e7be9c0de1e8125dc8cfc2cabee6", func := "weftline/weftlinelaw15.TimerMoves", spec := "timerMoves", inPlace := ["maps.clone"], unfollowed := true, recurses := true, apart := false }
def TimerMovesSaid : Prop := timerMovesRow.holds Try.pinned (OpenSpec.ofChange timerMovesSpec)

/-- ITS FALSE NEIGHBOUR: 'it returns false'. Refute it at one input. -/
def timerMovesWrong : ChangeSpec := { name := "timerMoves", fn := fun _ => fun
  | [d1, d2, d3] => { results := [.lit (.bool false)], args := [d1, d2, d3] }
  | _ => none }
def TimerMovesWrongFalsely : Prop := timerMovesRow.holds Try.pinned (OpenSpec.ofChange timerMovesWrong)

/-- 'weftlinelaw15.TimerNext': WHATEVER THE INPUT: true; the input reads as it did. -/
def timerNextSpec : ChangeSpec := { name := "timerNext", fn := fun _ => fun
  | [d] => { results := [.lit (.bool true)], args := [d] }
  | _ => none }
def timerNextRow : OpenClaim := { program := "ytidbkkebkgeioaa", sum := "3f49d3e76d4393458299ae4bdc52d11a8220e7be9c0de1e8125dc8cfc2cabee6", func := "weftline/weftlinelaw15.TimerNext", spec := "timerNext", inPlace := ["maps.clone"], unfollowed := true, recurses := true, apart := false }
def TimerNextSaid : Prop := timerNextRow.holds Try.pinned (OpenSpec.ofChange timerNextSpec)

/-- ITS FALSE NEIGHBOUR: 'it returns false'. Refute it at one input. -/
def timerNextWrong : ChangeSpec := { name := "timerNext", fn := fun _ => fun
  | [d] => { results := [.lit (.bool false)], args := [d] }
  | _ => none }
def TimerNextWrongFalsely : Prop := timerNextRow.holds Try.pinned (OpenSpec.ofChange timerNextWrong)

/- THE SECOND FORM. 'bulk': how many values and letters a reading holds, each counted each time it is reached (what is shared counts as often as it is met; a slice's spare places count too). A statement '..UptoSaid' is the law's where the arguments, and the package variables that the reading takes, are together of bulk at most 1048576: NARROWER than '..Said'. Prove '..Said' where nothing that the law and all that it calls make is longer than what came in: it says more and counts as full. Else prove '..UptoSaid'. A law counts once. -/
mutual
def uptoBulk {H : Type} : DataW H → Nat
  | .lit (.string bytes) => bytes.length + 1
  | .lit _ => 1
  | .nil => 1
  | .ptr d => uptoBulk d + 1
  | .slice elems spare => uptoBulkAll elems + uptoBulkAll spare + 1
  | .agg parts => uptoBulkAll parts + 1
  | .iface _ d => uptoBulk d + 1
  | .map entries => uptoBulkEntries entries + 1
  | .held _ => 1
def uptoBulkAll {H : Type} : List (DataW H) → Nat
  | [] => 0
  | d :: r => uptoBulk d + uptoBulkAll r
def uptoBulkEntries {H : Type} : List (Lit × DataW H) → Nat
  | [] => 0
  | x :: r => uptoBulkEntry x + uptoBulkEntries r
def uptoBulkEntry {H : Type} : Lit × DataW H → Nat
  | (.string bytes, d) => bytes.length + uptoBulk d + 1
  | (_, d) => uptoBulk d + 1
 end
def uptoSmall : (H : Type) → List (DataW H) → Bool := fun _ ds => decide (uptoBulkAll ds ≤ 1048576)
def OpenSpec.upto (s : _root_.Go.ChangeSpec) : _root_.Go.OpenSpec := { _root_.Go.OpenSpec.ofChange s with cond := some uptoSmall }

/-- 'weftlinelaw02.SerialLists', WHERE WHAT IT READS IS OF BULK AT MOST 1048576: true; the input reads as it did. -/
def serialListsUptoRow : OpenClaim := { program := "ytidbkkebkgeioaa", sum := "3f49d3e76d4393458299ae4bdc52d11a8220e7be9c0de1e8125dc8cfc2cabee6", func := "weftline/weftlinelaw02.SerialLists", spec := "serialLists", unfollowed := true, recurses := true, apart := false, narrowed := true }
def SerialListsUptoSaid : Prop := serialListsUptoRow.holds Try.pinned (OpenSpec.upto serialListsSpec)

/-- 'weftlinelaw15.TimerDues', WHERE WHAT IT READS IS OF BULK AT MOST 1048576: true; the input reads as it did. -/
def timerDuesUptoRow : OpenClaim := { program := "ytidbkkebkgeioaa", sum := "3f49d3e76d4393458299ae4bdc52d11a8220e7be9c0de1e8125dc8cfc2cabee6", func := "weftline/weftlinelaw15.TimerDues", spec := "timerDues", inPlace := ["maps.clone"], unfollowed := true, recurses := true, apart := false, narrowed := true }
def TimerDuesUptoSaid : Prop := timerDuesUptoRow.holds Try.pinned (OpenSpec.upto timerDuesSpec)

/-- 'weftlinelaw15.TimerMoves', WHERE WHAT IT READS IS OF BULK AT MOST 1048576: true; the input reads as it did. -/
def timerMovesUptoRow : OpenClaim := { program := "ytidbkkebkgeioaa", sum := "3f49d3e76d4393458299ae4bdc52d11a8220e7be9c0de1e8125dc8cfc2cabee6", func := "weftline/weftlinelaw15.TimerMoves", spec := "timerMoves", inPlace := ["maps.clone"], unfollowed := true, recurses := true, apart := false, narrowed := true }
def TimerMovesUptoSaid : Prop := timerMovesUptoRow.holds Try.pinned (OpenSpec.upto timerMovesSpec)

/-- 'weftlinelaw15.TimerNext', WHERE WHAT IT READS IS OF BULK AT MOST 1048576: true; the input reads as it did. -/
def timerNextUptoRow : OpenClaim := { program := "ytidbkkebkgeioaa", sum := "3f49d3e76d4393458299ae4bdc52d11a8220e7be9c0de1e8125dc8cfc2cabee6", func := "weftline/weftlinelaw15.TimerNext", spec := "timerNext", inPlace := ["maps.clone"], unfollowed := true, recurses := true, apart := false, narrowed := true }
def TimerNextUptoSaid : Prop := timerNextUptoRow.holds Try.pinned (OpenSpec.upto timerNextSpec)

end Rows
end Go.Proofs.Ytidbkkebkgeioaa
