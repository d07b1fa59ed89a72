/-
  No cell of these rows narrows 'for every input' (looked for: loops, veiled, ifaces, maps, wideKeys, modest, calm, conditions, laid).
  DERIVED. THE GIVEN ROWS OF THIS SEAT. 10 by the template 'for every input the law returns true; each argument reads behind the call as it read before'; 0 by the template 'total and deterministic' (their statements: YtnlhlffciigcnaaTotals.lean).
  GIVEN WITH THE SEED: the statements are not yours to turn. If you find one false, say at which input.
  Laid BY PROGRAM, IN A SANDBOX (cutbox-rows.mjs): the forced cells as the released guide's own fill.sh prints them over the translation e965eaf91ec663b3… (all of the seat's roots in one cut). By AI agents, Wed Nov 11 2026. No macro, syntax, notation, axiom, sorry.
-/
import Derived.Test.YtnlhlffciigcnaaChecked
import GoSem.Claim
import GoSem.ClaimJoined
import GoSem.ClaimMapViews
import Derived.JoinedTies
import Derived.KernelRfl
namespace Go.Proofs.Ytnlhlffciigcnaa
/- THE CELL 'sum', in the pinned program and in every row, IS THE sha256 OF THE DUMP (.gsa) THAT YtnlhlffciigcnaaProg.lean LOADS. Nothing in Lean hashes anything: it is a label: what it is worth is what the hold of that sum in a sandbox is worth. -/
noncomputable def Try.pinned : Pinned := { name := "ytnlhlffciigcnaa", sum := "e965eaf91ec663b3a8f50f104a506476efbf390ddccbb4593f0c05ca543dcd46", checked := Try.checked }
namespace Rows
def none {H : Type} : Left H := { results := [], args := [] }

/-- 'weftlinelaw02.SerialLong': WHATEVER THE INPUT: true; the input reads as it did. -/
def serialLongSpec : ChangeSpec := { name := "serialLong", fn := fun _ => fun
  | [d1, d2, d3] => { results := [.lit (.bool true)], args := [d1, d2, d3] }
  | _ => none }
def serialLongRow : OpenClaim := { program := "ytnlhlffciigcnaa", sum := "e965eaf91ec663b3a8f50f104a506476efbf390ddccbb4593f0c05ca543dcd46", func := "weftline/weftlinelaw02.SerialLong", spec := "serialLong", apart := false }
def SerialLongSaid : Prop := serialLongRow.holds Try.pinned (OpenSpec.ofChange serialLongSpec)

/-- ITS FALSE NEIGHBOUR: 'it returns false'. Refute it at one input. -/
def serialLongWrong : ChangeSpec := { name := "serialLong", fn := fun _ => fun
  | [d1, d2, d3] => { results := [.lit (.bool false)], args := [d1, d2, d3] }
  | _ => none }
def SerialLongWrongFalsely : Prop := serialLongRow.holds Try.pinned (OpenSpec.ofChange serialLongWrong)

/-- 'weftlinelaw02.SerialShort': WHATEVER THE INPUT: true; the input reads as it did. -/
def serialShortSpec : ChangeSpec := { name := "serialShort", fn := fun _ => fun
  | [d1, d2, d3] => { results := [.lit (.bool true)], args := [d1, d2, d3] }
  | _ => none }
def serialShortRow : OpenClaim := { program := "ytnlhlffciigcnaa", sum := "e965eaf91ec663b3a8f50f104a506476efbf390ddccbb4593f0c05ca543dcd46", func := "weftline/weftlinelaw02.SerialShort", spec := "serialShort", apart := false }
def SerialShortSaid : Prop := serialShortRow.holds Try.pinned (OpenSpec.ofChange serialShortSpec)

/-- ITS FALSE NEIGHBOUR: 'it returns false'. Refute it at one input. -/
def serialShortWrong : ChangeSpec := { name := "serialShort", fn := fun _ => fun
  | [d1, d2, d3] => { results := [.lit (.bool false)], args := [d1, d2, d3] }
  | _ => none }
def SerialShortWrongFalsely : Prop := serialShortRow.holds Try.pinned (OpenSpec.ofChange serialShortWrong)

/-- 'weftlinelaw02.SerialTwo': WHATEVER THE INPUT: true; the input reads as it did. -/
def serialTwoSpec : ChangeSpec := { name := "serialTwo", fn := fun _ => fun
  | [d1, d2, d3] => { results := [.lit (.bool true)], args := [d1, d2, d3] }
  | _ => none }
def serialTwoRow : OpenClaim := { program := "ytnlhlffciigcnaa", sum := "e965eaf91ec663b3a8f50f104a506476efbf390ddccbb4593f0c05ca543dcd46", func := "weftline/weftlinelaw02.SerialTwo", spec := "serialTwo", apart := false }
def SerialTwoSaid : Prop := serialTwoRow.holds Try.pinned (OpenSpec.ofChange serialTwoSpec)

/-- ITS FALSE NEIGHBOUR: 'it returns false'. Refute it at one input. -/
def serialTwoWrong : ChangeSpec := { name := "serialTwo", fn := fun _ => fun
  | [d1, d2, d3] => { results := [.lit (.bool false)], args := [d1, d2, d3] }
  | _ => none }
def SerialTwoWrongFalsely : Prop := serialTwoRow.holds Try.pinned (OpenSpec.ofChange serialTwoWrong)

/-- 'weftlinelaw02.SerialLeft': WHATEVER THE INPUT: true; the input reads as it did. -/
def serialLeftSpec : ChangeSpec := { name := "serialLeft", fn := fun _ => fun
  | [d] => { results := [.lit (.bool true)], args := [d] }
  | _ => none }
def serialLeftRow : OpenClaim := { program := "ytnlhlffciigcnaa", sum := "e965eaf91ec663b3a8f50f104a506476efbf390ddccbb4593f0c05ca543dcd46", func := "weftline/weftlinelaw02.SerialLeft", spec := "serialLeft", unfollowed := true, recurses := true, apart := false }
def SerialLeftSaid : Prop := serialLeftRow.holds Try.pinned (OpenSpec.ofChange serialLeftSpec)

/-- ITS FALSE NEIGHBOUR: 'it returns false'. Refute it at one input. -/
def serialLeftWrong : ChangeSpec := { name := "serialLeft", fn := fun _ => fun
  | [d] => { results := [.lit (.bool false)], args := [d] }
  | _ => none }
def SerialLeftWrongFalsely : Prop := serialLeftRow.holds Try.pinned (OpenSpec.ofChange serialLeftWrong)

/-- 'weftlinelaw28.RebindPlans': WHATEVER THE INPUT: true; the input reads as it did. -/
def rebindPlansSpec : ChangeSpec := { name := "rebindPlans", fn := fun _ => fun
  | [d1, d2] => { results := [.lit (.bool true)], args := [d1, d2] }
  | _ => none }
def rebindPlansRow : OpenClaim := { program := "ytnlhlffciigcnaa", sum := "e965eaf91ec663b3a8f50f104a506476efbf390ddccbb4593f0c05ca543dcd46", func := "weftline/weftlinelaw28.RebindPlans", spec := "rebindPlans", apart := false }
def RebindPlansSaid : Prop := rebindPlansRow.holds Try.pinned (OpenSpec.ofChange rebindPlansSpec)

/-- ITS FALSE NEIGHBOUR: 'it returns false'. Refute it at one input. -/
def rebindPlansWrong : ChangeSpec := { name := "rebindPlans", fn := fun _ => fun
  | [d1, d2] => { results := [.lit (.bool false)], args := [d1, d2] }
  | _ => none }
def RebindPlansWrongFalsely : Prop := rebindPlansRow.holds Try.pinned (OpenSpec.ofChange rebindPlansWrong)

/-- 'weftlinelaw16.FragCuts': WHATEVER THE INPUT: true; the input reads as it did. -/
def fragCutsSpec : ChangeSpec := { name := "fragCuts", fn := fun _ => fun
  | [d1, d2] => { results := [.lit (.bool true)], args := [d1, d2] }
  | _ => none }
def fragCutsRow : OpenClaim := { program := "ytnlhlffciigcnaa", sum := "e965eaf91ec663b3a8f50f104a506476efbf390ddccbb4593f0c05ca543dcd46", func := "weftline/weftlinelaw16.FragCuts", spec := "fragCuts", unfollowed := true, recurses := true, apart := false }
def FragCutsSaid : Prop := fragCutsRow.holds Try.pinned (OpenSpec.ofChange fragCutsSpec)

/-- ITS FALSE NEIGHBOUR: 'it returns false'. Refute it at one input. -/
def fragCutsWrong : ChangeSpec := { name := "fragCuts", fn := fun _ => fun
  | [d1, d2] => { results := [.lit (.bool false)], args := [d1, d2] }
  | _ => none }
def FragCutsWrongFalsely : Prop := fragCutsRow.holds Try.pinned (OpenSpec.ofChange fragCutsWrong)

/-- 'weftlinelaw16.FragWholes': WHATEVER THE INPUT: true; the input reads as it did. -/
def fragWholesSpec : ChangeSpec := { name := "fragWholes", fn := fun _ => fun
  | [d1, d2, d3] => { results := [.lit (.bool true)], args := [d1, d2, d3] }
  | _ => none }
def fragWholesRow : OpenClaim := { program := "ytnlhlffciigcnaa", sum := "e965eaf91ec663b3a8f50f104a506476efbf390ddccbb4593f0c05ca543dcd46", func := "weftline/weftlinelaw16.FragWholes", spec := "fragWholes", unfollowed := true, recurses := true, apart := false }
def FragWholesSaid : Prop := fragWholesRow.holds Try.pinned (OpenSpec.ofChange fragWholesSpec)

/-- ITS FALSE NEIGHBOUR: 'it returns false'. Refute it at one input. -/
def fragWholesWrong : ChangeSpec := { name := "fragWholes", fn := fun _ => fun
  | [d1, d2, d3] => { results := [.lit (.bool false)], args := [d1, d2, d3] }
  | _ => none }
def FragWholesWrongFalsely : Prop := fragWholesRow.holds Try.pinned (OpenSpec.ofChange fragWholesWrong)

/-- 'weftlinelaw16.FragGroups': WHATEVER THE INPUT: true; the input reads as it did. -/
def fragGroupsSpec : ChangeSpec := { name := "fragGroups", fn := fun _ => fun
  | [d1, d2] => { results := [.lit (.bool true)], args := [d1, d2] }
  | _ => none }
def fragGroupsRow : OpenClaim := { program := "ytnlhlffciigcnaa", sum := "e965eaf91ec663b3a8f50f104a506476efbf390ddccbb4593f0c05ca543dcd46", func := "weftline/weftlinelaw16.FragGroups", spec := "fragGroups", unfollowed := true, recurses := true, apart := false }
def FragGroupsSaid : Prop := fragGroupsRow.holds Try.pinned (OpenSpec.ofChange fragGroupsSpec)

/-- ITS FALSE NEIGHBOUR: 'it returns false'. Refute it at one input. -/
def fragGroupsWrong : ChangeSpec := { name := "fragGroups", fn := fun _ => fun
  | [d1, d2] => { results := [.lit (.bool false)], args := [d1, d2] }
  | _ => none }
def FragGroupsWrongFalsely : Prop := fragGroupsRow.holds Try.pinned (OpenSpec.ofChange fragGroupsWrong)

/-- 'weftlinelaw16.FragRound': WHATEVER THE INPUT: true; the input reads as it did. -/
def fragRoundSpec : ChangeSpec := { name := "fragRound", fn := fun _ => fun
  | [d1, d2] => { results := [.lit (.bool true)], args := [d1, d2] }
  | _ => none }
def fragRoundRow : OpenClaim := { program := "ytnlhlffciigcnaa", sum := "e965eaf91ec663b3a8f50f104a506476efbf390ddccbb4593f0c05ca543dcd46", func := "weftline/weftlinelaw16.FragRound", spec := "fragRound", unfollowed := true, recurses := true, apart := false }
def FragRoundSaid : Prop := fragRoundRow.holds Try.pinned (OpenSpec.ofChange fragRoundSpec)

/-- ITS FALSE NEIGHBOUR: 'it returns false'. Refute it at one input. -/
def fragRoundWrong : ChangeSpec := { name := "fragRound", fn := fun _ => fun
  | [d1, d2] => { results := [.lit (.bool false)], args := [d1, d2] }
  | _ => none }
def FragRoundWrongFalsely : Prop := fragRoundRow.holds Try.pinned (OpenSpec.ofChange fragRoundWrong)

/-- 'weftlinelaw20.ReasmMixes': WHATEVER THE INPUT: true; the input reads as it did. -/
def reasmMixesSpec : ChangeSpec := { name := "reasmMixes", fn := fun _ => fun
  | [d] => { results := [.lit (.bool true)], args := [d] }
  | _ => none }
def reasmMixesRow : OpenClaim := { program := "ytnlhlffciigcnaa", sum := "e965eaf91ec663b3a8f50f104a506476efbf390ddccbb4593f0c05ca543dcd46", func := "weftline/weftlinelaw20.ReasmMixes", spec := "reasmMixes", unfollowed := true, recurses := true, apart := false }
def ReasmMixesSaid : Prop := reasmMixesRow.holds Try.pinned (OpenSpec.ofChange reasmMixesSpec)

/-- ITS FALSE NEIGHBOUR: 'it returns false'. Refute it at one input. -/
def reasmMixesWrong : ChangeSpec := { name := "reasmMixes", fn := fun _ => fun
  | [d] => { results := [.lit (.bool false)], args := [d] }
  | _ => none }
def ReasmMixesWrongFalsely : Prop := reasmMixesRow.holds Try.pinned (OpenSpec.ofChange reasmMixesWrong)

/- THE SECOND FORM. 'bulk': how many values and letters a reading holds, each counted each time it is reached (what is shared counts as often as it is met; a slice's spare places count too). A statement '..UptoSaid' is the law's where the arguments, and the package variables that the reading takes, are together of bulk at most 1048576: NARROWER than '..Said'. Prove '..Said' where nothing that the law and all that it calls make is longer than what came in: it says more and counts as full. Else prove '..UptoSaid'. A law counts once. -/
mutual
def uptoBulk {H : Type} : DataW H → Nat
  | .lit (.string bytes) => bytes.length + 1
  | .lit _ => 1
  | .nil => 1
  | .ptr d => uptoBulk d + 1
  | .slice elems spare => uptoBulkAll elems + uptoBulkAll spare + 1
  | .agg parts => uptoBulkAll parts + 1
  | .iface _ d => uptoBulk d + 1
  | .map entries => uptoBulkEntries entries + 1
  | .held _ => 1
def uptoBulkAll {H : Type} : List (DataW H) → Nat
  | [] => 0
  | d :: r => uptoBulk d + uptoBulkAll r
def uptoBulkEntries {H : Type} : List (Lit × DataW H) → Nat
  | [] => 0
  | x :: r => uptoBulkEntry x + uptoBulkEntries r
def uptoBulkEntry {H : Type} : Lit × DataW H → Nat
  | (.string bytes, d) => bytes.length + uptoBulk d + 1
  | (_, d) => uptoBulk d + 1
 end
def uptoSmall : (H : Type) → List (DataW H) → Bool := fun _ ds => decide (uptoBulkAll ds ≤ 1048576)
def OpenSpec.upto (s : _root_.Go.ChangeSpec) : _root_.Go.OpenSpec := { _root_.Go.OpenSpec.ofChange s with cond := some uptoSmall }

/-- 'weftlinelaw02.SerialLong', WHERE WHAT IT READS IS OF BULK AT MOST 1048576: true; the input reads as it did. -/
def serialLongUptoRow : OpenClaim := { program := "ytnlhlffciigcnaa", sum := "e965eaf91ec663b3a8f50f104a506476efbf390ddccbb4593f0c05ca543dcd46", func := "weftline/weftlinelaw02.SerialLong", spec := "serialLong", apart := false, narrowed := true }
def SerialLongUptoSaid : Prop := serialLongUptoRow.holds Try.pinned (OpenSpec.upto serialLongSpec)

/-- 'weftlinelaw02.SerialShort', WHERE WHAT IT READS IS OF BULK AT MOST 1048576: true; the input reads as it did. -/
def serialShortUptoRow : OpenClaim := { program := "ytnlhlffciigcnaa", sum := "e965eaf91ec663b3a8f50f104a506476efbf390ddccbb4593f0c05ca543dcd46", func := "weftline/weftlinelaw02.SerialShort", spec := "serialShort", apart := false, narrowed := true }
def SerialShortUptoSaid : Prop := serialShortUptoRow.holds Try.pinned (OpenSpec.upto serialShortSpec)

/-- 'weftlinelaw02.SerialTwo', WHERE WHAT IT READS IS OF BULK AT MOST 1048576: true; the input reads as it did. -/
def serialTwoUptoRow : OpenClaim := { program := "ytnlhlffciigcnaa", sum := "e965eaf91ec663b3a8f50f104a506476efbf390ddccbb4593f0c05ca543dcd46", func := "weftline/weftlinelaw02.SerialTwo", spec := "serialTwo", apart := false, narrowed := true }
def SerialTwoUptoSaid : Prop := serialTwoUptoRow.holds Try.pinned (OpenSpec.upto serialTwoSpec)

/-- 'weftlinelaw02.SerialLeft', WHERE WHAT IT READS IS OF BULK AT MOST 1048576: true; the input reads as it did. -/
def serialLeftUptoRow : OpenClaim := { program := "ytnlhlffciigcnaa", sum := "e965eaf91ec663b3a8f50f104a506476efbf390ddccbb4593f0c05ca543dcd46", func := "weftline/weftlinelaw02.SerialLeft", spec := "serialLeft", unfollowed := true, recurses := true, apart := false, narrowed := true }
def SerialLeftUptoSaid : Prop := serialLeftUptoRow.holds Try.pinned (OpenSpec.upto serialLeftSpec)

/-- 'weftlinelaw28.RebindPlans', WHERE WHAT IT READS IS OF BULK AT MOST 1048576: true; the input reads as it did. -/
def rebindPlansUptoRow : OpenClaim := { program := "ytnlhlffciigcnaa", sum := "e965eaf91ec663b3a8f50f104a506476efbf390ddccbb4593f0c05ca543dcd46", func := "weftline/weftlinelaw28.RebindPlans", spec := "rebindPlans", apart := false, narrowed := true }
def RebindPlansUptoSaid : Prop := rebindPlansUptoRow.holds Try.pinned (OpenSpec.upto rebindPlansSpec)

/-- 'weftlinelaw16.FragCuts', WHERE WHAT IT READS IS OF BULK AT MOST 1048576: true; the input reads as it did. -/
def fragCutsUptoRow : OpenClaim := { program := "ytnlhlffciigcnaa", sum := "e965eaf91ec663b3a8f50f104a506476efbf390ddccbb4593f0c05ca543dcd46", func := "weftline/weftlinelaw16.FragCuts", spec := "fragCuts", unfollowed := true, recurses := true, apart := false, narrowed := true }
def FragCutsUptoSaid : Prop := fragCutsUptoRow.holds Try.pinned (OpenSpec.upto fragCutsSpec)

/-- 'weftlinelaw16.FragWholes', WHERE WHAT IT READS IS OF BULK AT MOST 1048576: true; the input reads as it did. -/
def fragWholesUptoRow : OpenClaim := { program := "ytnlhlffciigcnaa", sum := "e965eaf91ec663b3a8f50f104a506476efbf390ddccbb4593f0c05ca543dcd46", func := "weftline/weftlinelaw16.FragWholes", spec := "fragWholes", unfollowed := true, recurses := true, apart := false, narrowed := true }
def FragWholesUptoSaid : Prop := fragWholesUptoRow.holds Try.pinned (OpenSpec.upto fragWholesSpec)

/-- 'weftlinelaw16.FragGroups', WHERE WHAT IT READS IS OF BULK AT MOST 1048576: true; the input reads as it did. -/
def fragGroupsUptoRow : OpenClaim := { program := "ytnlhlffciigcnaa", sum := "e965eaf91ec663b3a8f50f104a506476efbf390ddccbb4593f0c05ca543dcd46", func := "weftline/weftlinelaw16.FragGroups", spec := "fragGroups", unfollowed := true, recurses := true, apart := false, narrowed := true }
def FragGroupsUptoSaid : Prop := fragGroupsUptoRow.holds Try.pinned (OpenSpec.upto fragGroupsSpec)

/-- 'weftlinelaw16.FragRound', WHERE WHAT IT READS IS OF BULK AT MOST 1048576: true; the input reads as it did. -/
def fragRoundUptoRow : OpenClaim := { program := "ytnlhlffciigcnaa", sum := "e965eaf91ec663b3a8f50f104a506476efbf390ddccbb4593f0c05ca543dcd46", func := "weftline/weftlinelaw16.FragRound", spec := "fragRound", unfollowed := true, recurses := true, apart := false, narrowed := true }
def FragRoundUptoSaid : Prop := fragRoundUptoRow.holds Try.pinned (OpenSpec.upto fragRoundSpec)

/-- 'weftlinelaw20.ReasmMixes', WHERE WHAT IT READS IS OF BULK AT MOST 1048576: true; the input reads as it did. -/
def reasmMixesUptoRow : OpenClaim := { program := "ytnlhlffciigcnaa", sum := "e965eaf91ec663b3a8f50f104a506476efbf390ddccbb4593f0c05ca543dcd46", func := "weftline/weftlinelaw20.ReasmMixes", spec := "reasmMixes", unfollowed := true, recurses := true, apart := false, narrowed := true }
def ReasmMixesUptoSaid : Prop := reasmMixesUptoRow.holds Try.pinned (OpenSpec.upto reasmMixesSpec)

end Rows
end Go.Proofs.Ytnlhlffciigcnaa
