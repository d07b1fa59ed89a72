import Derived.Test.YthoammfpjheodaaMapK
import Derived.Test.YthoammfpjheodaaBase
import Derived.DeepKeys5
namespace Go.Proofs.Ythoammfpjheodaa.Or
open Go.Maps Go.ChangeShapes Go.RowKit
theorem laid : laidOutB Try.prog = true := by kernel_rfl
theorem slotLaw : Keyed Try.prog 117 := Keyed.of_law (deep_law_gate laid (by decide +kernel) (by decide +kernel) (by kernel_rfl) (by kernel_rfl))
noncomputable def fs117 : Array Field := match Try.prog.underlying 117 with | some (.struct fs) => fs | _ => #[]
theorem under117 : Try.prog.underlying 117 = some (.struct fs117) := by kernel_rfl
theorem keyT : Try.prog.keyType 117 = true := by kernel_rfl
theorem key_of (s q : Int) (hs : (Lit.int .i64 s).wf = true) (hq : (Lit.int .u16 q).wf = true) : keyOf Try.prog 117 (.agg #[.int .i64 s, .int .u16 q]) = some (.string (keyBytes [.int .i64 s, .int .u16 q])) := by
  unfold keyOf
  rw [under117]
  simp only [keyT, Bool.true_and]
  have h1 : Value.formed Try.prog 117 (.agg #[.int .i64 s, .int .u16 q]) = true := by kernel_rfl
  rw [if_pos h1]
  have hn : ∃ n, Try.prog.types.size + 1 = n + 2 := ⟨Try.prog.types.size - 1, by have : 1 ≤ Try.prog.types.size := by decide +kernel
                                                                                 omega⟩
  obtain ⟨n, hn⟩ := hn
  rw [hn]
  have c117 : Try.prog.cellsOf 117 = 2 := by kernel_rfl
  have c3 : Try.prog.cellsOf 3 = 1 := by kernel_rfl
  have c24 : Try.prog.cellsOf 24 = 1 := by kernel_rfl
  simp [Program.keyLits, Try.underlying117, Try.underlying3, Try.underlying24, hs, hq, c117, c3, c24, Value.cells]
/-- A place where a message waits: a stream and a seq. -/
def SK : Type := { x : Int × Int // (Lit.int .i64 x.1).wf = true ∧ (Lit.int .u16 x.2).wf = true }
instance : DecidableEq SK := inferInstanceAs (DecidableEq { x : Int × Int // (Lit.int .i64 x.1).wf = true ∧ (Lit.int .u16 x.2).wf = true })
def SK.val (x : SK) : Value := .agg #[.int .i64 x.1.1, .int .u16 x.1.2]
theorem SK.key (x : SK) : keyOf Try.prog 117 x.val = some (.string (keyBytes [.int .i64 x.1.1, .int .u16 x.1.2])) := key_of _ _ x.2.1 x.2.2
/-- Keys of slots. -/
def slotKs : MK.Keys Try.prog 117 SK where
  lit := fun x => .string (keyBytes [.int .i64 x.1.1, .int .u16 x.1.2])
  val := SK.val
  ok := fun _ => True
  K := slotLaw
  key := fun x _ => x.key
  inj := fun x y h => by
    have h1 := x.key
    rw [h] at h1
    have h2 := slotLaw.inj h1 y.key
    unfold SK.val at h2
    simp only [Value.agg.injEq, Array.mk.injEq, List.cons.injEq, Value.int.injEq, true_and, and_true] at h2
    exact Subtype.ext (Prod.ext h2.1 h2.2)
  isKey := fun x _ => slotLaw.key x.key
end Go.Proofs.Ythoammfpjheodaa.Or
