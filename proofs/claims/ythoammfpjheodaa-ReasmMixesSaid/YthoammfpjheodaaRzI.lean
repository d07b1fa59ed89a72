import Derived.Test.YthoammfpjheodaaRzH
namespace Go.Proofs.Ythoammfpjheodaa.Rz
open Go.ChangeShapes Go.WideShapes Go.ChangeAt Go.RowKit Go.Shelf MK
open Base (hid cell_new1 cell_old1 froz_new1 froz_old1)
attribute [local go_sem] Oper.semAt_some
set_option linter.unusedVariables false
set_option linter.unusedSimpArgs false
set_option maxRecDepth 100000
def followsP (p r : Pm) : Bool := (p.t == step r.t 1) && ((p.s == r.s) && ((p.q == r.q) && (p.u == r.u)))
theorem step_quiet (a n : Int) (w : World) (k : Nat) : Calls Try.prog 45 #[.int .u32 a, .int .i64 n] (w.drewN k) fun e w'' => e = .returned (.int .u32 (step a n)) ∧ ∃ m, w'' = w.drewN m :=
  (step_calls a n (w.drewN k)).mono fun e w' ⟨h1, h2⟩ => ⟨h1, k, h2.symm⟩
set_option maxHeartbeats 2000000 in
theorem follows_calls (p r : Pm) (w : World) : Calls Try.prog 112 #[p.val, r.val] w fun e w' => e = .returned (.bool (followsP p r)) ∧ Below w.heap.size w w' := by
  unfold followsP Pm.val
  have hb : ∀ o o' (k : Nat), Below w.heap.size w (((w.alloc o).alloc o').drewN k) := fun o o' k => (below_alloc (below_alloc (Below.refl _ _) _) _).drewN' k
  have HB := hid hb
  clear hb
  cases h1 : (p.t == step r.t 1) with
  | false =>
    have h1' : decide (p.t = step r.t 1) = false := by simpa using h1
    go_enter Try.func112, Try.ntmps112
    go_wp2
    go_quiet ((go_at_call 45; exact step_quiet _ _ _ _))
    go_wp2
    go_ret
    exact ⟨by simp, HB.out _ _ _⟩
  | true =>
    have h1' : decide (p.t = step r.t 1) = true := by simpa using h1
    cases h2 : (p.s == r.s) with
    | false =>
      have h2' : decide (p.s = r.s) = false := by simpa using h2
      go_enter Try.func112, Try.ntmps112
      go_wp2
      go_quiet ((go_at_call 45; exact step_quiet _ _ _ _))
      go_wp2
      go_ret
      exact ⟨by simp, HB.out _ _ _⟩
    | true =>
      have h2' : decide (p.s = r.s) = true := by simpa using h2
      cases h3 : (p.q == r.q) with
      | false =>
        have h3' : decide (p.q = r.q) = false := by simpa using h3
        go_enter Try.func112, Try.ntmps112
        go_wp2
        go_quiet ((go_at_call 45; exact step_quiet _ _ _ _))
        go_wp2
        go_ret
        exact ⟨by simp, HB.out _ _ _⟩
      | true =>
        have h3' : decide (p.q = r.q) = true := by simpa using h3
        go_enter Try.func112, Try.ntmps112
        go_wp2
        go_quiet ((go_at_call 45; exact step_quiet _ _ _ _))
        go_wp2
        go_ret
        exact ⟨by simp, HB.out _ _ _⟩
end Go.Proofs.Ythoammfpjheodaa.Rz
