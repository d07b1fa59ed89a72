import Derived.Test.YthoammfpjheodaaRmCut
import Derived.Test.YthoammfpjheodaaRzR
namespace Go.Proofs.Ythoammfpjheodaa.Rz
open Go.ChangeShapes Go.WideShapes Go.ChangeAt Go.RowKit Go.Shelf MK
open Base (hid cell_new1 cell_old1 froz_new1 froz_old1)
attribute [local go_sem] Oper.semAt_some
set_option linter.unusedVariables false
set_option linter.unusedSimpArgs false
set_option maxRecDepth 100000
/-! Cut -/
theorem chunk_seq (m : Nat) (hm : 1 ≤ m) (bs bn cnt n₀ : Nat) (ad : Addr) (n c s : Nat) (hs : 0 < s) (hn63 : n ≤ 1000000) (hs63 : s ≤ 1000000) (hnc : n ≤ c) (w : World) (hbs : bs < n₀) (hbs' : bs ≠ cnt) (hbn : bn < n₀) (hbn' : bn ≠ cnt) (hn₀ : n₀ ≤ w.heap.size)
    (hcs : w.cell? ⟨bs, 0, none⟩ = some (.slice (some ad) n c)) (hcn : w.cell? ⟨bn, 0, none⟩ = some (.int .i64 s)) :
    SeqPre FW m Try.prog 89 #[.pointer (some ⟨bs, 0, none⟩), .pointer (some ⟨bn, 0, none⟩)] (fun x : Nat => #[chunkV ad n s x]) (fun pre _ _ _ => pre.length < parts n s) (Keep cnt n₀) (fun ys => ys = List.range (parts n s)) (fun pre => pre <+: List.range (parts n s)) w := fun l J Jx W hW hJ _ hY h0 =>
  chunk1 m hm l bs bn cnt n₀ ad n c s hs hn63 hs63 hnc hbs hbs' hbn hbn' J Jx (fun pre x W' hj hlt => hY pre x W' W' hj (Below.refl _ _) hlt) W hJ ((hW.cell (p := ⟨bs, 0, none⟩) (by show bs < w.heap.size; omega)).trans hcs) ((hW.cell (p := ⟨bn, 0, none⟩) (by show bn < w.heap.size; omega)).trans hcn) h0
/-- The start's value. -/
def stV (tsn seq z : Int) : Value := .agg #[.int .u32 tsn, .int .u16 seq, .int .i64 z]
theorem cut_bad (s : Int) (u : Bool) (A : Option Addr) (n c : Nat) (tsn seq z : Int) (w : World) (hg : goodN s n = false) :
    Calls Try.prog 12 #[msgV s u A n c, stV tsn seq z] w fun e w' => e = .returned (.tuple #[.slice none 0 0, .iface 81 (.int .i64 2)]) ∧ Below w.heap.size w w' := by
  have hgc : ∀ X, Calls Try.prog 42 #[msgV s u A n c] X fun e w' => e = .returned (.bool false) ∧ Below X.heap.size X w' := fun X => by
    have := good_calls s u A n c X
    rw [hg] at this
    exact this
  unfold msgV at hgc ⊢
  unfold stV
  have HGC := hid hgc
  clear hgc hg
  go_enter Try.func12, Try.ntmps12
  go_wp2_with (go_at_call 42; go_must (refine (HGC.out _).mono ?_; rintro e w1 ⟨rfl, hb1⟩; have HB1 := hid hb1; clear hb1))
  go_ret2
  exact ⟨rfl, below_step (below_alloc (below_alloc (Below.refl _ _) _) _) HB1.out⟩
theorem cut_size (s : Int) (u : Bool) (A : Option Addr) (n c : Nat) (tsn seq z : Int) (w : World) (hg : goodN s n = true) (hz : ¬ (1 ≤ z ∧ z ≤ 64)) :
    Calls Try.prog 12 #[msgV s u A n c, stV tsn seq z] w fun e w' => e = .returned (.tuple #[.slice none 0 0, .iface 81 (.int .i64 1)]) ∧ Below w.heap.size w w' := by
  have hgc : ∀ X, Calls Try.prog 42 #[msgV s u A n c] X fun e w' => e = .returned (.bool true) ∧ Below X.heap.size X w' := fun X => by
    have := good_calls s u A n c X
    rw [hg] at this
    exact this
  have hw : (decide ((1 : Int) ≤ z) && decide (z ≤ 64)) = false := by
    rw [← Bool.not_eq_true, Bool.and_eq_true, decide_eq_true_eq, decide_eq_true_eq]
    exact hz
  unfold msgV at hgc ⊢
  unfold stV
  obtain ⟨w1, hw1⟩ : ∃ w1, w1 = (w.alloc (.cells #[.int .i64 s, .bool u, .slice A n c] 34)).alloc (.cells #[.int .u32 tsn, .int .u16 seq, .int .i64 z] 26) := ⟨_, rfl⟩
  have hb1 : Below w.heap.size w w1 := by rw [hw1]; exact below_alloc (below_alloc (Below.refl _ _) _) _
  have hk : w1.cell? ⟨w.heap.size + 1, 2, none⟩ = some (.int .i64 z) := by rw [hw1, cell_new1 _ _ _ _ (by simp)]; rfl
  have hm : MB w1 w.heap.size s u A n c := by rw [hw1]; exact (MB.new w s u A n c).below (below_alloc (Below.refl _ _) _)
  have HGC := hid hgc
  have HWI := hid hw
  have HB1 := hid hb1
  have HW1 := hid hw1
  have hl1 : w.heap.size + 1 < w1.heap.size := by rw [hw1]; simp
  clear hgc hg hw hb1 hw1 hz
  obtain ⟨m0, m1, m2, mf⟩ := hm
  go_enter Try.func12, Try.ntmps12
  go_upto_region 1 with fail
  rw [← HW1.out]
  go_wp2_with (first
    | (go_at_call 42; go_must (refine (HGC.out _).mono ?_; rintro e w2 ⟨rfl, hb2⟩; have HB2 := hid hb2; have hk2 : w2.cell? ⟨w.heap.size + 1, 2, none⟩ = some (.int .i64 z) := (hb2.cell (p := ⟨w.heap.size + 1, 2, none⟩) hl1).trans hk; clear hb2))
    | (go_at_call 43; go_must (refine (within_calls' _ _ _ _ HWI.out).mono ?_; rintro e w' ⟨rfl, rfl⟩)))
  go_ret2
  exact ⟨rfl, below_step HB1.out HB2.out⟩
end Go.Proofs.Ythoammfpjheodaa.Rz
