/- The iterators of layer 2 (serial.Range, serial.Runs at uint16), and slices.Clone there: their contracts over this seat's translation. -/
import Derived.Test.YtidbkkebkgeioaaBase
import Derived.WalkLawsBesides

import Derived.Sort.QuietIn
import Derived.RangeFuncNested
import Derived.RangeFuncBound
import Derived.RangeFuncCalls
import Derived.RangeFuncLeaves
import Derived.Shelf.Abstract
import Derived.OwnWalkIn
import Derived.TacticsInMore
import Derived.LoopNIn
import Derived.LoopIn
namespace Go.Proofs.Ytidbkkebkgeioaa.It
open Go.ChangeShapes Go.WideShapes Go.ChangeAt Go.RowKit Go.Shelf Base
attribute [local go_sem] Oper.semAt_some
set_option linter.unusedVariables false
theorem u32_wrap (x : Int) : IntKind.u32.wrap x = x % 4294967296 := rfl
theorem step32_val (a n : Int) : IntKind.u32.wrap (a + IntKind.u32.wrap n) = (a + n) % 4294967296 := by rw [u32_wrap, u32_wrap]; omega
theorem step32 (a n : Int) (w : World) :
    Calls Try.prog 35 #[.int .u32 a, .int .i64 n] w fun e w' => e = .returned (.int .u32 ((a + n) % 4294967296)) ∧ w = w' := by
  go_enter Try.func35, Try.ntmps35
  go_wp2
  go_ret
  exact ⟨ret_int (step32_val _ _), rfl⟩
theorem step32q (a n : Int) (w : World) :
    CallsIn Fence.wide 5 Try.prog 35 #[.int .u32 a, .int .i64 n] w fun e w' => e = .returned (.int .u32 ((a + n) % 4294967296)) ∧ w' = w :=
  callsIn_wide.2 ((step32 a n w).mono fun _ _ h => ⟨h.1, h.2.symm⟩)
/-- from, from + 1, ..: m numbers. -/
def seqR (a : Int) (m : Nat) : List Int := (List.range m).map fun i : Nat => (a + i) % 4294967296
theorem seqR_succ (a : Int) (m : Nat) : seqR a (m + 1) = seqR a m ++ [(a + m) % 4294967296] := by simp [seqR, List.range_succ]
theorem seqR_len (a : Int) (m : Nat) : (seqR a m).length = m := by simp [seqR]
theorem seqR_take (a : Int) (k m : Nat) (h : k ≤ m) : seqR a k <+: seqR a m := by
  obtain ⟨d, rfl⟩ : ∃ d, m = k + d := ⟨m - k, by omega⟩
  refine ⟨(List.range d).map fun i : Nat => (a + ((k + i : Nat) : Int)) % 4294967296, ?_⟩
  simp [seqR, List.range_add, Function.comp_def]
/-- What lies from lo on and below n₀ lies as it lay. -/
structure Keep (lo n₀ : Nat) (W W' : World) : Prop where
  size : W.heap.size ≤ W'.heap.size
  block : ∀ b, lo ≤ b → b < n₀ → W'.heap[b]? = W.heap[b]?
theorem Keep.refl (lo n₀ : Nat) (W : World) : Keep lo n₀ W W := ⟨Nat.le_refl _, fun _ _ _ => rfl⟩
theorem Keep.trans {lo n₀ : Nat} {A B C : World} (h : Keep lo n₀ A B) (k : Keep lo n₀ B C) : Keep lo n₀ A C := ⟨Nat.le_trans h.size k.size, fun b h1 h2 => (k.block b h1 h2).trans (h.block b h1 h2)⟩
theorem Keep.cell {lo n₀ : Nat} {W W' : World} (h : Keep lo n₀ W W') {p : Addr} (hp : p.block < n₀) (hl : lo ≤ p.block) : W'.cell? p = W.cell? p := World.cell?_of_block (w := W) (h.block p.block hl hp)
theorem Keep.of_below {lo n₀ : Nat} {W W' : World} (h : Below n₀ W W') : Keep lo n₀ W W' := ⟨h.size, fun b _ h2 => h.block b h2⟩
theorem Keep.drewN (lo n₀ : Nat) (W : World) (n : Nat) : Keep lo n₀ W (W.drewN n) := ⟨Nat.le_refl _, fun _ _ _ => rfl⟩
theorem keepK_b {lo n₀ : Nat} {w : World} (hn : n₀ ≤ w.heap.size) (W : World) (l : Nat) (o o' : Obj) (hl : w.heap.size ≤ l) (h : W.heap[l]? = some o) (_ : o.isCells = false) (_ : o.isWalk = false) : Keep lo n₀ W (W.putObj l o') :=
  Keep.of_below ((Below.refl n₀ W).grown (grownBy_putObj' W l o') (by have := (Array.getElem?_eq_some_iff.1 h).1; omega) (fun k e => by cases e; omega))
abbrev FW : Fence := Fence.wide
set_option maxRecDepth 100000 in
set_option maxHeartbeats 2000000 in
theorem range1 (n : Nat) (hn : 1 ≤ n) (l bn bf lo n₀ : Nat) (N a : Int) (hN' : N ≤ 9223372036854775807) (hbf : bf < n₀) (hbf' : lo ≤ bf) (J Jx : List Int → World → Prop)
    (hY : ∀ pre x W, J pre W → (pre ++ [x]) <+: seqR a N.toNat → YieldAt FW (n - 1) Try.prog l #[.int .u32 x] W fun e W' =>
      (e = .returned (.bool true) ∧ J (pre ++ [x]) W' ∧ Keep lo n₀ W W') ∨ (e = .returned (.bool false) ∧ Jx (pre ++ [x]) W'))
    (W : World) (hcn : W.cell? ⟨bn, 0, none⟩ = some (.int .i64 N)) (hcf : W.cell? ⟨bf, 0, none⟩ = some (.int .u32 a)) (h0 : J [] W) :
    CallsIn FW n Try.prog 36 #[.func (.yield l) #[] #[], .pointer (some ⟨bn, 0, none⟩), .pointer (some ⟨bf, 0, none⟩)] W fun e W' => (∃ v, e = .returned v) ∧
      ((∃ ys, ys = seqR a N.toNat ∧ J ys W') ∨ (∃ pre, pre <+: seqR a N.toNat ∧ Jx pre W')) := by
  refine callsIn_of_wp Try.func36 rfl trivial ?_ rfl
  simp only [Try.ntmps36, List.size_toArray, List.length_cons, List.length_nil, Nat.reduceAdd, Nat.reduceSub, Array.replicate_succ, Array.replicate_zero, List.push_toArray, List.append_toArray, List.nil_append, List.cons_append]
  have f35 : FW.fn 35 := trivial
  by_cases hz : N ≤ 0
  · have e0 : N.toNat = 0 := by omega
    have HE := hid e0
    clear e0
    gi_wp2
    gi_loopw [7] (fun i wr => i = .int .i64 0 ∧ J [] wr) (fun _ _ => 0)
    case atStart => exact ⟨rfl, h0⟩
    case round =>
      obtain ⟨rfl, hJs⟩ := hrel
      gi_wp2
      go_end0
      exact ⟨⟨_, rfl⟩, .inl ⟨_, rfl, by rw [HE.out]; exact hJs⟩⟩
  · have hp : 0 < N := by omega
    clear hz
    gi_wp2
    gi_loopw [7] (fun i wr => ∃ k : Nat, (k : Int) ≤ N ∧ i = .int .i64 k ∧ J (seqR a k) wr ∧ Hid (Keep lo n₀ W wr)) (fun i _ => N.toNat - (intOf i).toNat)
    case atStart => exact ⟨0, by omega, rfl, h0, hid (Keep.refl _ _ _)⟩
    case round =>
      obtain ⟨k, hk, rfl, hJs, hnx⟩ := hrel
      have hcx : wr.cell? ⟨bf, 0, none⟩ = some (.int .u32 a) := (hnx.out.cell (p := ⟨bf, 0, none⟩) hbf hbf').trans hcf
      by_cases hlt : (k : Int) < N
      · obtain ⟨fn, tmps, assign, body, hy, hR⟩ := hY _ ((a + k) % 4294967296) wr hJs (by rw [← seqR_succ]; exact seqR_take _ _ _ (by omega))
        have HR := hid hR
        clear hR
        gi_wp2_with (gi_at_call 35; refine (callsIn_wide.2 (step32 _ _ _)).mono ?_; rintro e w' ⟨rfl, rfl⟩)
        refine HR.out.mono ?_
        rintro e W3 (⟨rfl, hJ3, hk3⟩ | ⟨rfl, hJx3⟩)
        · have hnx3 := hid (hnx.out.trans hk3)
          clear hk3
          gi_wp2
          go_roundw
          case rel => exact ⟨k + 1, by omega, by simp, by rw [seqR_succ]; exact hJ3, hnx3⟩
          case measure => simp [intOf]; omega
        · gi_wp2
          refine bodyPost_ret (results_none rfl _ _ _) rfl ?_
          exact ⟨⟨_, rfl⟩, .inr ⟨_, by rw [← seqR_succ]; exact seqR_take _ _ _ (by omega), hJx3⟩⟩
      · have e0 : N.toNat = k := by omega
        have HE := hid e0
        clear e0
        gi_wp2
        go_end0
        exact ⟨⟨_, rfl⟩, .inl (by rw [HE.out]; exact hJs)⟩
theorem range_any (a N : Int) (w : World) :
    Calls Try.prog 11 #[.int .u32 a, .int .i64 N] w fun e w' => e = .returned (.func (.func 36) #[] #[.pointer (some ⟨w.heap.size + 1, 0, none⟩), .pointer (some ⟨w.heap.size, 0, none⟩)]) ∧ w' = (w.alloc (.cells #[.int .u32 a] 22)).alloc (.cells #[.int .i64 N] 3) := by
  go_enter Try.func11, Try.ntmps11
  go_wp2
  go_ret
  exact ⟨rfl, rfl⟩
theorem grown_drewN (w : World) (n : Nat) (row : Option Nat) : w.grownBy (w.drewN n) row := ⟨rfl, rfl, rfl, Nat.le_refl _, fun _ _ _ => rfl⟩
theorem below_drewN' (B : Nat) (w : World) (n : Nat) : Below B w (w.drewN n) := ⟨rfl, rfl, rfl, Nat.le_refl _, fun _ _ => rfl⟩
/-- How many numbers follow a at the head of l, m being ahead of them. -/
def rl (a : Int) (m : Nat) : List Int → Nat
  | [] => 0
  | x :: l => if x = (a + m) % 4294967296 then rl a (m + 1) l + 1 else 0
theorem rl_le (a : Int) : ∀ (l : List Int) (m : Nat), rl a m l ≤ l.length
  | [], _ => Nat.le_refl _
  | x :: l, m => by
    unfold rl
    split
    · have := rl_le a l (m + 1); simp; omega
    · simp
/-- The parts of a list: the first number of each, how many it has. -/
def runs : List Int → List (Int × Nat)
  | [] => []
  | a :: l => (a, 1 + rl a 1 l) :: runs (l.drop (rl a 1 l))
termination_by xs => xs.length
decreasing_by simp; omega
theorem runs_nil : runs [] = [] := by rw [runs]
theorem runs_cons (a : Int) (l : List Int) : runs (a :: l) = (a, 1 + rl a 1 l) :: runs (l.drop (rl a 1 l)) := by rw [runs]
theorem runs_len : ∀ (xs : List Int), (runs xs).length ≤ xs.length
  | [] => by rw [runs_nil]; exact Nat.le_refl _
  | a :: l => by
    rw [runs_cons]
    have := runs_len (l.drop (rl a 1 l))
    simp at this ⊢
    omega
termination_by xs => xs.length
decreasing_by simp; omega
/-- The runs from p on, in the list. -/
theorem runs_at (xs : List Int) (p : Nat) (h : p < xs.length) : runs (xs.drop p) = (xs[p]?.getD 0, 1 + rl (xs[p]?.getD 0) 1 (xs.drop (p + 1))) :: runs (xs.drop (p + (1 + rl (xs[p]?.getD 0) 1 (xs.drop (p + 1))))) := by
  rw [drop_atV xs 0 p h, runs_cons, List.drop_drop]
  congr 2
  congr 1
  omega
theorem rl_go {a : Int} {xs : List Int} {p m R : Nat} (hp : p + m < xs.length) (h : R = (m - 1) + rl a m (xs.drop (p + m))) (hm : 1 ≤ m) (he : xs[p + m]?.getD 0 = (a + m) % 4294967296) : R = (m + 1 - 1) + rl a (m + 1) (xs.drop (p + (m + 1))) := by
  rw [drop_atV xs 0 (p + m) hp, rl, if_pos he] at h
  rw [h, show p + (m + 1) = p + m + 1 by omega]
  omega
theorem rl_stop {a : Int} {xs : List Int} {p m R : Nat} (hp : p + m < xs.length) (h : R = (m - 1) + rl a m (xs.drop (p + m))) (hm : 1 ≤ m) (he : ¬ xs[p + m]?.getD 0 = (a + m) % 4294967296) : m = 1 + R := by
  rw [drop_atV xs 0 (p + m) hp, rl, if_neg he] at h
  omega
theorem rl_end {a : Int} {xs : List Int} {p m R : Nat} (hp : xs.length ≤ p + m) (h : R = (m - 1) + rl a m (xs.drop (p + m))) (hm : 1 ≤ m) : m = 1 + R := by
  rw [List.drop_eq_nil_of_le hp, rl] at h
  omega
set_option maxRecDepth 100000 in
set_option maxHeartbeats 4000000 in
theorem runs1 (n : Nat) (hn : 1 ≤ n) (l bo lo n₀ : Nat) (a : Option Addr) (xs : List Int) (c : Nat) (hlen : xs.length ≤ 35184372088832) (hbo : bo < n₀) (hbo' : lo ≤ bo) (J Jx : List (Int × Nat) → World → Prop)
    (hY : ∀ pre x W, J pre W → pre.length < xs.length → YieldAt FW (n - 1) Try.prog l #[.int .u32 x.1, .int .i64 (x.2 : Nat)] W fun e W' =>
      (e = .returned (.bool true) ∧ J (pre ++ [x]) W' ∧ Keep lo n₀ W W') ∨ (e = .returned (.bool false) ∧ Jx (pre ++ [x]) W'))
    (W : World) (hJ : AbidesFrom W.heap.size J) (ho : W.cell? ⟨bo, 0, none⟩ = some (.slice a xs.length c)) (hr : RowV lo n₀ W a (xs.map (Value.int .u32))) (h0 : J [] W) :
    CallsIn FW n Try.prog 34 #[.func (.yield l) #[] #[], .pointer (some ⟨bo, 0, none⟩)] W fun e W' => (∃ v, e = .returned v) ∧
      ((∃ ys, ys = runs xs ∧ J ys W') ∨ (∃ pre, pre <+: runs xs ∧ Jx pre W')) := by
  refine callsIn_of_wp Try.func34 rfl trivial ?_ rfl
  simp only [Try.ntmps34, List.size_toArray, List.length_cons, List.length_nil, Nat.reduceAdd, Nat.reduceSub, Array.replicate_succ, Array.replicate_zero, List.push_toArray, List.append_toArray, List.nil_append, List.cons_append]
  have f35 : FW.fn 35 := trivial
  have HJ := hid hJ
  have HR := hid hr
  clear hJ hr
  gi_wp2
  gi_loopw [3] (fun i wr => ∃ (p : Nat) (pre : List (Int × Nat)), p ≤ xs.length ∧ i = .int .i64 p ∧ J pre wr ∧ Hid (runs xs = pre ++ runs (xs.drop p)) ∧ Hid (pre.length ≤ p) ∧ Hid (Keep lo n₀ W wr) ∧ Hid (W.heap.size ≤ wr.heap.size)) (fun i _ => xs.length - (intOf i).toNat)
  case atStart => exact ⟨0, [], Nat.zero_le _, rfl, h0, hid (by simp), hid (Nat.le_refl _), hid (Keep.refl _ _ _), hid (Nat.le_refl _)⟩
  case round =>
    obtain ⟨p, pre, hp, rfl, hJs, hruns, hpl, hb, hsz⟩ := hrel
    have hbox : wr.cell? ⟨bo, 0, none⟩ = some (.slice a xs.length c) := (hb.out.cell (p := ⟨bo, 0, none⟩) hbo hbo').trans ho
    by_cases hlt : p < xs.length
    · rcases HR.out with h | ⟨b, o, rfl, hlo, hbn, hc⟩
      · exfalso; rw [List.map_eq_nil_iff] at h; subst h; simp at hlt
      have hbc : lo ≤ b := by omega
      have hcp : wr.cell? ⟨b, o + p, none⟩ = some (.int .u32 (xs[p]?.getD 0)) := (hb.out.cell (p := ⟨b, o + p, none⟩) hbn hbc).trans (cell_map 0 hc p hlt)
      have hra := hid (runs_at xs p hlt)
      generalize hx : xs[p]?.getD 0 = x at hcp hra
      clear hx
      obtain ⟨R, hR0⟩ : ∃ R, rl x 1 (xs.drop (p + 1)) = R := ⟨_, rfl⟩
      rw [hR0] at hra
      have HR0 := hid hR0
      clear hR0
      gi_wp2
      obtain ⟨wo, rfl⟩ : ∃ wo : World, wo = wr := ⟨_, rfl⟩
      gi_loopw [4] (fun i wr => ∃ (m : Nat), 1 ≤ m ∧ p + m ≤ xs.length ∧ i = .int .i64 m ∧ Hid (∃ q, wr = wo.drewN q) ∧ Hid (R = (m - 1) + rl x m (xs.drop (p + m)))) (fun i _ => xs.length - (intOf i).toNat)
      case atStart => exact ⟨1, Nat.le_refl _, by omega, rfl, hid ⟨0, rfl⟩, hid (by rw [HR0.out]; simp)⟩
      case round =>
        obtain ⟨m, hm, hpm, rfl, hq, hrl⟩ := hrel
        have hbox' : wr.cell? ⟨bo, 0, none⟩ = some (.slice (some ⟨b, o, none⟩) xs.length c) := by obtain ⟨q, rfl⟩ := hq.out; exact hbox
        have hcp' : wr.cell? ⟨b, o + p, none⟩ = some (.int .u32 x) := by obtain ⟨q, rfl⟩ := hq.out; exact hcp
        have fin : ∀ (W' : World), (∃ q, W' = wo.drewN q) → J pre W' ∧ Keep lo n₀ W W' ∧ W.heap.size ≤ W'.heap.size ∧ W'.cell? ⟨bo, 0, none⟩ = some (.slice (some ⟨b, o, none⟩) xs.length c) ∧ W'.cell? ⟨b, o + p, none⟩ = some (.int .u32 x) := by
          rintro W' ⟨q, rfl⟩
          exact ⟨HJ.out _ _ _ none hJs (grown_drewN _ _ _) (fun r e => by cases e), hb.out.trans (Keep.drewN _ _ _ _), hsz.out, hbox, hcp⟩
        have FIN := hid fin
        clear fin
        by_cases hin : p + m < xs.length
        · have hcm : wr.cell? ⟨b, o + (p + m), none⟩ = some (.int .u32 (xs[p + m]?.getD 0)) := by
            obtain ⟨q, rfl⟩ := hq.out
            exact (hb.out.cell (p := ⟨b, o + (p + m), none⟩) hbn hbc).trans (cell_map 0 hc (p + m) hin)
          have hgo := hid (rl_go hin hrl.out hm)
          have hstop := hid (rl_stop hin hrl.out hm)
          have hlt1 : ((p : Int) + m < (xs.length : Int)) := by omega
          have hd1 : decide ((p : Int) + m < (xs.length : Int)) = true := decide_eq_true hlt1
          generalize xs[p + m]?.getD 0 = y at hcm hgo hstop
          have HC := hid hc
          have HB := hid hbox
          have HP := hid hcp
          clear hc hbox hcp
          by_cases hy : y = (x + m) % 4294967296
          · have hyb : (y == (x + (m : Int)) % 4294967296) = true := by simp [hy]
            have HG := hid (hgo.out hy)
            clear hy hgo hstop
            gi_wp2
            gi_quiet ((gi_at_call 35; exact CallsIn.quiet_of_same (callsIn_wide.2 (callsIn_wide.1 (step32q _ _ _)))))
            gi_wp2
            go_roundw
            case rel => exact ⟨m + 1, by omega, by omega, by go_num, hid (by obtain ⟨q, hq⟩ := hq.out; rw [hq]; exact ⟨_, World.drewN_drewN _ _ _⟩), HG⟩
            case measure => simp [intOf]; omega
          · have hyb : (y == (x + (m : Int)) % 4294967296) = false := by simp [hy]
            have HS := hid (hstop.out hy)
            clear hy hgo hstop
            gi_wp2
            gi_quiet ((gi_at_call 35; exact CallsIn.quiet_of_same (callsIn_wide.2 (callsIn_wide.1 (step32q _ _ _)))))
            have hq4 : ∃ q, wr.drewN nq = wo.drewN q := by obtain ⟨q, hq⟩ := hq.out; rw [hq]; exact ⟨_, World.drewN_drewN _ _ _⟩
            obtain ⟨hJ4, hb4, hs4, hbox4, hcp4⟩ := FIN.out _ hq4
            have hm4 := hid HS.out
            obtain ⟨W4, hW4⟩ : ∃ W4, W4 = wr.drewN nq := ⟨_, rfl⟩
            rw [← hW4] at hJ4 hb4 hs4 hbox4 hcp4 ⊢
            clear hW4 hq4
            have hplen : pre.length < xs.length := by have := hpl.out; omega
            obtain ⟨fn, tmps, assign, body, hy, hR⟩ := hY pre (x, m) W4 hJ4 hplen
            dsimp only at hy
            have HRR := hid hR
            have HB4 := hid hb4
            have HS4 := hid hs4
            have hpr : Hid (runs xs = (pre ++ [(x, m)]) ++ runs (xs.drop (p + m))) := hid (by rw [hruns.out, hra.out, ← hm4.out]; simp)
            clear hR hb4 hs4 FIN hplen
            gi_wp2
            refine HRR.out.mono ?_
            rintro e W5 (⟨rfl, hJ5, hk5⟩ | ⟨rfl, hJx5⟩)
            · have hb5 := hid (HB4.out.trans hk5)
              have hs5 := hid (Nat.le_trans HS4.out hk5.size)
              clear hk5
              gi_wp2
              go_roundw
              case rel => exact ⟨p + m, pre ++ [(x, m)], by omega, by go_num, hJ5, hpr, hid (by have := hpl.out; simp; omega), hb5, hs5⟩
              case measure => simp [intOf]; omega
            · gi_wp2
              refine bodyPost_ret (results_none rfl _ _ _) rfl ?_
              exact ⟨⟨_, rfl⟩, .inr ⟨_, by rw [hpr.out]; exact List.prefix_append _ _, hJx5⟩⟩
        · have HS := hid (rl_end (by omega) hrl.out hm)
          have hge : ¬ ((p : Int) + m < (xs.length : Int)) := by omega
          have hd1 : decide ((p : Int) + m < (xs.length : Int)) = false := decide_eq_false hge
          have HC := hid hc
          have HB := hid hbox
          have HP := hid hcp
          clear hc hbox hcp hge
          · gi_wp2
            gi_quiet (fail)
            have hq4 : ∃ q, wr.drewN nq = wo.drewN q := by obtain ⟨q, hq⟩ := hq.out; rw [hq]; exact ⟨_, World.drewN_drewN _ _ _⟩
            obtain ⟨hJ4, hb4, hs4, hbox4, hcp4⟩ := FIN.out _ hq4
            have hm4 := hid HS.out
            obtain ⟨W4, hW4⟩ : ∃ W4, W4 = wr.drewN nq := ⟨_, rfl⟩
            rw [← hW4] at hJ4 hb4 hs4 hbox4 hcp4 ⊢
            clear hW4 hq4
            have hplen : pre.length < xs.length := by have := hpl.out; omega
            obtain ⟨fn, tmps, assign, body, hy, hR⟩ := hY pre (x, m) W4 hJ4 hplen
            dsimp only at hy
            have HRR := hid hR
            have HB4 := hid hb4
            have HS4 := hid hs4
            have hpr : Hid (runs xs = (pre ++ [(x, m)]) ++ runs (xs.drop (p + m))) := hid (by rw [hruns.out, hra.out, ← hm4.out]; simp)
            clear hR hb4 hs4 FIN hplen
            gi_wp2
            refine HRR.out.mono ?_
            rintro e W5 (⟨rfl, hJ5, hk5⟩ | ⟨rfl, hJx5⟩)
            · have hb5 := hid (HB4.out.trans hk5)
              have hs5 := hid (Nat.le_trans HS4.out hk5.size)
              clear hk5
              gi_wp2
              go_roundw
              case rel => exact ⟨p + m, pre ++ [(x, m)], by omega, by go_num, hJ5, hpr, hid (by have := hpl.out; simp; omega), hb5, hs5⟩
              case measure => simp [intOf]; omega
            · gi_wp2
              refine bodyPost_ret (results_none rfl _ _ _) rfl ?_
              exact ⟨⟨_, rfl⟩, .inr ⟨_, by rw [hpr.out]; exact List.prefix_append _ _, hJx5⟩⟩
    · have hpe : p = xs.length := by omega
      have HPE := hid hpe
      clear hpe
      gi_wp2
      go_end0
      exact ⟨⟨_, rfl⟩, .inl ⟨_, by rw [hruns.out, HPE.out, List.drop_length, runs_nil, List.append_nil], hJs⟩⟩
theorem info22 : (Try.prog.info? 22).map (fun i => (i.zero, i.size, i.bytes)) = some (some (.int .u32 0), 1, 4) := by kernel_rfl
set_option maxRecDepth 100000 in
theorem clone_nil (n c : Nat) (w : World) : Calls Try.prog 28 #[.slice none n c] w fun e w' => e = .returned (.slice none 0 0) ∧ w = w' := by
  have h0 := fun w => Lib.run_eql_slice_nil (P := Try.prog) w 23 22 none n c 0 0 Try.underlying23
  go_enter Try.func28, Try.ntmps28
  go_wp2
  go_ret
  exact ⟨rfl, rfl⟩
set_option maxRecDepth 100000 in
theorem clone_some (b o n c : Nat) (cs : List Value) (hl : cs.length = n * 1) (h1 : ∀ u ∈ cs, u.oneCell' = true) (hn : n ≤ 35184372088832) (w : World) (hc : ∀ j, j < cs.length → w.cell? ⟨b, o + j, none⟩ = cs[j]?) (hb : b < w.heap.size) :
    Calls Try.prog 28 #[.slice (some ⟨b, o, none⟩) n c] w fun e w' => ∃ v, e = .returned v ∧ w'.ownsRow w.heap.size 22 1 v n cs ∧ Below w.heap.size w w' := by
  have h0 := fun w => Lib.run_eql_slice_nil (P := Try.prog) w 23 22 (some ⟨b, o, none⟩) n c 0 0 Try.underlying23
  obtain ⟨i0, hi, hz0, hz1, hz2⟩ := info_parts info22
  have HC := hid hc
  have HL := hid hl
  clear hc hl
  go_enter Try.func28, Try.ntmps28
  go_wp2_with (at_builtin; refine wpList_append_own _ rfl _ _ 23 rfl w.heap.size 22 i0 (.int .u32 0) 1 4 Try.underlying23 hi hz0 hz1 hz2 rfl (by decide) _ 0 [] rfl (World.ownsRow_made _ #[] 0 (Nat.le_refl _) (by decide) rfl) ⟨b, o, none⟩ n c cs rfl HL.out ?c1 h1 ?c3 ?c4 ?c5 ?_)
  case c1 => exact RowV.news (fun j hj => ((((Below.refl _ w).alloc (Nat.le_refl _) _).cell (p := ⟨b, o + j, none⟩) hb).trans (HC.out j hj)))
  case c3 => unfold maxLen; omega
  case c4 => omega
  case c5 => simp
  intro v' w1 hown' hgrow _
  go_wp2
  go_ret
  refine ⟨_, rfl, by simpa using hown', (((Below.refl _ w).alloc (Nat.le_refl _) _).grown hgrow (by simp) ?_)⟩
  intro k hk
  simp [Value.ownBlock] at hk
  omega
set_option maxRecDepth 100000 in
theorem clone_zero (ad : Addr) (c : Nat) (w : World) :
    Calls Try.prog 28 #[.slice (some ad) 0 c] w fun e w' => ∃ v, e = .returned v ∧ w'.ownsRow w.heap.size 22 1 v 0 [] ∧ Below w.heap.size w w' := by
  have h0 := fun w => Lib.run_eql_slice_nil (P := Try.prog) w 23 22 (some ad) 0 c 0 0 Try.underlying23
  obtain ⟨i0, hi, hz0, hz1, hz2⟩ := info_parts info22
  go_enter Try.func28, Try.ntmps28
  go_wp2_with (at_builtin; refine wpList_append_own _ rfl _ _ 23 rfl w.heap.size 22 i0 (.int .u32 0) 1 4 Try.underlying23 hi hz0 hz1 hz2 rfl (by decide) _ 0 [] rfl (World.ownsRow_made _ #[] 0 (Nat.le_refl _) (by decide) rfl) ad 0 c [] rfl rfl ?c1 ?c2 ?c3 ?c4 ?c5 ?_)
  case c1 => intro j u hu; simp at hu
  case c2 => intro u hu; simp at hu
  case c3 => decide
  case c4 => decide
  case c5 => simp
  intro v' w1 hown' hgrow _
  go_wp2
  go_ret
  refine ⟨_, rfl, by simpa using hown', (((Below.refl _ w).alloc (Nat.le_refl _) _).grown hgrow (by simp) ?_)⟩
  intro k hk
  simp [Value.ownBlock] at hk
  omega
/-- slices.Clone at []uint16: a slice with the same numbers, in memory of its own. -/
theorem clone_any (a : Option Addr) (c : Nat) (xs : List Int) (hn : xs.length ≤ 35184372088832) (w : World) (hr : RowV 0 w.heap.size w a (xs.map (Value.int .u32))) :
    Calls Try.prog 28 #[.slice a xs.length c] w fun e w' => ∃ a' c', e = .returned (.slice a' xs.length c') ∧ RowV w.heap.size w'.heap.size w' a' (xs.map (Value.int .u32)) ∧ Below w.heap.size w w' := by
  cases a with
  | none =>
    have : xs = [] := by
      rcases hr with h | ⟨b, o, h, _⟩
      · simpa using h
      · cases h
    subst this
    refine (clone_nil 0 c w).mono ?_
    rintro e w' ⟨rfl, rfl⟩
    exact ⟨_, _, rfl, .inl rfl, Below.refl _ _⟩
  | some ad =>
    rcases hr with h | ⟨b, o, h, _, hb, hc⟩
    · have : xs = [] := by simpa using h
      subst this
      refine (clone_zero ad c w).mono ?_
      rintro e w' ⟨v, rfl, hown, hb⟩
      obtain ⟨a', c', rfl, _⟩ := slice_of_row hown
      exact ⟨_, _, rfl, .inl rfl, hb⟩
    · cases h
      refine (clone_some b o xs.length c (xs.map (Value.int .u32)) (by simp) (by simp [Value.oneCell']) hn w hc hb).mono ?_
      rintro e w' ⟨v, rfl, hown, hb⟩
      obtain ⟨a', c', rfl, _⟩ := slice_of_row hown
      exact ⟨_, _, rfl, RowV.of hown, hb⟩
theorem runs_any (a : Option Addr) (c : Nat) (xs : List Int) (hn : xs.length ≤ 35184372088832) (w : World) (hr : Hid (RowV 0 w.heap.size w a (xs.map (Value.int .u32)))) :
    Calls Try.prog 9 #[.slice a xs.length c] w fun e w' => ∃ bo a' c', e = .returned (.func (.func 34) #[] #[.pointer (some ⟨bo, 0, none⟩)]) ∧ bo < w'.heap.size ∧ w.heap.size ≤ bo ∧ w'.cell? ⟨bo, 0, none⟩ = some (.slice a' xs.length c') ∧ Hid (RowV w.heap.size w'.heap.size w' a' (xs.map (Value.int .u32))) ∧ Hid (Below w.heap.size w w') := by
  go_enter Try.func9, Try.ntmps9
  go_wp2_with (go_at_call 28; refine (clone_any a c xs hn _ hr.out).mono ?_; rintro e w1 ⟨a', c', rfl, hr1, hb1⟩; have HR1 := hid hr1; have HB1 := hid hb1; clear hr1 hb1)
  go_ret
  refine ⟨w1.heap.size, a', c', rfl, by simp, HB1.out.size, ?_, ?_, ?_⟩
  · simp
  · exact hid ((HR1.out.later ((Below.refl _ _).alloc (Nat.le_refl _) _)).mono (Nat.le_refl _) (by simp))
  · exact hid (HB1.out.alloc HB1.out.size _)
theorem runs_stops (n : Nat) (hn : 1 ≤ n) (bo lo n₀ : Nat) (a : Option Addr) (xs : List Int) (c : Nat) (hlen : xs.length ≤ 35184372088832) (w : World) (hbo : bo < n₀) (hbo' : lo ≤ bo) (hn₀ : n₀ ≤ w.heap.size)
    (ho : w.cell? ⟨bo, 0, none⟩ = some (.slice a xs.length c)) (hr : RowV lo n₀ w a (xs.map (Value.int .u32))) :
    SeqStopsK FW n Try.prog 34 #[.pointer (some ⟨bo, 0, none⟩)] (fun x : Int × Nat => #[Value.int .u32 x.1, Value.int .i64 (x.2 : Nat)]) (Keep lo n₀) (fun ys => ys = runs xs) (fun pre => pre <+: runs xs) xs.length w := fun l J Jx W hW hJ _ hY h0 =>
  runs1 n hn l bo lo n₀ a xs c hlen hbo hbo' J Jx hY W hJ ((hW.cell (p := ⟨bo, 0, none⟩) (by show bo < w.heap.size; omega)).trans ho) (hr.later (hW.mono hn₀)) h0
end Go.Proofs.Ytidbkkebkgeioaa.It
