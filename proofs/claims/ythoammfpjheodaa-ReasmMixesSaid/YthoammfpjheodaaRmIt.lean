import Derived.Test.YthoammfpjheodaaRzQ
import Derived.Test.YthoammfpjheodaaRaZ
import Derived.WalkLawsBesides
import Derived.Sort.QuietIn
import Derived.RangeFuncNested
import Derived.RangeFuncBound
import Derived.RangeFuncCalls
import Derived.RangeFuncLeaves
import Derived.Shelf.Abstract
import Derived.OwnWalkIn
import Derived.TacticsInMore
import Derived.LoopNIn
import Derived.LoopIn
namespace Go.Proofs.Ythoammfpjheodaa.Rz
open Go.ChangeShapes Go.WideShapes Go.ChangeAt Go.RowKit Go.Shelf MK
open Base (hid cell_new1 cell_old1 froz_new1 froz_old1)
attribute [local go_sem] Oper.semAt_some
set_option linter.unusedVariables false
set_option linter.unusedSimpArgs false
/-! the iterator of slices.Chunk (turned from the FRAG seat's) -/
/-- What lies below n₀, but for block cnt, lies as it lay. -/
structure Keep (cnt n₀ : Nat) (W W' : World) : Prop where
  size : W.heap.size ≤ W'.heap.size
  block : ∀ b, b < n₀ → b ≠ cnt → W'.heap[b]? = W.heap[b]?
theorem Keep.refl (cnt n₀ : Nat) (W : World) : Keep cnt n₀ W W := ⟨Nat.le_refl _, fun _ _ _ => rfl⟩
theorem Keep.trans {cnt n₀ : Nat} {A B C : World} (h : Keep cnt n₀ A B) (k : Keep cnt n₀ B C) : Keep cnt n₀ A C := ⟨Nat.le_trans h.size k.size, fun b hb hne => (k.block b hb hne).trans (h.block b hb hne)⟩
theorem Keep.cell {cnt n₀ : Nat} {W W' : World} (h : Keep cnt n₀ W W') {p : Addr} (hp : p.block < n₀) (hne : p.block ≠ cnt) : W'.cell? p = W.cell? p := World.cell?_of_block (w := W) (h.block p.block hp hne)
theorem Keep.of_below {cnt n₀ : Nat} {W W' : World} (h : Below n₀ W W') : Keep cnt n₀ W W' := ⟨h.size, fun b hb _ => h.block b hb⟩
theorem Keep.of_grown {cnt n₀ : Nat} {W W' : World} (h : W.grownBy W' (some cnt)) (hn : n₀ ≤ W.heap.size) : Keep cnt n₀ W W' := ⟨h.size, fun b hb hne => h.block b (by omega) (fun e => hne (by cases e; rfl))⟩
theorem Keep.drewN (cnt n₀ : Nat) (W : World) (n : Nat) : Keep cnt n₀ W (W.drewN n) := ⟨Nat.le_refl _, fun _ _ _ => rfl⟩
theorem keepK_b {cnt n₀ : Nat} {w : World} (hn : n₀ ≤ w.heap.size) (W : World) (l : Nat) (o o' : Obj) (hl : w.heap.size ≤ l) (h : W.heap[l]? = some o) (_ : o.isCells = false) (_ : o.isWalk = false) : Keep cnt n₀ W (W.putObj l o') :=
  Keep.of_below ((Below.refl n₀ W).grown (grownBy_putObj' W l o') (by have := (Array.getElem?_eq_some_iff.1 h).1; omega) (fun k e => by cases e; omega))
theorem grown_drewN (w : World) (n : Nat) (row : Option Nat) : w.grownBy (w.drewN n) row := ⟨rfl, rfl, rfl, Nat.le_refl _, fun _ _ _ => rfl⟩
/-! ### slices.Chunk of bytes -/
def intOf : Value → Int
  | .int _ x => x
  | _ => 0
theorem chunk_any (A : Option Addr) (n c : Nat) (s : Int) (hs : 1 ≤ s) (w : World) :
    Calls Try.prog 44 #[.slice A n c, .int .i64 s] w fun e w' => e = .returned (.func (.func 89) #[] #[.pointer (some ⟨w.heap.size, 0, none⟩), .pointer (some ⟨w.heap.size + 1, 0, none⟩)]) ∧ w' = (w.alloc (.cells #[.slice A n c] 32)).alloc (.cells #[.int .i64 s] 3) := by
  go_enter Try.func44, Try.ntmps44
  go_wp2
  go_ret
  exact ⟨rfl, rfl⟩
/-- How many parts of s a row of n has. -/
def parts (n s : Nat) : Nat := (n + s - 1) / s
theorem parts_lt {n s k : Nat} (hs : 0 < s) : k < parts n s ↔ k * s < n := by
  unfold parts
  rw [Nat.lt_div_iff_mul_lt hs]
  constructor <;> intro h
  · have : k * s = s * k := Nat.mul_comm _ _
    omega
  · have : k * s = s * k := Nat.mul_comm _ _
    omega
theorem parts_le (n s : Nat) (hs : 0 < s) : parts n s ≤ n := by
  rcases Nat.lt_or_ge n (parts n s) with h | h
  · have := (parts_lt hs).1 h
    have := Nat.le_mul_of_pos_right n hs
    omega
  · exact h
/-- The k-th part's word. -/
def chunkV (ad : Addr) (n s k : Nat) : Value := .slice (some (ad.add (k * s))) (min s (n - k * s)) (min s (n - k * s))
theorem range_pre {k m : Nat} (h : k ≤ m) : List.range k <+: List.range m := by
  obtain ⟨d, rfl⟩ : ∃ d, m = k + d := ⟨m - k, by omega⟩
  rw [List.range_add]
  exact List.prefix_append _ _
set_option maxRecDepth 100000 in
set_option maxHeartbeats 2000000 in
theorem chunk1 (m : Nat) (hm : 1 ≤ m) (l bs bn cnt n₀ : Nat) (ad : Addr) (n c s : Nat) (hs : 0 < s) (hn63 : n ≤ 1000000) (hs63 : s ≤ 1000000) (hnc : n ≤ c) (hbs : bs < n₀) (hbs' : bs ≠ cnt) (hbn : bn < n₀) (hbn' : bn ≠ cnt) (J Jx : List Nat → World → Prop)
    (hY : ∀ pre x W, J pre W → pre.length < parts n s → YieldAt FW (m - 1) Try.prog l #[chunkV ad n s x] W fun e W' =>
      (e = .returned (.bool true) ∧ J (pre ++ [x]) W' ∧ Keep cnt n₀ W W') ∨ (e = .returned (.bool false) ∧ Jx (pre ++ [x]) W'))
    (W : World) (hJ : AbidesFrom W.heap.size J) (hcs : W.cell? ⟨bs, 0, none⟩ = some (.slice (some ad) n c)) (hcn : W.cell? ⟨bn, 0, none⟩ = some (.int .i64 s)) (h0 : J [] W) :
    CallsIn FW m Try.prog 89 #[.func (.yield l) #[] #[], .pointer (some ⟨bs, 0, none⟩), .pointer (some ⟨bn, 0, none⟩)] W fun e W' => (∃ v, e = .returned v) ∧
      ((∃ ys, ys = List.range (parts n s) ∧ J ys W') ∨ (∃ pre, pre <+: List.range (parts n s) ∧ Jx pre W')) := by
  refine callsIn_of_wp Try.func89 rfl trivial ?_ rfl
  simp only [Try.ntmps89, List.size_toArray, List.length_cons, List.length_nil, Nat.reduceAdd, Nat.reduceSub, Array.replicate_succ, Array.replicate_zero, List.push_toArray, List.append_toArray, List.nil_append, List.cons_append]
  have HJ := hid hJ
  clear hJ
  gi_wp2
  gi_loopw [4] (fun i wr => ∃ k : Nat, k ≤ parts n s ∧ i = .int .i64 ((k * s : Nat) : Int) ∧ J (List.range k) wr ∧ Hid (Keep cnt n₀ W wr)) (fun i _ => n + s - (intOf i).toNat)
  case atStart => exact ⟨0, Nat.zero_le _, by simp, h0, hid (Keep.refl _ _ _)⟩
  case round =>
    obtain ⟨k, hk, rfl, hJs, hnx⟩ := hrel
    have hcs' : wr.cell? ⟨bs, 0, none⟩ = some (.slice (some ad) n c) := (hnx.out.cell (p := ⟨bs, 0, none⟩) hbs hbs').trans hcs
    have hcn' : wr.cell? ⟨bn, 0, none⟩ = some (.int .i64 s) := (hnx.out.cell (p := ⟨bn, 0, none⟩) hbn hbn').trans hcn
    have hnext : (k + 1) * s = k * s + s := Nat.succ_mul k s
    obtain ⟨q, hq⟩ : ∃ q, k * s = q := ⟨_, rfl⟩
    have hkl := parts_lt (n := n) (k := k) hs
    rw [hq] at hnext hkl ⊢
    by_cases hlt : q < n
    · have fin : ∀ z, J (List.range k) (wr.drewN z) := fun z => HJ.out _ _ _ none hJs (grown_drewN _ _ _) (fun r e => by cases e)
      have FIN := hid fin
      have HQ := hid hq
      have HK := hid hkl
      have HN := hid hnext
      clear hq hkl hnext fin
      have HH := hid hY
      clear hY hcs hcn
      by_cases hmin : n - q < s
      · have PV : Hid (chunkV ad n s k = .slice (some (ad.add q)) (n - q) (n - q)) := hid (by
          unfold chunkV
          rw [HQ.out, Nat.min_eq_right (by omega)])
        have em : min (s : Int) ((n - q : Nat) : Int) = ((n - q : Nat) : Int) := by omega
        have em2 : ((q : Int) + ((n - q : Nat) : Int)).toNat - q = n - q := by omega
        gi_wp2
        gi_quiet (fail)
        have hJ4 := FIN.out nq
        obtain ⟨W4, hW4⟩ : ∃ W4, W4 = wr.drewN nq := ⟨_, rfl⟩
        have c1 : W4.cell? ⟨bs, 0, none⟩ = some (.slice (some ad) n c) := by rw [hW4, World.cell?_drewN]; exact hcs'
        have c2 : W4.cell? ⟨bn, 0, none⟩ = some (.int .i64 s) := by rw [hW4, World.cell?_drewN]; exact hcn'
        have hkp : Hid (Keep cnt n₀ W W4) := hid (by rw [hW4]; exact hnx.out.trans (Keep.drewN _ _ _ _))
        rw [← hW4] at hJ4 ⊢
        clear hW4 hcs' hcn' hJs hnx FIN
        obtain ⟨fn, tmps, assign, body, hy, hR⟩ := HH.out _ k W4 hJ4 (by simpa using HK.out.2 hlt)
        rw [PV.out] at hy
        have HRR := hid hR
        clear hR
        gi_wp2
        refine HRR.out.mono ?_
        rintro e W5 (⟨rfl, hJ5, hk5⟩ | ⟨rfl, hJx5⟩)
        · have hb5 := hid (hkp.out.trans hk5)
          have c25 : W5.cell? ⟨bn, 0, none⟩ = some (.int .i64 s) := (hk5.cell (p := ⟨bn, 0, none⟩) hbn hbn').trans c2
          have hlt' := hid hlt
          clear hk5 c1 c2 hkp
          gi_wp2
          go_roundw
          case rel => exact ⟨k + 1, by have := HK.out.2 hlt'.out; omega, by rw [HN.out]; go_num, by rw [List.range_succ]; exact hJ5, hb5⟩
          case measure => simp [intOf]; omega
        · have hlt' := hid hlt
          gi_wp2
          refine bodyPost_ret (results_none rfl _ _ _) rfl ?_
          exact ⟨⟨_, rfl⟩, .inr ⟨_, by rw [← List.range_succ]; exact range_pre (by have := HK.out.2 hlt'.out; omega), hJx5⟩⟩
      · have PV : Hid (chunkV ad n s k = .slice (some (ad.add q)) s s) := hid (by
          unfold chunkV
          rw [HQ.out, Nat.min_eq_left (by omega)])
        have em : min (s : Int) ((n - q : Nat) : Int) = (s : Int) := by omega
        have em2 : ((q : Int) + (s : Int)).toNat - q = s := by omega
        gi_wp2
        gi_quiet (fail)
        have hJ4 := FIN.out nq
        obtain ⟨W4, hW4⟩ : ∃ W4, W4 = wr.drewN nq := ⟨_, rfl⟩
        have c1 : W4.cell? ⟨bs, 0, none⟩ = some (.slice (some ad) n c) := by rw [hW4, World.cell?_drewN]; exact hcs'
        have c2 : W4.cell? ⟨bn, 0, none⟩ = some (.int .i64 s) := by rw [hW4, World.cell?_drewN]; exact hcn'
        have hkp : Hid (Keep cnt n₀ W W4) := hid (by rw [hW4]; exact hnx.out.trans (Keep.drewN _ _ _ _))
        rw [← hW4] at hJ4 ⊢
        clear hW4 hcs' hcn' hJs hnx FIN
        obtain ⟨fn, tmps, assign, body, hy, hR⟩ := HH.out _ k W4 hJ4 (by simpa using HK.out.2 hlt)
        rw [PV.out] at hy
        have HRR := hid hR
        clear hR
        gi_wp2
        refine HRR.out.mono ?_
        rintro e W5 (⟨rfl, hJ5, hk5⟩ | ⟨rfl, hJx5⟩)
        · have hb5 := hid (hkp.out.trans hk5)
          have c25 : W5.cell? ⟨bn, 0, none⟩ = some (.int .i64 s) := (hk5.cell (p := ⟨bn, 0, none⟩) hbn hbn').trans c2
          have hlt' := hid hlt
          clear hk5 c1 c2 hkp
          gi_wp2
          go_roundw
          case rel => exact ⟨k + 1, by have := HK.out.2 hlt'.out; omega, by rw [HN.out]; go_num, by rw [List.range_succ]; exact hJ5, hb5⟩
          case measure => simp [intOf]; omega
        · have hlt' := hid hlt
          gi_wp2
          refine bodyPost_ret (results_none rfl _ _ _) rfl ?_
          exact ⟨⟨_, rfl⟩, .inr ⟨_, by rw [← List.range_succ]; exact range_pre (by have := HK.out.2 hlt'.out; omega), hJx5⟩⟩
    · have hke : k = parts n s := by
        rcases Nat.lt_or_ge k (parts n s) with h | h
        · exact absurd (hkl.1 h) hlt
        · omega
      have HKE := hid hke
      clear hke hkl hq hnext
      gi_wp2
      go_end0
      exact ⟨⟨_, rfl⟩, .inl ⟨_, by rw [HKE.out], hJs⟩⟩
theorem chunk_stops (m : Nat) (hm : 1 ≤ m) (bs bn cnt n₀ : Nat) (ad : Addr) (n c s : Nat) (hs : 0 < s) (hn63 : n ≤ 1000000) (hs63 : s ≤ 1000000) (hnc : n ≤ c) (w : World) (hbs : bs < n₀) (hbs' : bs ≠ cnt) (hbn : bn < n₀) (hbn' : bn ≠ cnt) (hn₀ : n₀ ≤ w.heap.size)
    (hcs : w.cell? ⟨bs, 0, none⟩ = some (.slice (some ad) n c)) (hcn : w.cell? ⟨bn, 0, none⟩ = some (.int .i64 s)) :
    SeqStopsK FW m Try.prog 89 #[.pointer (some ⟨bs, 0, none⟩), .pointer (some ⟨bn, 0, none⟩)] (fun x : Nat => #[chunkV ad n s x]) (Keep cnt n₀) (fun ys => ys = List.range (parts n s)) (fun pre => pre <+: List.range (parts n s)) (parts n s) w := fun l J Jx W hW hJ _ hY h0 =>
  chunk1 m hm l bs bn cnt n₀ ad n c s hs hn63 hs63 hnc hbs hbs' hbn hbn' J Jx hY W hJ ((hW.cell (p := ⟨bs, 0, none⟩) (by show bs < w.heap.size; omega)).trans hcs) ((hW.cell (p := ⟨bn, 0, none⟩) (by show bn < w.heap.size; omega)).trans hcn) h0
end Go.Proofs.Ythoammfpjheodaa.Rz
