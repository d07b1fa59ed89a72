import Derived.Test.YtidbkkebkgeioaaMapK
import Derived.Test.YtidbkkebkgeioaaTmLaw
import Derived.Test.YtidbkkebkgeioaaShelf
import Derived.Test.YtidbkkebkgeioaaBase
import Derived.WalkKit
import Derived.ProofKit
import Derived.OpenShut
import Derived.OwnWalk
import Derived.Below
import Derived.WalkSmall
import Derived.Maps.AppendAt
import Derived.WalkSpells
import Derived.Deep.QuietTactic
import Derived.BigQuiet
import Derived.LoopTactic
import Derived.Outline
import Derived.Sort.QuietIn
import Derived.RangeFuncNested
import Derived.RangeFuncBound
import Derived.RangeFuncCalls
import Derived.RangeFuncLeaves
import Derived.Shelf.Abstract
import Derived.OwnWalkIn
import Derived.TacticsInMore
import Derived.LoopNIn
import Derived.LoopIn
namespace Go.Proofs.Ytidbkkebkgeioaa.TmA
open Go.ChangeShapes Go.WideShapes Go.ChangeAt Go.RowKit Go.Shelf MK
attribute [local go_sem] Oper.semAt_some
set_option linter.unusedVariables false
open Base (hid cell_new1 cell_old1 froz_new1 froz_old1)
theorem below_alloc {w W : World} (h : Below w.heap.size w W) (o : Obj) : Below w.heap.size w (W.alloc o) := h.alloc h.size o
def KI : Keys Try.prog 3 Int := intKs Try.underlying3
def fI (m : Tm.M) : Int → Option Value := fun x => (Tm.look m x).map (Value.int .i64)
abbrev I64 (x : Int) : Prop := (Lit.int .i64 x).wf = true
/-- A table in memory. -/
structure Tab (w : World) (bt b n : Nat) (m : Tm.M) : Prop where
  ptr : w.cell? ⟨bt, 0, none⟩ = some (.map (some b))
  map : MapIs Try.prog 3 w KI b n (fI m) m.length
  ok : Tm.Ok m
  wf : ∀ p ∈ m, I64 p.1 ∧ 0 ≤ p.2 ∧ p.2 ≤ 4611686018427387904
theorem lt_of_cell {w : World} {b o : Nat} {v : Value} (h : w.cell? ⟨b, o, none⟩ = some v) : b < w.heap.size := by
  rcases Nat.lt_or_ge b w.heap.size with hb | hb
  · exact hb
  · simp [World.cell?, Array.getElem?_eq_none hb] at h
theorem Tab.lt {w : World} {bt b n : Nat} {m : Tm.M} (h : Tab w bt b n m) : bt < w.heap.size ∧ b < w.heap.size := ⟨lt_of_cell h.ptr, h.map.lt⟩
theorem Tab.kept {w w' : World} {bt b n : Nat} {m : Tm.M} (h : Tab w bt b n m) (h1 : w'.heap[bt]? = w.heap[bt]?) (h2 : w'.heap[b]? = w.heap[b]?) : Tab w' bt b n m :=
  ⟨(World.cell?_of_block (w := w) (w' := w') (a := ⟨bt, 0, none⟩) h1).trans h.ptr, h.map.block h2, h.ok, h.wf⟩
theorem Tab.below {w w' : World} {bt b n : Nat} {m : Tm.M} (h : Tab w bt b n m) (hb : Below w.heap.size w w') : Tab w' bt b n m := h.kept (hb.block _ h.lt.1) (hb.block _ h.lt.2)
theorem fI_get (m : Tm.M) (x : Int) : (fI m x).getD (.int .i64 0) = .int .i64 (Tm.lk m x) := by
  unfold fI Tm.lk
  cases Tm.look m x <;> rfl
theorem fI_some (m : Tm.M) (x : Int) : (fI m x).isSome = (Tm.look m x).isSome := by
  unfold fI
  cases Tm.look m x <;> rfl
theorem own_calls (w : World) (bt : Nat) (v : Value) (hc : w.cell? ⟨bt, 0, none⟩ = some v) (h1 : ∃ q, v = .map q) :
    Calls Try.prog 43 #[.pointer (some ⟨bt, 0, none⟩)] w fun e w' => e = .returned v ∧ w = w' := by
  obtain ⟨q, rfl⟩ := h1
  go_enter Try.func43, Try.ntmps43
  go_wp2
  go_ret
  exact ⟨rfl, rfl⟩
theorem own_nil (w : World) : Calls Try.prog 43 #[.pointer none] w fun e w' => e = .returned (.map none) ∧ w = w' := by
  go_enter Try.func43, Try.ntmps43
  go_wp2
  go_ret
  exact ⟨rfl, rfl⟩
theorem at_calls (w : World) (bt b n : Nat) (m : Tm.M) (x : Int) (h : Tab w bt b n m) (hx : I64 x) :
    Calls Try.prog 22 #[.pointer (some ⟨bt, 0, none⟩), .int .i64 x] w fun e w' => e = .returned (.tuple #[.int .i64 (Tm.lk m x), .bool (Tm.look m x).isSome]) ∧ w = w' := by
  have hl : (Instr.lookup 73 (.map (some b)) (.int .i64 x) true).run Try.prog w = .ok (.tuple #[.int .i64 (Tm.lk m x), .bool (Tm.look m x).isSome]) w := by
    have := h.map.look_ok Try.underlying73 (Try.zeroValue3 w) x hx
    rwa [fI_get, fI_some] at this
  have hp := h.ptr
  go_enter Try.func22, Try.ntmps22
  go_wp2_with (go_at_call 43; refine (own_calls w bt _ hp ⟨_, rfl⟩).mono ?_; rintro e w' ⟨rfl, rfl⟩)
  go_ret2
  exact ⟨rfl, rfl⟩
theorem Tab.ne {w : World} {bt b n : Nat} {m : Tm.M} (h : Tab w bt b n m) : bt ≠ b := by
  rintro rfl
  obtain ⟨D, ⟨es, clock, hb, _⟩, _⟩ := h.map
  have := h.ptr
  simp [World.cell?, hb] at this
theorem fI_put (m : Tm.M) (x v y : Int) : upd (fI m) x (some (.int .i64 v)) y = fI (Tm.put m x v) y := by
  unfold upd fI
  rw [Tm.look_put]
  split <;> rfl
theorem fI_del (m : Tm.M) (x y : Int) : upd (fI m) x none y = fI (Tm.del m x) y := by
  unfold upd fI
  rw [Tm.look_del]
  split <;> rfl
theorem turned_block {w w' : World} {b : Nat} (h : w.mapTurned w' b) (j : Nat) (hj : j < w.heap.size) (hne : j ≠ b) : w'.heap[j]? = w.heap[j]? := h.grown.block j hj (fun e => hne (by cases e; rfl))
/-- A tick is given. -/
theorem Tab.store {w : World} {bt b n : Nat} {m : Tm.M} (h : Tab w bt b n m) (x v : Int) (hx : I64 x) (hv : 0 ≤ v ∧ v ≤ 4611686018427387904) (hn : n < 1000000) :
    ∃ w', (Instr.mapUpdate 73 (.map (some b)) (.int .i64 x) (.int .i64 v)).run Try.prog w = .ok () w' ∧ Tab w' bt b (n + 1) (Tm.put m x v) ∧ w.mapTurned w' b := by
  obtain ⟨w1, hrun, hm, ht⟩ := h.map.store Try.underlying73 (by unfold maxLen; omega) x hx (.int .i64 v)
  refine ⟨w1, hrun, ⟨?_, ?_, Tm.put_ok h.ok x v, fun p hp => ?_⟩, ht⟩
  · exact (World.cell?_of_block (w := w) (a := ⟨bt, 0, none⟩) (turned_block ht bt h.lt.1 h.ne)).trans h.ptr
  · have := hm.ext (g := fI (Tm.put m x v)) fun y _ => fI_put m x v y
    rw [fI_some] at this
    rwa [Tm.length_put h.ok]
  · rcases Tm.ins_mem hp with rfl | hp
    · exact ⟨hx, hv⟩
    · exact h.wf p ((List.mem_filter.1 hp).1)
theorem Tab.drop {w : World} {bt b n : Nat} {m : Tm.M} (h : Tab w bt b n m) (x : Int) (hx : I64 x) (ty : TypeId) :
    ∃ w', (Builtin.delete_ #[73, 3] ty #[.map (some b), .int .i64 x]).run Try.prog w = .ok (.tuple #[]) w' ∧ Tab w' bt b n (Tm.del m x) ∧ w.mapTurned w' b := by
  obtain ⟨w1, hrun, hm, ht⟩ := h.map.drop Try.underlying73 x hx ty
  refine ⟨w1, hrun, ⟨?_, ?_, Tm.del_ok h.ok x, fun p hp => h.wf p ((List.mem_filter.1 hp).1)⟩, ht⟩
  · exact (World.cell?_of_block (w := w) (a := ⟨bt, 0, none⟩) (turned_block ht bt h.lt.1 h.ne)).trans h.ptr
  · have := hm.ext (g := fI (Tm.del m x)) fun y _ => fI_del m x y
    rw [fI_some] at this
    have hl := Tm.length_del h.ok x
    have e : (Tm.del m x).length = if (Tm.look m x).isSome = true then m.length - 1 else m.length := by
      split
      · rename_i hs
        rw [if_pos hs] at hl
        omega
      · rename_i hs
        rw [if_neg hs] at hl
        omega
    rwa [e]
theorem len_calls (w : World) (bt b n : Nat) (m : Tm.M) (h : Tab w bt b n m) : Calls Try.prog 20 #[.pointer (some ⟨bt, 0, none⟩)] w fun e w' => e = .returned (.int .i64 (m.length : Nat)) ∧ w = w' := by
  have hl : ∀ ty, (Builtin.len_ #[73] ty #[.map (some b)]).run Try.prog w = .ok (.int .i64 (m.length : Nat)) w := fun ty => h.map.len Try.underlying73 ty
  have hp := h.ptr
  go_enter Try.func20, Try.ntmps20
  go_wp2_with (go_at_call 43; refine (own_calls w bt _ hp ⟨_, rfl⟩).mono ?_; rintro e w' ⟨rfl, rfl⟩)
  go_ret
  exact ⟨rfl, rfl⟩
theorem new_calls (w : World) : Calls Try.prog 17 #[] w fun e w' => ∃ bt b, e = .returned (.pointer (some ⟨bt, 0, none⟩)) ∧ Tab w' bt b 0 [] ∧ w.heap.size ≤ bt ∧ w.heap.size ≤ b ∧ Below w.heap.size w w' := by
  have hmm := @run_makeMap Try.prog
  go_enter Try.func17, Try.ntmps17
  go_wp2
  go_ret
  refine ⟨w.heap.size + 1, w.heap.size, rfl, ⟨?_, ?_, List.Pairwise.nil, fun p hp => by simp at hp⟩, by omega, Nat.le_refl _, ((Below.refl _ w).alloc (Nat.le_refl _) _).alloc (by simp) _⟩
  · rw [cell_new1 _ _ _ _ (by simp)]
    rfl
  · exact (MapIs.made w KI).below (below_alloc (Below.refl _ _) _)
theorem set_bad (w : World) (bt : Nat) (x v : Int) (hv : ¬ (0 ≤ v ∧ v ≤ 4611686018427387904)) :
    Calls Try.prog 18 #[.pointer (some ⟨bt, 0, none⟩), .int .i64 x, .int .i64 v] w fun e w' => e = .returned (.iface 76 (.int .i64 1)) ∧ w = w' := by
  by_cases h1 : v < 0
  · have d1 : decide (v < 0) = true := by simpa using h1
    clear hv
    go_enter Try.func18, Try.ntmps18
    go_wp2
    go_ret
    exact ⟨rfl, rfl⟩
  · have d1 : decide (v < 0) = false := by simpa using h1
    have d2 : decide (4611686018427387904 < v) = true := by simp; omega
    clear hv
    go_enter Try.func18, Try.ntmps18
    go_wp2
    go_ret
    exact ⟨rfl, rfl⟩
theorem set_ok (w : World) (bt b n : Nat) (m : Tm.M) (x v : Int) (h : Tab w bt b n m) (hx : I64 x) (hn : n < 1000000) (hv : 0 ≤ v ∧ v ≤ 4611686018427387904) :
    Calls Try.prog 18 #[.pointer (some ⟨bt, 0, none⟩), .int .i64 x, .int .i64 v] w fun e w' => e = .returned .nilIface ∧ Tab w' bt b (n + 1) (Tm.put m x v) ∧ w.mapTurned w' b := by
  have hp := h.ptr
  have d1 : decide (v < 0) = false := by simp; omega
  have d2 : decide (4611686018427387904 < v) = false := by simp; omega
  obtain ⟨w1, hrun, hT, ht⟩ := h.store x v hx hv hn
  have HT := hid hT
  have HTT := hid ht
  clear hT ht hv
  go_enter Try.func18, Try.ntmps18
  go_wp2
  go_ret
  exact ⟨rfl, HT.out, HTT.out⟩
theorem stop_calls (w : World) (bt b n : Nat) (m : Tm.M) (x : Int) (h : Tab w bt b n m) (hx : I64 x) :
    Calls Try.prog 25 #[.pointer (some ⟨bt, 0, none⟩), .int .i64 x] w fun e w' => e = .returned (.bool (Tm.look m x).isSome) ∧ Tab w' bt b n (Tm.del m x) ∧ w.mapTurned w' b := by
  obtain ⟨w1, hrun, hT, ht⟩ := h.drop x hx 0
  have HT := hid hT
  have HTT := hid ht
  clear hT ht
  have hp := h.ptr
  have H := hid h
  clear h
  go_enter Try.func25, Try.ntmps25
  go_wp2_with (first | (go_at_call 22; refine (at_calls w bt b n m x H.out hx).mono ?_; rintro e w' ⟨rfl, rfl⟩) | (go_at_call 43; refine (own_calls w bt _ hp ⟨_, rfl⟩).mono ?_; rintro e w' ⟨rfl, rfl⟩))
  go_ret
  exact ⟨rfl, HT.out, HTT.out⟩
theorem move_no (w : World) (bt b n : Nat) (m : Tm.M) (x y : Int) (h : Tab w bt b n m) (hx : I64 x) (hs : (Tm.look m x).isSome = false) :
    Calls Try.prog 24 #[.pointer (some ⟨bt, 0, none⟩), .int .i64 x, .int .i64 y] w fun e w' => e = .returned (.iface 76 (.int .i64 4)) ∧ w = w' := by
  have H := hid h
  have HS := hid hs
  clear h hs
  go_enter Try.func24, Try.ntmps24
  go_wp2_with (go_at_call 22; refine (at_calls w bt b n m x H.out hx).mono ?_; rintro e w' ⟨rfl, rfl⟩; rw [HS.out])
  go_ret
  exact ⟨rfl, rfl⟩
theorem look_range {w : World} {bt b n : Nat} {m : Tm.M} {x : Int} (h : Tab w bt b n m) (hs : (Tm.look m x).isSome = true) : 0 ≤ Tm.lk m x ∧ Tm.lk m x ≤ 4611686018427387904 := by
  obtain ⟨v, hv⟩ := Option.isSome_iff_exists.1 hs
  have := h.wf _ (Tm.look_some_mem hv)
  unfold Tm.lk
  rw [hv]
  exact this.2
theorem move_ok (w : World) (bt b n : Nat) (m : Tm.M) (x y : Int) (h : Tab w bt b n m) (hx : I64 x) (hy : I64 y) (hn : n < 1000000) (hs : (Tm.look m x).isSome = true) :
    Calls Try.prog 24 #[.pointer (some ⟨bt, 0, none⟩), .int .i64 x, .int .i64 y] w fun e w' => e = .returned .nilIface ∧ Tab w' bt b (n + 1) (Tm.put (Tm.del m x) y (Tm.lk m x)) ∧ w.grownBy w' (some b) := by
  have hp := h.ptr
  obtain ⟨w1, hrun, hT, ht⟩ := h.drop x hx 0
  obtain ⟨w2, hrun2, hT2, ht2⟩ := hT.store y (Tm.lk m x) hy (look_range h hs) hn
  have hp1 := hT.ptr
  have hg : w.grownBy w2 (some b) := by
    have g1 := ht.grown
    have g2 := ht2.grown
    exact ⟨g2.os.trans g1.os, g2.tape.trans g1.tape, g2.output.trans g1.output, Nat.le_trans g1.size g2.size, fun k h1 h2 => (g2.block k (Nat.lt_of_lt_of_le h1 g1.size) h2).trans (g1.block k h1 h2)⟩
  have HG := hid hg
  have HT := hid hT2
  have H := hid h
  have HS := hid hs
  clear hT ht hT2 ht2 hg h hs
  go_enter Try.func24, Try.ntmps24
  go_wp2_with (go_at_call 22; refine (at_calls w bt b n m x H.out hx).mono ?_; rintro e w' ⟨rfl, rfl⟩; rw [HS.out])
  go_ret
  exact ⟨rfl, HT.out, HG.out⟩
theorem copy_calls (w : World) (bt b n : Nat) (m : Tm.M) (h : Tab w bt b n m) :
    Calls Try.prog 19 #[.pointer (some ⟨bt, 0, none⟩)] w fun e w' => ∃ bt' b', e = .returned (.pointer (some ⟨bt', 0, none⟩)) ∧ Tab w' bt' b' n m ∧ w.heap.size ≤ bt' ∧ w.heap.size ≤ b' ∧ Below w.heap.size w w' := by
  have hp := h.ptr
  obtain ⟨D, ho, h2, h3, h4⟩ := h.map
  have hc := AnyW.maps_Clone_owns Try.cloneI 3 heldE b n D w ho
  change Calls Try.prog 42 _ _ _ at hc
  have HC := hid hc
  have HR := hid (And.intro h2 (And.intro h3 (And.intro h4 (And.intro h.ok h.wf))))
  clear hc ho h2 h3 h4 h
  go_enter Try.func19, Try.ntmps19
  go_wp2_with (go_at_call 42; refine HC.out.mono ?_; rintro e w' ⟨rfl, hn, ho, hb⟩; have HN := hid hn; have HB := hid hb; clear hn ho hb)
  go_ret
  obtain ⟨h2, h3, h4, h5, h6⟩ := HR.out
  have hl := HN.out.lt
  refine ⟨w'.heap.size, w.heap.size, rfl, ⟨?_, ⟨D, HN.out.alloc _, h2, h3, h4⟩, h5, h6⟩, HB.out.size, Nat.le_refl _, below_alloc HB.out _⟩
  rw [cell_new1 _ _ _ _ rfl]
  rfl
/-! the order -/
def orB (x y : Int) : Int := if x = 0 then y else x
def cf (m : Tm.M) (x y : Int) : Int := orB (Lib.compareInt (Tm.lk m x) (Tm.lk m y)) (Lib.compareInt x y)
theorem cmp_cases (x y : Int) : (x < y ∧ Lib.compareInt x y = -1) ∨ (x = y ∧ Lib.compareInt x y = 0) ∨ (y < x ∧ Lib.compareInt x y = 1) := by
  unfold Lib.compareInt
  by_cases h1 : x < y
  · simp [h1]
  · by_cases h2 : y < x
    · simp [h1, h2]
    · simp [h1, h2]; omega
theorem lt_cf (m : Tm.M) (x y : Int) : ltOf (cf m) x y = Tm.lt m x y := by
  rw [Bool.eq_iff_iff, Tm.lt_iff]
  unfold ltOf cf orB
  rw [decide_eq_true_iff]
  rcases cmp_cases (Tm.lk m x) (Tm.lk m y) with ⟨h, e⟩ | ⟨h, e⟩ | ⟨h, e⟩ <;> rcases cmp_cases x y with ⟨h', e'⟩ | ⟨h', e'⟩ | ⟨h', e'⟩ <;> simp [e, e'] <;> omega
theorem swo (m : Tm.M) : Go.Sort.SWO (ltOf (cf m)) where
  irrefl x := by rw [lt_cf, ← Bool.not_eq_true, Tm.lt_iff]; omega
  trans x y z h1 h2 := by rw [lt_cf, Tm.lt_iff] at *; omega
  ntrans x y z h1 h2 := by rw [lt_cf, ← Bool.not_eq_true, Tm.lt_iff] at *; omega
theorem tot (m : Tm.M) (x y : Int) (h1 : ltOf (cf m) x y = false) (h2 : ltOf (cf m) y x = false) : x = y := by
  rw [lt_cf, ← Bool.not_eq_true, Tm.lt_iff] at h1 h2
  omega
theorem le_cf (m : Tm.M) : (fun x y => !ltOf (cf m) y x) = Tm.le m := by
  funext x y
  rw [lt_cf]
  rfl
theorem or_calls (w : World) (x y : Int) :
    Calls Try.prog 55 #[.slice (some ⟨w.heap.size, 0, none⟩) 2 2] (w.alloc (.cells #[.int .i64 x, .int .i64 y] 3)) fun e w' => e = .returned (.int .i64 (orB x y)) ∧ w.alloc (.cells #[.int .i64 x, .int .i64 y] 3) = w' := by
  unfold orB
  by_cases h1 : x = 0
  · subst h1
    by_cases h2 : y = 0
    · subst h2
      go_enter Try.func55, Try.ntmps55
      go_wp2
      refine wp_loop_rounds 3 ?_
      rw [rounds_succ]
      go_wp2
      rw [rounds_succ]
      go_wp2
      rw [rounds_succ]
      go_wp2
      go_ret
      exact ⟨rfl, rfl⟩
    · have d : (y != 0) = true := by simpa using h2
      go_enter Try.func55, Try.ntmps55
      go_wp2
      refine wp_loop_rounds 2 ?_
      rw [rounds_succ]
      go_wp2
      rw [rounds_succ]
      go_wp2
      go_ret
      exact ⟨rfl, rfl⟩
  · have d : (x != 0) = true := by simpa using h1
    rw [if_neg h1]
    go_enter Try.func55, Try.ntmps55
    go_wp2
    refine wp_loop_rounds 1 ?_
    rw [rounds_succ]
    go_wp2
    go_ret
    exact ⟨rfl, rfl⟩
theorem cmp_calls (x y : Int) (w : World) : Calls Try.prog 31 #[.int .i64 x, .int .i64 y] w fun e w' => e = .returned (.int .i64 (Lib.compareInt x y)) ∧ w = w' := by
  have h := AnyG.cmp_Compare_int Try.cmpI x y w
  change Calls Try.prog 31 _ _ _ at h
  exact h.mono fun e w' ⟨h1, h2⟩ => ⟨h1, h2.symm⟩
set_option maxRecDepth 100000 in
theorem closure_calls (w : World) (bv b n : Nat) (m : Tm.M) (x y : Int) (hv : w.cell? ⟨bv, 0, none⟩ = some (.map (some b))) (hm : MapIs Try.prog 3 w KI b n (fI m) m.length) (hx : I64 x) (hy : I64 y) :
    Calls Try.prog 54 #[.int .i64 x, .int .i64 y, .pointer (some ⟨bv, 0, none⟩)] w fun e w' => e = .returned (.int .i64 (cf m x y)) ∧ ∃ o, w' = w.alloc o := by
  have l1 : (Instr.lookup 73 (.map (some b)) (.int .i64 x) false).run Try.prog w = .ok (.int .i64 (Tm.lk m x)) w := by
    have := hm.lookup Try.underlying73 (Try.zeroValue3 w) x hx
    rwa [fI_get] at this
  have l2 : (Instr.lookup 73 (.map (some b)) (.int .i64 y) false).run Try.prog w = .ok (.int .i64 (Tm.lk m y)) w := by
    have := hm.lookup Try.underlying73 (Try.zeroValue3 w) y hy
    rwa [fI_get] at this
  unfold cf
  generalize Tm.lk m x = u at *
  generalize Tm.lk m y = v at *
  go_enter Try.func54, Try.ntmps54
  go_wp2_with (first | (go_at_call 31; refine (cmp_calls _ _ _).mono ?_; rintro e w' ⟨rfl, rfl⟩) | (go_at_call 55; refine (or_calls _ _ _).mono ?_; rintro e w' ⟨rfl, rfl⟩))
  go_ret
  exact ⟨rfl, _, rfl⟩
end Go.Proofs.Ytidbkkebkgeioaa.TmA
