import Derived.Test.YthoammfpjheodaaRzSh
import Derived.Test.YthoammfpjheodaaRzL
import Derived.Test.YthoammfpjheodaaBase
import Derived.WalkKit
import Derived.ProofKit
import Derived.OpenShut
import Derived.OwnWalk
import Derived.Below
import Derived.WalkSmall
import Derived.Maps.AppendAt
import Derived.WalkSpells
import Derived.Deep.QuietTactic
import Derived.BigQuiet
import Derived.LoopTactic
import Derived.Outline
import Derived.WalkLawsBesides
import Derived.Sort.QuietIn
import Derived.Shelf.Abstract
import Derived.OwnWalkIn
import Derived.TacticsInMore
import Derived.LoopNIn
import Derived.LoopIn
import Derived.Lib.SliceRun
namespace Go.Proofs.Ythoammfpjheodaa.TmA
open Go.ChangeShapes Go.WideShapes Go.ChangeAt Go.RowKit Go.Shelf Go.Sort
open Base (hid cell_new1 cell_old1 froz_new1 froz_old1)
attribute [local go_sem] Oper.semAt_some
set_option linter.unusedVariables false
set_option linter.unusedSimpArgs false
set_option maxRecDepth 100000
variable {α : Type} [Inhabited α]
theorem below_alloc {w W : World} (h : Below w.heap.size w W) (o : Obj) : Below w.heap.size w (W.alloc o) := h.alloc h.size o
theorem lt_of_cell {w : World} {b o : Nat} {v : Value} (h : w.cell? ⟨b, o, none⟩ = some v) : b < w.heap.size := by
  rcases Nat.lt_or_ge b w.heap.size with hb | hb
  · exact hb
  · simp [World.cell?, Array.getElem?_eq_none hb] at h
theorem cmp_cases (x y : Int) : (x < y ∧ Lib.compareInt x y = -1) ∨ (x = y ∧ Lib.compareInt x y = 0) ∨ (y < x ∧ Lib.compareInt x y = 1) := by
  unfold Lib.compareInt
  by_cases h1 : x < y
  · simp [h1]
  · by_cases h2 : y < x
    · simp [h1, h2]
    · simp [h1, h2]; omega
theorem cmp_calls (x y : Int) (w : World) : Calls Try.prog 63 #[.int .i64 x, .int .i64 y] w fun e w' => e = .returned (.int .i64 (Lib.compareInt x y)) ∧ w = w' := by
  have h := AnyG.cmp_Compare_int Try.cmpI x y w
  change Calls Try.prog 63 _ _ _ at h
  exact h.mono fun e w' ⟨h1, h2⟩ => ⟨h1, h2.symm⟩
theorem holds_blk (enc : α → Value) {w : World} {g : Nat} {cur : Array Value} {e : TypeId} {ss : List α} (hb : w.heap[g]? = some (.cells cur e (0, 0))) (ht : cur.toList.take ss.length = ss.map enc) : Holds enc w g 0 ss.toArray := by
  intro j hj
  have hj' : j < ss.length := by simpa using hj
  refine ⟨?_, by simp [World.frozen?, hb]⟩
  have h1 : (cur.toList.take ss.length)[j]? = (ss.map enc)[j]? := by rw [ht]
  rw [List.getElem?_take_of_lt hj'] at h1
  simp only [World.cell?, hb, Nat.zero_add]
  simp only [Option.isSome_none, Bool.false_eq_true, if_false]
  rw [← Array.getElem?_toList, h1]
  simp [hj']
theorem heap_srt (enc : α → Value) {w : World} {g n : Nat} {os : Array Obj} {cur : Array Value} {e : TypeId} {fr : Nat × Nat} (d : Array α) (hb : w.heap[g]? = some (.cells cur e fr)) :
    (grow (putRow enc (Sort.ahead w n) g 0 d) os).heap[g]? = some (.cells (putCells enc 0 d cur) e fr) := by
  have hg : g < w.heap.size := (Array.getElem?_eq_some_iff.1 hb).1
  rw [heap_grow_old _ _ (by simpa using hg)]
  simp [putRow, mapBlock, Sort.ahead, Array.getElem?_modify, hb, onCells]
theorem grown_srt (enc : α → Value) {w : World} {g n : Nat} {os : Array Obj} (d : Array α) : w.grownBy (grow (putRow enc (Sort.ahead w n) g 0 d) os) (some g) := by
  refine ⟨rfl, rfl, rfl, by simp, fun k hk hne => ?_⟩
  rw [heap_grow_old _ _ (by simpa using hk)]
  have : g ≠ k := fun e => hne (by rw [e])
  simp [putRow, mapBlock, Sort.ahead, Array.getElem?_modify, this]
theorem take_put (enc : α → Value) (cur : Array Value) (ts : List α) (h : ts.length ≤ cur.size) : (putCells enc 0 ts.toArray cur).toList.take ts.length = ts.map enc := by
  apply List.ext_getElem?
  intro j
  by_cases hj : j < ts.length
  · rw [List.getElem?_take_of_lt hj, Array.getElem?_toList]
    simp [putCells, hj, show j < cur.size by omega]
  · rw [List.getElem?_take_eq_none (by omega), List.getElem?_eq_none (by simp; omega)]
theorem owns_srt (enc : α → Value) {w : World} {base g cap n : Nat} {e : TypeId} {os : Array Obj} {cur : Array Value} {k : Nat} {ts : List α} (hl : ts.length = k) (hbase : base ≤ g) (hb : w.heap[g]? = some (.cells cur e (0, 0)))
    (h1 : k ≤ cap) (h2 : cap ≤ maxLen) (h3 : cur.size = cap * 1) :
    (grow (putRow enc (Sort.ahead w n) g 0 ts.toArray) os).ownsRow base e 1 (.slice (some ⟨g, 0, none⟩) k cap) k (ts.map enc) :=
  ⟨by simp [hl], .inr ⟨g, cap, _, rfl, hbase, heap_srt enc _ hb, h1, h2, by simp [putCells, h3], by rw [Nat.mul_one, ← hl]; exact take_put enc cur ts (by omega)⟩⟩
theorem own_some {W : World} {B n : Nat} {e : TypeId} {size : Nat} {v : Value} {xs : List Value} (h : W.ownsRow B e size v n xs) (hn : 0 < n) : ∃ g c, v = .slice (some ⟨g, 0, none⟩) n c ∧ B ≤ g := by
  rcases h.2 with ⟨_, h0⟩ | ⟨g, cap, cur, rfl, hb, _⟩
  · omega
  · exact ⟨g, cap, rfl, hb⟩
theorem below_drewN {B : Nat} {w w' : World} (h : Below B w w') (n : Nat) : Below B w (w'.drewN n) := ⟨h.os, h.tape, h.output, h.size, h.block⟩
theorem grown_below {w w1 w2 : World} {row : Option Nat} (h : Below w.heap.size w w1) (hg : w1.grownBy w2 row) : w.grownBy w2 row :=
  ⟨hg.os.trans h.os, hg.tape.trans h.tape, hg.output.trans h.output, Nat.le_trans h.size hg.size, fun k h1 h2 => (hg.block k (Nat.lt_of_lt_of_le h1 h.size) h2).trans (h.block k h1)⟩
theorem add0 (g i : Nat) : (⟨g, 0, none⟩ : Addr).add i = ⟨g, i, none⟩ := by
  unfold Addr.add
  split <;> simp_all
end Go.Proofs.Ythoammfpjheodaa.TmA
namespace Go.Proofs.Ythoammfpjheodaa.It
open Go.ChangeShapes Go.WideShapes Go.ChangeAt Go.RowKit Go.Shelf Go.Sort
open Base (hid cell_new1 cell_old1 froz_new1 froz_old1)
attribute [local go_sem] Oper.semAt_some
set_option linter.unusedVariables false
set_option linter.unusedSimpArgs false
set_option maxRecDepth 100000
open Base
theorem grown_drewN (w : World) (n : Nat) (row : Option Nat) : w.grownBy (w.drewN n) row := ⟨rfl, rfl, rfl, Nat.le_refl _, fun _ _ _ => rfl⟩
theorem info22 : (Try.prog.info? 23).map (fun i => (i.zero, i.size, i.bytes)) = some (some (.int .u32 0), 1, 4) := by kernel_rfl
set_option maxRecDepth 100000 in
theorem clone_nil (n c : Nat) (w : World) : Calls Try.prog 103 #[.slice none n c] w fun e w' => e = .returned (.slice none 0 0) ∧ w = w' := by
  have h0 := fun w => Lib.run_eql_slice_nil (P := Try.prog) w 143 23 none n c 0 0 Try.underlying143
  go_enter Try.func103, Try.ntmps103
  go_wp2
  go_ret
  exact ⟨rfl, rfl⟩
set_option maxRecDepth 100000 in
theorem clone_some (b o n c : Nat) (cs : List Value) (hl : cs.length = n * 1) (h1 : ∀ u ∈ cs, u.oneCell' = true) (hn : n ≤ 35184372088832) (w : World) (hc : ∀ j, j < cs.length → w.cell? ⟨b, o + j, none⟩ = cs[j]?) (hb : b < w.heap.size) :
    Calls Try.prog 103 #[.slice (some ⟨b, o, none⟩) n c] w fun e w' => ∃ v, e = .returned v ∧ w'.ownsRow w.heap.size 23 1 v n cs ∧ Below w.heap.size w w' := by
  have h0 := fun w => Lib.run_eql_slice_nil (P := Try.prog) w 143 23 (some ⟨b, o, none⟩) n c 0 0 Try.underlying143
  obtain ⟨i0, hi, hz0, hz1, hz2⟩ := info_parts info22
  have HC := hid hc
  have HL := hid hl
  clear hc hl
  go_enter Try.func103, Try.ntmps103
  go_wp2_with (at_builtin; refine wpList_append_own _ rfl _ _ 143 rfl w.heap.size 23 i0 (.int .u32 0) 1 4 Try.underlying143 hi hz0 hz1 hz2 rfl (by decide) _ 0 [] rfl (World.ownsRow_made _ #[] 0 (Nat.le_refl _) (by decide) rfl) ⟨b, o, none⟩ n c cs rfl HL.out ?c1 h1 ?c3 ?c4 ?c5 ?_)
  case c1 => exact RowV.news (fun j hj => ((((Below.refl _ w).alloc (Nat.le_refl _) _).cell (p := ⟨b, o + j, none⟩) hb).trans (HC.out j hj)))
  case c3 => unfold maxLen; omega
  case c4 => omega
  case c5 => simp
  intro v' w1 hown' hgrow _
  go_wp2
  go_ret
  refine ⟨_, rfl, by simpa using hown', (((Below.refl _ w).alloc (Nat.le_refl _) _).grown hgrow (by simp) ?_)⟩
  intro k hk
  simp [Value.ownBlock] at hk
  omega
set_option maxRecDepth 100000 in
theorem clone_zero (ad : Addr) (c : Nat) (w : World) :
    Calls Try.prog 103 #[.slice (some ad) 0 c] w fun e w' => ∃ v, e = .returned v ∧ w'.ownsRow w.heap.size 23 1 v 0 [] ∧ Below w.heap.size w w' := by
  have h0 := fun w => Lib.run_eql_slice_nil (P := Try.prog) w 143 23 (some ad) 0 c 0 0 Try.underlying143
  obtain ⟨i0, hi, hz0, hz1, hz2⟩ := info_parts info22
  go_enter Try.func103, Try.ntmps103
  go_wp2_with (at_builtin; refine wpList_append_own _ rfl _ _ 143 rfl w.heap.size 23 i0 (.int .u32 0) 1 4 Try.underlying143 hi hz0 hz1 hz2 rfl (by decide) _ 0 [] rfl (World.ownsRow_made _ #[] 0 (Nat.le_refl _) (by decide) rfl) ad 0 c [] rfl rfl ?c1 ?c2 ?c3 ?c4 ?c5 ?_)
  case c1 => intro j u hu; simp at hu
  case c2 => intro u hu; simp at hu
  case c3 => decide
  case c4 => decide
  case c5 => simp
  intro v' w1 hown' hgrow _
  go_wp2
  go_ret
  refine ⟨_, rfl, by simpa using hown', (((Below.refl _ w).alloc (Nat.le_refl _) _).grown hgrow (by simp) ?_)⟩
  intro k hk
  simp [Value.ownBlock] at hk
  omega
/-- slices.Clone at []uint16: a slice with the same numbers, in memory of its own. -/
theorem clone_any (a : Option Addr) (c : Nat) (xs : List Int) (hn : xs.length ≤ 35184372088832) (w : World) (hr : RowV 0 w.heap.size w a (xs.map (Value.int .u32))) :
    Calls Try.prog 103 #[.slice a xs.length c] w fun e w' => ∃ a' c', e = .returned (.slice a' xs.length c') ∧ RowV w.heap.size w'.heap.size w' a' (xs.map (Value.int .u32)) ∧ Below w.heap.size w w' := by
  cases a with
  | none =>
    have : xs = [] := by
      rcases hr with h | ⟨b, o, h, _⟩
      · simpa using h
      · cases h
    subst this
    refine (clone_nil 0 c w).mono ?_
    rintro e w' ⟨rfl, rfl⟩
    exact ⟨_, _, rfl, .inl rfl, Below.refl _ _⟩
  | some ad =>
    rcases hr with h | ⟨b, o, h, _, hb, hc⟩
    · have : xs = [] := by simpa using h
      subst this
      refine (clone_zero ad c w).mono ?_
      rintro e w' ⟨v, rfl, hown, hb⟩
      obtain ⟨a', c', rfl, _⟩ := slice_of_row hown
      exact ⟨_, _, rfl, .inl rfl, hb⟩
    · cases h
      refine (clone_some b o xs.length c (xs.map (Value.int .u32)) (by simp) (by simp [Value.oneCell']) hn w hc hb).mono ?_
      rintro e w' ⟨v, rfl, hown, hb⟩
      obtain ⟨a', c', rfl, _⟩ := slice_of_row hown
      exact ⟨_, _, rfl, RowV.of hown, hb⟩
end Go.Proofs.Ythoammfpjheodaa.It
namespace Go.Proofs.Ythoammfpjheodaa.Sl
open Go.ChangeShapes Go.WideShapes Go.ChangeAt Go.RowKit Go.Shelf Go.Sort
open Base (hid cell_new1 cell_old1 froz_new1 froz_old1)
attribute [local go_sem] Oper.semAt_some
set_option linter.unusedVariables false
set_option linter.unusedSimpArgs false
set_option maxRecDepth 100000
open It (clone_any)
open TmA (own_some)
theorem far32 (a b : Int) (w : World) : Calls Try.prog 106 #[.int .u32 a, .int .u32 b] w fun e w' => e = .returned (.int .i64 (far a b)) ∧ w = w' := by
  have h : IntKind.u32.wrap (b - a) = (b - a) % 4294967296 := rfl
  go_enter Try.func106, Try.ntmps106
  go_wp2
  go_ret
  exact ⟨rfl, rfl⟩
abbrev K32 := { x : Int // U x }
instance : Inhabited K32 := ⟨⟨0, by unfold U; omega⟩⟩
def encU (x : K32) : Value := .int .u32 x.1
def cfar (f : Int) (x y : Int) : Int := Lib.compareInt (far f x) (far f y)
theorem ltOf_far (f x y : Int) : ltOf (cfar f) x y = decide (far f x < far f y) := by
  unfold ltOf cfar
  rcases TmA.cmp_cases (far f x) (far f y) with ⟨h, e⟩ | ⟨h, e⟩ | ⟨h, e⟩ <;> rw [e] <;> simp <;> omega
theorem swo_far (f : Int) : SWO (ltOf (fun a b : K32 => cfar f a.1 b.1)) where
  irrefl x := by
    show ltOf (cfar f) x.1 x.1 = false
    rw [ltOf_far]
    simp
  trans x y z h1 h2 := by
    have h1 : ltOf (cfar f) x.1 y.1 = true := h1
    have h2 : ltOf (cfar f) y.1 z.1 = true := h2
    show ltOf (cfar f) x.1 z.1 = true
    rw [ltOf_far, decide_eq_true_iff] at *
    omega
  ntrans x y z h1 h2 := by
    have h1 : ltOf (cfar f) x.1 y.1 = false := h1
    have h2 : ltOf (cfar f) y.1 z.1 = false := h2
    show ltOf (cfar f) x.1 z.1 = false
    rw [ltOf_far, decide_eq_false_iff_not] at *
    omega
theorem tot_far (f : Int) (x y : K32) (h1 : ltOf (fun a b : K32 => cfar f a.1 b.1) x y = false) (h2 : ltOf (fun a b : K32 => cfar f a.1 b.1) y x = false) : x = y := by
  have h1 : ltOf (cfar f) x.1 y.1 = false := h1
  have h2 : ltOf (cfar f) y.1 x.1 = false := h2
  rw [ltOf_far, decide_eq_false_iff_not] at h1 h2
  exact Subtype.ext (far_inj (f := f) x.2 y.2 (by omega))
theorem closure_calls (w : World) (bf : Nat) (f x y : Int) (hf : w.cell? ⟨bf, 0, none⟩ = some (.int .u32 f)) :
    Calls Try.prog 105 #[.int .u32 x, .int .u32 y, .pointer (some ⟨bf, 0, none⟩)] w fun e w' => e = .returned (.int .i64 (cfar f x y)) ∧ ∃ q, w' = w.drewN q := by
  go_enter Try.func105, Try.ntmps105
  go_wp2
  go_quiet ((first
    | (go_at_call 106; exact Calls.quiet_of_same ((far32 _ _ _).mono fun e w' h => ⟨h.1, h.2.symm⟩))
    | (go_at_call 63; exact Calls.quiet_of_same ((TmA.cmp_calls _ _ _).mono fun e w' h => ⟨h.1, h.2.symm⟩))))
  go_wp2
  go_ret
  exact ⟨rfl, _, rfl⟩
/-- The sorted list. -/
def srt (f : Int) (l : List K32) : List K32 := l.mergeSort fun x y => !ltOf (fun a b : K32 => cfar f a.1 b.1) y x
theorem srt_le (f : Int) (l : List K32) : ((srt f l).map (·.1)).Pairwise (fun x y => far f x ≤ far f y) := by
  rw [List.pairwise_map]
  have := List.pairwise_mergeSort (le := fun x y : K32 => !ltOf (fun a b : K32 => cfar f a.1 b.1) y x) (fun a b c h1 h2 => by
    have h1 : (!ltOf (cfar f) b.1 a.1) = true := h1
    have h2 : (!ltOf (cfar f) c.1 b.1) = true := h2
    show (!ltOf (cfar f) c.1 a.1) = true
    rw [ltOf_far] at *
    simp at *
    omega) (fun a b => by
    show (!ltOf (cfar f) b.1 a.1 || !ltOf (cfar f) a.1 b.1) = true
    rw [ltOf_far, ltOf_far]
    simp
    omega) l
  refine this.imp fun {a b} h => ?_
  have h : (!ltOf (cfar f) b.1 a.1) = true := h
  rw [ltOf_far] at h
  simpa using h
theorem srt_perm (f : Int) (l : List K32) : ((srt f l).map (·.1)).Perm (l.map (·.1)) := (List.mergeSort_perm _ _).map _
theorem sortFunc_calls (w : World) (bf g cap : Nat) (f : Int) (B : Nat) (ks : List K32) (hf : w.cell? ⟨bf, 0, none⟩ = some (.int .u32 f)) (hr : w.ownsRow B 23 1 (.slice (some ⟨g, 0, none⟩) ks.length cap) ks.length (ks.map encU)) (hne : g ≠ bf) (hl : ks.length ≤ 1000000) :
    Calls Try.prog 104 #[.slice (some ⟨g, 0, none⟩) ks.length cap, .func (.func 105) #[] #[.pointer (some ⟨bf, 0, none⟩)]] w fun e w' => e = .returned (.tuple #[]) ∧ w'.ownsRow B 23 1 (.slice (some ⟨g, 0, none⟩) ks.length cap) ks.length ((srt f ks).map encU) ∧ w.grownBy w' (some g) := by
  rcases hr.2 with ⟨e, _⟩ | ⟨g', cap', cur, e, hbase, hg, r1, r2, r3, r4⟩
  · cases e
  · cases e
    have hgl : g < w.heap.size := (Array.getElem?_eq_some_iff.1 hg).1
    have hH : Go.Sort.Holds encU w g 0 ks.toArray := TmA.holds_blk encU hg (by simpa using r4)
    have eg : ∀ args w, (callFunc 105 args).run Try.prog w = .ok (.enter 105 args) w := enters_of Try.func105 (by kernel_rfl) rfl
    have hcmp : CmpLays1 Try.prog 105 #[.pointer (some ⟨bf, 0, none⟩)] encU (fun a b : K32 => cfar f a.1 b.1) g 0 ks.toArray.size w := by
      intro q os dk hs x y
      have hg1 : w.grownBy (sortWorld encU w g 0 q dk os) (some g) := TmA.grown_srt encU dk
      refine (closure_calls (sortWorld encU w g 0 q dk os) bf f x.1 y.1 ?_).mono ?_
      · exact (World.cell?_of_block (w := w) (a := ⟨bf, 0, none⟩) (hg1.block bf (TmA.lt_of_cell hf) (fun e => hne (by cases e; rfl)))).trans hf
      · rintro e w' ⟨rfl, q, rfl⟩
        exact ⟨rfl, q, #[], by rw [grow_empty]⟩
    have h := Any.slices_SortFunc_total Try.sortU encU (fun _ => rfl) (fun a b : K32 => cfar f a.1 b.1) (swo_far f) 105 #[.pointer (some ⟨bf, 0, none⟩)] g 0 cap ks.toArray w eg hcmp hH hgl (by simp; omega) (tot_far f)
    change Calls Try.prog 104 _ _ _ at h
    rw [show ks.toArray.size = ks.length by simp] at h
    refine h.mono ?_
    rintro e w' ⟨rfl, q, os, rfl⟩
    exact ⟨rfl, TmA.owns_srt encU (w := w) (n := q) (os := os) (ts := srt f ks) (k := ks.length) (by unfold srt; rw [List.length_mergeSort]) hbase hg r1 r2 r3, TmA.grown_srt encU _⟩
theorem sortFunc_none (w : World) (fv : Value) : Calls Try.prog 104 #[.slice none 0 0, fv] w fun e w' => e = .returned (.tuple #[]) ∧ w = w' := by
  have h := AnyF.slices_SortFunc_none (P := Try.prog) (ρ := Try.sortU_ren) { Try.sortU with } none 0 fv w
  change Calls Try.prog 104 _ _ _ at h
  exact h.mono fun e w' h => ⟨h.1, h.2.symm⟩

/-- A list in a block of its own. -/
structure Mem (W : World) (g cap : Nat) (ys : List Int) : Prop where
  shape : ∃ cur : Array Value, W.heap[g]? = some (.cells cur 23 (0, 0)) ∧ cur.size = cap
  cell : ∀ j (h : j < ys.length), W.cell? ⟨g, j, none⟩ = some (.int .u32 ys[j])
theorem Mem.of {W : World} {g cap B : Nat} {ys : List Int} (h : W.ownsRow B 23 1 (.slice (some ⟨g, 0, none⟩) ys.length cap) ys.length (ys.map (.int .u32))) : Mem W g cap ys ∧ B ≤ g ∧ ys.length ≤ cap ∧ cap ≤ maxLen := by
  have h0 := h
  rcases h.2 with ⟨e, _⟩ | ⟨g', cap', cur, e, hb, hg, r1, r2, r3, r4⟩
  · cases e
  · cases e
    refine ⟨⟨⟨cur, hg, by simpa using r3⟩, fun j hj => ?_⟩, hb, r1, r2⟩
    have := h0.cells (g := g) rfl j (.int .u32 ys[j]) (by simp [hj])
    rw [TmA.add0] at this
    exact this
theorem Mem.own {W : World} {g cap B : Nat} {ys : List Int} (h : Mem W g cap ys) (hB : B ≤ g) (k : Nat) (hk : k ≤ ys.length) (hc : ys.length ≤ cap) (hm : cap ≤ maxLen) : W.ownsRow B 23 1 (.slice (some ⟨g, 0, none⟩) k cap) k ((ys.take k).map (.int .u32)) := by
  obtain ⟨cur, hg, hs⟩ := h.shape
  refine ⟨by simp; omega, .inr ⟨g, cap, cur, rfl, hB, hg, by omega, hm, by simpa using hs, ?_⟩⟩
  apply List.ext_getElem?
  intro j
  by_cases hj : j < k
  · have hc' := h.cell j (by omega)
    have e : W.cell? ⟨g, j, none⟩ = cur[j]? := by simp [World.cell?, hg]
    rw [e] at hc'
    rw [List.getElem?_take_of_lt (by omega), Array.getElem?_toList, hc']
    simp [List.getElem?_take_of_lt hj, List.getElem?_eq_getElem (show j < ys.length by omega)]
  · rw [List.getElem?_eq_none (by simp; omega), List.getElem?_eq_none (by simp; omega)]
theorem Mem.frozen {W : World} {g cap : Nat} {ys : List Int} (h : Mem W g cap ys) (j : Nat) : W.frozen? ⟨g, j, none⟩ = false := by
  obtain ⟨cur, hg, hs⟩ := h.shape
  simp [World.frozen?, hg]
theorem Mem.drew {W : World} {g cap : Nat} {ys : List Int} (h : Mem W g cap ys) (q : Nat) : Mem (W.drewN q) g cap ys := ⟨h.shape, h.cell⟩
theorem shape_set {W : World} {g cap : Nat} (h : ∃ cur : Array Value, W.heap[g]? = some (.cells cur 23 (0, 0)) ∧ cur.size = cap) (j : Nat) (v : Value) : ∃ cur : Array Value, (W.setCell ⟨g, j, none⟩ v).heap[g]? = some (.cells cur 23 (0, 0)) ∧ cur.size = cap := by
  obtain ⟨cur, hg, hs⟩ := h
  refine ⟨_, by simp only [World.setCell, Array.getElem?_modify, if_pos, hg, Option.map_some]; rfl, ?_⟩
  simp [hs]
theorem Mem.set {W : World} {g cap : Nat} {ys : List Int} (h : Mem W g cap ys) (k : Nat) (hk : k < ys.length) (v : Int) : Mem (W.setCell ⟨g, k, none⟩ (.int .u32 v)) g cap (ys.set k v) := by
  refine ⟨shape_set h.shape k _, fun j hj => ?_⟩
  rw [List.length_set] at hj
  by_cases e : k = j
  · subst e
    rw [World.cell?_setCell_same _ _ _ (h.cell k hk), List.getElem_set_self]
  · rw [World.cell?_setCell_other _ _ _ _ (by simp [e]), h.cell j hj, List.getElem_set_ne e]
theorem setCells_grown (g : Nat) : ∀ (vs : List Value) (o : Nat) (W : World), W.grownBy (W.setCells g o vs) (some g)
  | [], _, W => World.grownBy.refl _ _
  | v :: vs, o, W => (show W.grownBy (W.setCell ⟨g, o, none⟩ v) (some g) from ⟨rfl, rfl, rfl, by simp [World.setCell], fun k h1 h2 => by
      have : g ≠ k := fun e => h2 (by rw [e])
      simp [World.setCell, Array.getElem?_modify, this]⟩).trans (setCells_grown g vs (o + 1) _)
theorem grown_setAt (W : World) (g o : Nat) (v : Value) : W.grownBy (W.setCell ⟨g, o, none⟩ v) (some g) := setCells_grown g [v] o W
theorem shape_sets {g cap : Nat} : ∀ (vs : List Value) (o : Nat) {W : World} (h : ∃ cur : Array Value, W.heap[g]? = some (.cells cur 23 (0, 0)) ∧ cur.size = cap), ∃ cur : Array Value, (W.setCells g o vs).heap[g]? = some (.cells cur 23 (0, 0)) ∧ cur.size = cap
  | [], _, _, h => h
  | v :: vs, o, _, h => shape_sets vs (o + 1) (shape_set h o v)
theorem Mem.clear {W : World} {g cap : Nat} {ys : List Int} (h : Mem W g cap ys) (k : Nat) (hk : k ≤ ys.length) (vs : List Value) : Mem (W.setCells g k vs) g cap (ys.take k) := by
  refine ⟨shape_sets vs k h.shape, fun j hj => ?_⟩
  rw [List.length_take] at hj
  rw [World.cell?_setCells_out _ _ _ _ _ (fun _ _ => .inl (by show j < k; omega)), h.cell j (by omega), List.getElem_take]
set_option maxHeartbeats 8000000 in
theorem compact_calls (g cap B : Nat) (xs : List Int) (w : World) (hr : w.ownsRow B 23 1 (.slice (some ⟨g, 0, none⟩) xs.length cap) xs.length (xs.map (.int .u32))) (hl : xs.length ≤ 1000) :
    Calls Try.prog 107 #[.slice (some ⟨g, 0, none⟩) xs.length cap] w fun e w' => e = .returned (.slice (some ⟨g, 0, none⟩) (cp xs).length cap) ∧ w'.ownsRow B 23 1 (.slice (some ⟨g, 0, none⟩) (cp xs).length cap) (cp xs).length ((cp xs).map (.int .u32)) ∧ w.grownBy w' (some g) := by
  obtain ⟨hm, hB, hcap, hcm⟩ := Mem.of hr
  have HM := hid hm
  by_cases h2 : xs.length < 2
  · have hd : decide ((xs.length : Int) < 2) = true := by simp; omega
    have hcp : cp xs = xs := by
      match xs, h2 with
      | [], _ => rfl
      | [x], _ => rfl
    rw [hcp]
    have HR := hid hr
    clear hr hm hcp
    go_enter Try.func107, Try.ntmps107
    go_wp2
    go_ret
    exact ⟨rfl, HR.out, World.grownBy.refl _ _⟩
  · have hd : decide ((xs.length : Int) < 2) = false := by simp; omega
    have h2' : 2 ≤ xs.length := by omega
    clear h2 hr hm
    go_enter Try.func107, Try.ntmps107
    go_wp2
    go_loopw [3] (fun v3 wr => ∃ k : Nat, 1 ≤ k ∧ k ≤ xs.length ∧ v3 = .int .i64 k ∧ Hid (cp (xs.take k) = xs.take k) ∧ Hid (∃ q, wr = w.drewN q)) (fun v3 _ => xs.length - (intOf v3).toNat)
    case atStart =>
      refine ⟨1, Nat.le_refl _, by omega, rfl, hid ?_, hid ⟨0, rfl⟩⟩
      match xs, h2' with
      | x :: y :: l, _ => rfl
    case round =>
      obtain ⟨k, hk1, hk, rfl, HC, HQ⟩ := hrel
      have HMr : Hid (Mem wr g cap xs) := by
        obtain ⟨q, rfl⟩ := HQ.out
        exact hid (HM.out.drew q)
      by_cases hlt : k < xs.length
      · obtain ⟨x, hx⟩ : ∃ x, xs[k] = x := ⟨_, rfl⟩
        obtain ⟨y, hy⟩ : ∃ y, xs[k - 1]'(by omega) = y := ⟨_, rfl⟩
        have c0 : wr.cell? ⟨g, k, none⟩ = some (.int .u32 x) := hx ▸ HMr.out.cell k hlt
        have c1 : wr.cell? ⟨g, k - 1, none⟩ = some (.int .u32 y) := hy ▸ HMr.out.cell (k - 1) (by omega)
        have hct := cp_take xs k hk1 hlt
        rw [hx, hy] at hct
        have hw1 : IntKind.i64.wrap ((k : Int) - 1) = ((k - 1 : Nat) : Int) := by rw [IntKind.wrap_i64]; omega
        have hw2 : ((k : Int) - 1).toNat = k - 1 := by omega
        have hb1 : (0 : Int) ≤ (k : Int) - 1 := by omega
        have hb2 : (k : Int) - 1 < (xs.length : Int) := by omega
        have HX := hid hx
        have HY := hid hy
        clear hx hy
        by_cases hxy : x = y
        · have hd : (x == y) = true := by simpa using hxy
          rw [if_pos hxy, HC.out] at hct
          have HCT := hid hct
          have HXY := hid hxy
          clear hct hxy
          go_wp2
          go_quiet (fail)
          have hck : ¬ cap = k := by omega
          go_wp2
          have HM2 : Hid (Mem (wr.drewN nq) g cap xs) := hid (HMr.out.drew _)
          have HG2 : Hid (w.grownBy (wr.drewN nq) (some g)) := hid (by
            obtain ⟨q, hq⟩ := HQ.out
            rw [hq]
            exact (It.grown_drewN _ _ _).trans (It.grown_drewN _ _ _))
          generalize wr.drewN nq = W0 at *
          clear c0 c1 hw1 hw2 hb1 hb2 hd
          go_loopw [3, 5] (fun v3 v5 wr => ∃ (kk i : Nat) (ys : List Int), 1 ≤ i ∧ 1 ≤ kk ∧ k + i ≤ xs.length ∧ kk + 1 ≤ k + i ∧ v3 = .int .i64 kk ∧ v5 = .int .i64 i ∧ Hid (ys.length = xs.length) ∧ Hid (cp (xs.take (k + i)) = ys.take kk) ∧ Hid (∀ j (h : j < ys.length) (h' : j < xs.length), k + i ≤ j + 1 → ys[j] = xs[j]) ∧ Hid (Mem wr g cap ys) ∧ Hid (w.grownBy wr (some g))) (fun _ v5 _ => xs.length - (intOf v5).toNat)
          case atStart => exact ⟨k, 1, xs, Nat.le_refl _, hk1, by omega, by omega, rfl, rfl, hid rfl, hid HCT.out, hid (fun _ _ _ _ => rfl), HM2, HG2⟩
          case round =>
            obtain ⟨kk, i, ys, hi1, hkk, hki, hkk2, rfl, rfl, HYL, HCP, HSAME, HMY, HGY⟩ := hrel
            have hyl := HYL.out
            by_cases hlt2 : i < xs.length - k
            · have hj0 : k + i < ys.length := by omega
              have hj1 : k + i - 1 < ys.length := by omega
              obtain ⟨x2, hx2⟩ : ∃ x2, xs[k + i]'(by omega) = x2 := ⟨_, rfl⟩
              obtain ⟨y2, hy2⟩ : ∃ y2, xs[k + i - 1]'(by omega) = y2 := ⟨_, rfl⟩
              have e0 : wr.cell? ⟨g, k + i, none⟩ = some (.int .u32 x2) := by
                rw [HMY.out.cell (k + i) hj0, HSAME.out (k + i) hj0 (by omega) (by omega), hx2]
              have e1 : wr.cell? ⟨g, k + (i - 1), none⟩ = some (.int .u32 y2) := by
                have h1 := HMY.out.cell (k + i - 1) hj1
                rw [HSAME.out (k + i - 1) hj1 (by omega) (by omega), hy2] at h1
                rw [show k + (i - 1) = k + i - 1 by omega]
                exact h1
              have hct2 := cp_take xs (k + i) (by omega) (by omega)
              rw [hx2, hy2] at hct2
              have hw1 : IntKind.i64.wrap ((i : Int) - 1) = ((i - 1 : Nat) : Int) := by rw [IntKind.wrap_i64]; omega
              have hw2 : ((i : Int) - 1).toNat = i - 1 := by omega
              have hb1 : (0 : Int) ≤ (i : Int) - 1 := by omega
              have hb2 : (i : Int) - 1 < ((xs.length - k : Nat) : Int) := by omega
              have hb3 : (i : Int) < ((xs.length - k : Nat) : Int) := by omega
              have HX2 := hid hx2
              clear hx2 hy2 hj1
              by_cases hxy2 : x2 = y2
              · have hd2 : (x2 != y2) = false := by simpa using hxy2
                rw [if_pos hxy2] at hct2
                have HCT2 := hid hct2
                clear hct2 hxy2
                go_wp2
                go_quiet (fail)
                go_wp2
                go_roundw
                case rel => exact ⟨kk, i + 1, ys, by omega, hkk, by omega, by omega, by first | trivial | rfl, by go_num, HYL, hid (by rw [← HCP.out, ← HCT2.out]; rfl), hid (fun j h h' hj => HSAME.out j h h' (by omega)), hid (HMY.out.drew _), hid (HGY.out.trans (It.grown_drewN _ _ _))⟩
                case measure => simp [intOf]; omega
              · have hd2 : (x2 != y2) = true := by simpa using hxy2
                rw [if_neg hxy2] at hct2
                have HCT2 := hid hct2
                have hkl : kk < ys.length := by omega
                have e2 : wr.cell? ⟨g, kk, none⟩ = some (.int .u32 ys[kk]) := HMY.out.cell kk hkl
                have e3 : wr.frozen? ⟨g, kk, none⟩ = false := HMY.out.frozen kk
                have hb4 : (kk : Int) < (xs.length : Int) := by omega
                clear hct2 hxy2
                go_wp2
                go_quiet (fail)
                go_wp2
                have HM3 := hid ((HMY.out.drew nq).set kk hkl x2)
                have HG3 := hid ((HGY.out.trans (It.grown_drewN _ nq _)).trans (grown_setAt _ g kk (.int .u32 x2)))
                go_roundw
                case rel =>
                  refine ⟨kk + 1, i + 1, ys.set kk x2, by omega, by omega, by omega, by omega, by go_num, by go_num, hid (by rw [List.length_set]; exact hyl), hid ?_, hid (fun j h h' hj => ?_), HM3, HG3⟩
                  · show cp (xs.take (k + i + 1)) = _
                    rw [HCT2.out, HCP.out, List.take_succ_eq_append_getElem (by rw [List.length_set]; exact hkl), List.getElem_set_self, List.take_set_of_le (Nat.le_refl _)]
                  · rw [List.getElem_set_ne (by omega)]
                    exact HSAME.out j (by rw [List.length_set] at h; exact h) h' (by omega)
                case measure => simp [intOf]; omega
            · have hke : k + i = xs.length := by omega
              have hcp := HCP.out
              rw [hke, List.take_length] at hcp
              have hkl : kk ≤ ys.length := by omega
              have hkc : kk ≤ cap := by omega
              have hck2 : ¬ cap = kk := by omega
              have z22 := Try.zeroValue23
              have hcl : ∀ ty, (Builtin.clear_ #[143] ty #[.slice (some ⟨g, kk, none⟩) (xs.length - kk) (cap - kk)]).run Try.prog wr = .ok (.tuple #[]) (wr.setCells g kk (List.replicate (xs.length - kk) (.int .u32 0))) :=
                fun ty => Lib.run_clear_slice wr 143 23 ty (.int .u32 0) Try.underlying143 z22 rfl rfl g kk _ _ (by omega) (fun j hj => by rw [HMY.out.cell (kk + j) (by omega)]; rfl) (fun j hj => HMY.out.frozen _)
              have HM3 := hid (HMY.out.clear kk hkl (List.replicate (xs.length - kk) (.int .u32 0)))
              have HG3 := hid (HGY.out.trans (setCells_grown g (List.replicate (xs.length - kk) (.int .u32 0)) kk wr))
              have HCPF := hid hcp
              have hlc : (cp xs).length = kk := by rw [hcp, List.length_take]; omega
              clear hcp
              go_wp2
              go_ret
              rw [hlc]
              have ho := HM3.out.own hB kk (by rw [List.length_take]; omega) (by rw [List.length_take]; omega) hcm
              rw [List.take_take, Nat.min_self, ← HCPF.out] at ho
              exact ⟨rfl, ho, HG3.out⟩
        · have hd : (x == y) = false := by simpa using hxy
          rw [if_neg hxy, HC.out] at hct
          have HCT := hid hct
          clear hct hxy
          go_wp2
          go_quiet (fail)
          go_wp2
          go_roundw
          case rel => exact ⟨k + 1, by omega, by omega, by go_num, hid (by rw [HCT.out, List.take_succ_eq_append_getElem hlt, HX.out]), hid (by obtain ⟨q, hq⟩ := HQ.out; rw [hq]; exact ⟨_, World.drewN_drewN _ _ _⟩)⟩
          case measure => simp [intOf]; omega
      · obtain rfl : k = xs.length := by omega
        have hcp := HC.out
        rw [List.take_length] at hcp
        have HCP := hid hcp
        clear hcp
        go_wp2
        go_ret
        rw [HCP.out]
        obtain ⟨q, hq⟩ := HQ.out
        have ho := HMr.out.own hB xs.length (Nat.le_refl _) hcap hcm
        rw [List.take_length] at ho
        exact ⟨rfl, ho, by rw [hq]; exact It.grown_drewN _ _ _⟩

theorem compact_none (w : World) : Calls Try.prog 107 #[.slice none 0 0] w fun e w' => e = .returned (.slice none 0 0) ∧ w = w' := by
  go_enter Try.func107, Try.ntmps107
  go_wp2
  go_ret
  exact ⟨rfl, rfl⟩
theorem sortFunc_none' (n : Nat) (hn : n = 0) (w : World) (fv : Value) : Calls Try.prog 104 #[.slice none n 0, fv] w fun e w' => e = .returned (.tuple #[]) ∧ w = w' := by
  subst hn
  exact sortFunc_none w fv
theorem compact_none' (n : Nat) (hn : n = 0) (w : World) : Calls Try.prog 107 #[.slice none n 0] w fun e w' => e = .returned (.slice none 0 0) ∧ w = w' := by
  subst hn
  exact compact_none w
theorem clone_own (A : Option Addr) (c B : Nat) (xs : List Int) (w : World) (hl : xs.length ≤ 1000) (h : w.ownsRow B 23 1 (.slice A xs.length c) xs.length (xs.map (.int .u32))) :
    Calls Try.prog 103 #[.slice A xs.length c] w fun e w' => ∃ A' c', e = .returned (.slice A' xs.length c') ∧ w'.ownsRow w.heap.size 23 1 (.slice A' xs.length c') xs.length (xs.map (.int .u32)) ∧ Below w.heap.size w w' := by
  have h0 := h
  rcases h.2 with ⟨e, hz⟩ | ⟨g, cap, cur, e, hb, hg, _⟩
  · simp only [Value.slice.injEq] at e
    obtain ⟨rfl, _, rfl⟩ := e
    obtain rfl := List.eq_nil_of_length_eq_zero hz
    refine (It.clone_nil 0 0 w).mono ?_
    rintro e w' ⟨rfl, rfl⟩
    exact ⟨none, 0, rfl, World.ownsRow_nil _ _ _ _, Below.refl _ _⟩
  · cases e
    refine (It.clone_some g 0 xs.length c (xs.map (.int .u32)) (by simp) (by simp [Value.oneCell']) (by omega) w (fun j hj => ?_) (Array.getElem?_eq_some_iff.1 hg).1).mono ?_
    · have := h0.cells (g := g) rfl j _ (List.getElem?_eq_getElem hj)
      rw [TmA.add0] at this
      rw [Nat.zero_add, this, List.getElem?_eq_getElem hj]
    · rintro e w' ⟨v, rfl, hown, hbl⟩
      obtain ⟨A', c', rfl, _⟩ := Base.slice_of_row hown
      exact ⟨A', c', rfl, hown, hbl⟩
theorem exists_k32 (xs : List Int) (hu : ∀ x ∈ xs, U x) : ∃ ks : List K32, ks.map (·.1) = xs := ⟨xs.attachWith _ hu, by simp⟩
theorem map_encU (ks : List K32) : ks.map encU = (ks.map (·.1)).map (.int .u32) := by rw [List.map_map]; rfl
set_option maxHeartbeats 400000 in
theorem sort_calls (f : Int) (A : Option Addr) (c B : Nat) (xs : List Int) (w : World) (hl : xs.length ≤ 1000) (hu : ∀ x ∈ xs, U x) (h : w.ownsRow B 23 1 (.slice A xs.length c) xs.length (xs.map (.int .u32))) :
    Calls Try.prog 77 #[.int .u32 f, .slice A xs.length c] w fun e w' => ∃ A' c', e = .returned (.slice A' (rsort f xs).length c') ∧ w'.ownsRow w.heap.size 23 1 (.slice A' (rsort f xs).length c') (rsort f xs).length ((rsort f xs).map (.int .u32)) ∧ Below w.heap.size w w' := by
  obtain ⟨ks, hks⟩ := exists_k32 xs hu
  have hso := sorts f xs ((srt f ks).map (·.1)) hu (by rw [← hks]; exact srt_perm f ks) (srt_le f ks)
  have hlen : ((srt f ks).map (·.1)).length = xs.length := by rw [← hks]; exact (srt_perm f ks).length_eq
  have hkl : ks.length = xs.length := by rw [← hks, List.length_map]
  obtain ⟨ss, hss⟩ : ∃ ss, (srt f ks).map (·.1) = ss := ⟨_, rfl⟩
  rw [hss] at hso hlen
  obtain ⟨w1, hw1⟩ : ∃ w1, w1 = w.alloc (.cells #[.int .u32 f] 23) := ⟨_, rfl⟩
  have hb1 : Below w.heap.size w w1 := by rw [hw1]; exact TmA.below_alloc (Below.refl _ _) _
  have hcf : w1.cell? ⟨w.heap.size, 0, none⟩ = some (.int .u32 f) := by rw [hw1]; exact cell_new1 _ _ _ _ rfl 0
  have hcl := clone_own A c B xs w1 hl (Base.ownsRow_later h hb1)
  have HCL := hid hcl
  have HB1 := hid hb1
  have HW1 := hid hw1
  have HSO := hid hso
  clear hcl hb1 hso h hw1
  go_enter Try.func77, Try.ntmps77
  go_wp2_with (go_at_call 103; rw [← HW1.out]; go_must (refine HCL.out.mono ?_; rintro e w2 ⟨A2, c2, rfl, hO, hB⟩; have HO := hid hO; have HB := hid hB; clear hO hB))
  have hs2 := HB.out.size
  have hs1 := HB1.out.size
  rcases HO.out.2 with ⟨e, hz⟩ | ⟨g, cap, cur, e, hbg, _⟩
  · simp only [Value.slice.injEq] at e
    obtain ⟨rfl, _, rfl⟩ := e
    have hnil := List.eq_nil_of_length_eq_zero hz
    have hr : rsort f xs = [] := by rw [hnil]; rfl
    have HZ := hid hz
    have HRR := hid hr
    clear hz hnil hr
    refine (sortFunc_none' xs.length HZ.out w2 _).mono ?_
    rintro e w3 ⟨rfl, rfl⟩
    go_wp2_with fail
    refine (compact_none w2).mono ?_
    rintro e w3 ⟨rfl, rfl⟩
    go_wp2
    go_ret
    rw [HRR.out]
    exact ⟨none, 0, rfl, World.ownsRow_nil _ _ _ _, HB1.out.trans (HB.out.mono hs1)⟩
  · cases e
    have hO := HO.out
    rw [← hks, ← map_encU, List.length_map] at hO
    have hgne : g ≠ w.heap.size := by
      have := TmA.lt_of_cell hcf
      omega
    have hsf := sortFunc_calls w2 w.heap.size g c2 f w1.heap.size ks ((HB.out.cell (p := ⟨w.heap.size, 0, none⟩) (TmA.lt_of_cell hcf)).trans hcf) hO hgne (by omega)
    rw [hkl] at hsf
    have HSF := hid hsf
    have HSS := hid hss
    clear hsf hO hss
    go_wp2_with (go_at_call 104; go_must (refine HSF.out.mono ?_; rintro e w3 ⟨rfl, hO3, hG3⟩; have HO3 := hid hO3; have HG3 := hid hG3; clear hO3 hG3))
    have hO3 := HO3.out
    rw [map_encU, HSS.out, ← hlen] at hO3
    have hcm := compact_calls g c2 w1.heap.size ss w3 hO3 (by omega)
    rw [hlen, HSO.out] at hcm
    have HCM := hid hcm
    clear hO3 hcm
    go_wp2_with (go_at_call 107; go_must (refine HCM.out.mono ?_; rintro e w4 ⟨rfl, hO4, hG4⟩; have HO4 := hid hO4; have HG4 := hid hG4; clear hO4 hG4))
    go_ret
    exact ⟨some ⟨g, 0, none⟩, c2, rfl, Base.ownsRow_base HO4.out hs1, ((HB1.out.trans (HB.out.mono hs1)).grown (HG3.out.trans HG4.out) (by omega) (fun k e => by cases e; omega))⟩

end Go.Proofs.Ythoammfpjheodaa.Sl
