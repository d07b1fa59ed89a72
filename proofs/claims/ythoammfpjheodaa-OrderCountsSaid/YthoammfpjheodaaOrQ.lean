import Derived.Test.YthoammfpjheodaaOrJ
import Derived.Lib.SlKeysI
import Derived.RangeFuncFrom
import Derived.RangeFuncKeeps
import Derived.RangeFuncNested
import Derived.RangeFuncBound
import Derived.RangeFuncCalls
import Derived.RangeFuncLeaves
import Derived.RegionTactic
import Derived.Maps.OwnIn
import Derived.OwnWalkIn
import Derived.TacticsInMore
import Derived.LoopNIn
import Derived.LoopIn
import Derived.Sort.QuietIn
namespace Go.Proofs.Ythoammfpjheodaa.Or
open Go.ChangeShapes Go.WideShapes Go.ChangeAt Go.RowKit Go.Shelf MK Go.Maps
open Base (hid cell_new1 cell_old1 froz_new1 froz_old1)
open Rz (below_alloc lt_of_cell add_block Txt box_at box_new box_old setCells_grown grown_setAt own_low own_base txt_row nil_row clone_calls)
attribute [local go_sem] Oper.semAt_some
set_option linter.unusedVariables false
set_option linter.unusedSimpArgs false
set_option maxRecDepth 100000
abbrev FW : Fence := Fence.wide
/-! a range over a function whose yielded word is good in the world in which it is yielded -/
open Go.RowKit in
/-- An iterator that yields words of which Pre holds where they are yielded. -/
def SeqPre {α : Type} (F : Fence) (n : Nat) (P : Program) (g : Nat) (lb : Array Value) (encs : α → Array Value) (Pre : List α → α → World → World → Prop) (Kp : World → World → Prop) (S Sp : List α → Prop) (w : World) : Prop :=
  ∀ (l : Nat) (J Jx : List α → World → Prop) (W : World), Below w.heap.size w W → AbidesFrom W.heap.size J → AbidesFrom W.heap.size Jx →
    (∀ pre x W0 W1, J pre W0 → Below W0.heap.size W0 W1 → Pre pre x W0 W1 → YieldAt F (n - 1) P l (encs x) W1 fun e W' => (e = .returned (.bool true) ∧ J (pre ++ [x]) W' ∧ Kp W1 W') ∨ (e = .returned (.bool false) ∧ Jx (pre ++ [x]) W')) →
    J [] W → CallsIn F n P g (#[.func (.yield l) #[] #[]] ++ lb) W fun e W' => (∃ v, e = .returned v) ∧ ((∃ xs, S xs ∧ J xs W') ∨ (∃ pre, Sp pre ∧ Jx pre W'))
theorem range_pre_law {F : Fence} {n : Nat} {P : Program} {α : Type} {g : Operand} {ps : Array Tmp} {assign body : Code} {Q : Exit → Act → World → Prop} {id : Nat} {a : Act} {w : World}
    (hro : F.round = none) (h1 : 1 ≤ n) {gf : Nat} {lb : Array Value} (hg : a.eval g = .func (.func gf) #[] lb) (hFg : F.fn gf) (eg : ∀ args w, (callFunc gf args).run P w = .ok (.enter gf args) w)
    {encs : α → Array Value} {Pre : List α → α → World → World → Prop} {Kp : World → World → Prop} {S Sp : List α → Prop} {w0 : World} (hseq : SeqPre F (n - 1) P gf lb encs Pre Kp S Sp w0)
    (hPre : ∀ pre x W0 W (l : Nat) (o o' : Obj), Pre pre x W0 W → w.heap.size ≤ l → W.heap[l]? = some o → o.isCells = false → Pre pre x W0 (W.putObj l o'))
    (hKt : ∀ {A B C : World}, Kp A B → Kp B C → Kp A C) (hKb : ∀ (W : World) (l : Nat) (o o' : Obj), w.heap.size ≤ l → W.heap[l]? = some o → o.isCells = false → o.isWalk = false → Kp W (W.putObj l o')) (hb0 : Below w0.heap.size w0 w) (hps : ∀ x, (encs x).size = ps.size)
    (I Ib : List α → World → Prop) (hI : OwnFrom w.heap.size I) (hIb : OwnFrom w.heap.size Ib) (h0 : I [] w) (a₁ : α → Act)
    (hassign : ∀ (l : Nat) (x : α) (W : World) (K : Act → World → Prop), K (a₁ x) W →
      assign.wpIn (F.inRound l) (n - 1 - 1) P (Exit.then K (fun _ _ _ => False)) { tmps := (ps.zip (encs x)).foldl (fun t (p, v) => t.setIfInBounds p v) a.tmps, defers := [] } W)
    (hbody : ∀ (l : Nat) (pre : List α) (x : α) (W0 W : World), I pre W0 → W0.grownBy W (some l) → w.heap.size ≤ l → (∃ o : Obj, W0.heap[l]? = some o ∧ o.isCells = false) → Pre pre x W0 W → body.wpIn (F.inRound l) (n - 1 - 1) P (ownPostK Kp I (fun c pre W => c = .exit id ∧ Ib pre W) (pre ++ [x]) W) (a₁ x) W)
    (E : World → Prop) (hd : ∀ xs W, S xs → I xs W → E W) (hs : ∀ xs W, Sp xs → Ib xs W → E W)
    (hend : ∀ (D : Nat) (W : World), w.heap.size ≤ D → E W → W.heap[D]? = some (.deferred (some [])) → Q .normal { a with defers := { target := .collected D, args := #[] } :: a.defers } W) :
    (Code.rangeFunc g ps assign body).wpIn F n P (Exit.inBlock id Q) a w := by
  refine wpIn_rangeFunc fun fn hfn => ?_
  rw [hro]
  obtain ⟨R, hR⟩ : ∃ R : LoopState → Option Code → Loop, R = fun st pe => { state := st, pending := pe, fn, tmps := a.tmps, params := ps, assign, body, defers := w.heap.size } := ⟨_, rfl⟩
  obtain ⟨V, hV⟩ : ∃ V, V = (w.alloc (.deferred (some []))).alloc (.loop (R .ready none)) := ⟨_, rfl⟩
  have vz : V.heap.size = w.heap.size + 2 := by rw [hV]; simp
  have vl : V.heap[w.heap.size + 1]? = some (.loop (R .ready none)) := by
    have := World.alloc_heap_new (w.alloc (.deferred (some []))) (.loop (R .ready none))
    rw [World.size_alloc] at this
    rw [hV]
    exact this
  have vd : V.heap[w.heap.size]? = some (.deferred (some [])) := by
    rw [hV]
    exact (Below.heap_alloc _ _ _ (by simp)).trans (World.alloc_heap_new w _)
  have vb : Below w.heap.size w V := by rw [hV]; exact ((Below.refl _ w).alloc (Nat.le_refl _) _).alloc (by simp) _
  have keep : ∀ {A B : World} {row : Option Nat} {k : Nat} {o : Obj}, A.grownBy B row → (∀ r, row = some r → V.heap.size ≤ r ∧ ∃ o : Obj, A.heap[r]? = some o ∧ o.isWalk = true) → A.heap[k]? = some o → o.isWalk = false → B.heap[k]? = some o :=
    fun hg hr hk hw => (grownBy_keeps hg (fun r e => (hr r e).2) hk hw).trans hk
  have thin : ∀ {A : World} {row : Option Nat}, (∀ r, row = some r → V.heap.size ≤ r ∧ ∃ o : Obj, A.heap[r]? = some o ∧ o.isWalk = true) → (∀ r, row = some r → w.heap.size ≤ r ∧ ∃ o : Obj, A.heap[r]? = some o ∧ o.isCells = false) := fun hr r e => by
    obtain ⟨hB, o, ho, hw⟩ := hr r e
    exact ⟨by omega, o, ho, Obj.not_cells_of_walk hw⟩
  refine ⟨w.heap.size + 1, [{ target := .collected w.heap.size, args := #[] }], V, { target := .fn (.func gf) lb, args := #[.func (.yield (w.heap.size + 1)) #[] #[]] }, V, gf, #[.func (.yield (w.heap.size + 1)) #[] #[]] ++ lb, V, ?_, ?_, ?_, ?_, fun _ => h1, ?_⟩
  · rw [hV, hR]
    exact run_enterLoop_outer _ _ _ _ _
  · simp only [resolve, hg]
    simp [go_sem]
  · intro f' hf'
    simp [Target.leads] at hf'
    subst hf'
    exact hFg
  · simp [invoke, go_sem, eg]
  refine (hseq (w.heap.size + 1) (fun pre W => I pre W ∧ W.heap[w.heap.size + 1]? = some (.loop (R .ready none)) ∧ W.heap[w.heap.size]? = some (.deferred (some [])))
    (fun pre W => Ib pre W ∧ W.heap[w.heap.size + 1]? = some (.loop (R .done (some (.exit id)))) ∧ W.heap[w.heap.size]? = some (.deferred (some []))) V (hb0.trans (vb.mono hb0.size))
    (fun s A B row h hg hr => ⟨hI s A B row h.1 hg (thin hr), keep hg hr h.2.1 rfl, keep hg hr h.2.2 rfl⟩)
    (fun s A B row h hg hr => ⟨hIb s A B row h.1 hg (thin hr), keep hg hr h.2.1 rfl, keep hg hr h.2.2 rfl⟩)
    ?_ ⟨by rw [hV]; exact hI.alloc _ (hI.alloc _ h0), vl, vd⟩).mono ?_
  · rintro pre x V0 W ⟨hi, hl0, hk0⟩ hbW hpx
    have hl : W.heap[w.heap.size + 1]? = some (.loop (R .ready none)) := (hbW.block _ (Array.getElem?_eq_some_iff.1 hl0).1).trans hl0
    have hk : W.heap[w.heap.size]? = some (.deferred (some [])) := (hbW.block _ (Array.getElem?_eq_some_iff.1 hk0).1).trans hk0
    have hlt : w.heap.size + 1 < W.heap.size := (Array.getElem?_eq_some_iff.1 hl).1
    have hy := run_yield (P := P) (args := encs x) hl (by rw [hR]; exact hps x)
    rw [hR] at hy
    refine ⟨fn, _, assign, body, hy, roundIn_of_wpIn hfn (hassign _ x W _ ⟨_, run_beginRound hl (by rw [hR]), ?_⟩)⟩
    obtain ⟨W2, hW2⟩ : ∃ W2, W2 = W.putObj (w.heap.size + 1) (.loop { R .ready none with state := .busy }) := ⟨_, rfl⟩
    rw [← hW2]
    have hl2 : W2.heap[w.heap.size + 1]? = some (.loop { R .ready none with state := .busy }) := by rw [hW2]; exact World.putObj_heap_same hlt
    have hk2 : W2.heap[w.heap.size]? = some (.deferred (some [])) := by rw [hW2]; exact (World.putObj_heap_other (by omega)).trans hk
    have hg2 : V0.grownBy W2 (some (w.heap.size + 1)) := by
      rw [hW2]
      have hg := grownBy_putObj' W (w.heap.size + 1) (.loop { R .ready none with state := .busy })
      exact ⟨hg.os.trans hbW.os, hg.tape.trans hbW.tape, hg.output.trans hbW.output, Nat.le_trans hbW.size hg.size, fun k h1 h2 => (hg.block k (Nat.lt_of_lt_of_le h1 hbW.size) h2).trans (hbW.block k h1)⟩
    have hp2 : Pre pre x V0 W2 := by rw [hW2]; exact hPre _ _ _ _ _ _ _ hpx (by omega) hl rfl
    have hw2 : Kp W W2 := by rw [hW2]; exact hKb _ _ _ _ (by omega) hl rfl rfl
    have fin : ∀ (jump : Option Code) (W3 : World), KeepsOthers W2 W3 →
        (Instr.endRound (w.heap.size + 1) jump).run P W3 = .ok (.bool jump.isNone) (W3.putObj (w.heap.size + 1) (.loop (R (if jump.isNone then .ready else .done) jump))) ∧
        W3.heap[w.heap.size + 1]? = some (.loop { R .ready none with state := .busy }) ∧
        (W3.putObj (w.heap.size + 1) (.loop (R (if jump.isNone then .ready else .done) jump))).heap[w.heap.size + 1]? = some (.loop (R (if jump.isNone then .ready else .done) jump)) ∧
        (W3.putObj (w.heap.size + 1) (.loop (R (if jump.isNone then .ready else .done) jump))).heap[w.heap.size]? = some (.deferred (some [])) := by
      intro jump W3 hk3
      have hl3 := hk3.same _ _ hl2 rfl
      have hr := run_endRound (P := P) jump hl3
      rw [hR] at hr hl3 ⊢
      exact ⟨hr, hl3, World.putObj_heap_same (Array.getElem?_eq_some_iff.1 hl3).1, (World.putObj_heap_other (by omega)).trans (hk3.same _ _ hk2 rfl)⟩
    refine wpIn_mono (hbody _ pre x V0 W2 hi hg2 (by omega) ⟨_, hl0, rfl⟩ hp2) ?_
    intro e a3 W3 hp
    cases e with
    | normal =>
      obtain ⟨hr, hl3, hl4, hk4⟩ := fin none W3 hp.1
      exact ⟨_, _, hr, .inl ⟨rfl, ⟨hI.putObj _ hp.2.2 (by omega) hl3 rfl, hl4, hk4⟩, hKt (hKt hw2 hp.2.1) (hKb _ _ _ _ (by omega) hl3 rfl rfl)⟩⟩
    | ret => exact absurd hp.2.1 (by intro h; cases h)
    | exit k =>
      obtain ⟨ho, hc, hib⟩ := hp
      cases hc
      obtain ⟨hr, hl3, hl4, hk4⟩ := fin (some (.exit id)) W3 ho
      exact ⟨_, _, hr, .inr ⟨rfl, hIb.putObj _ hib (by omega) hl3 rfl, hl4, hk4⟩⟩
    | goto t => exact absurd hp.2.1 (by intro h; cases h)
    | panic ch => exact hp.elim
    | outgrown => exact hp.elim
  · rintro e W2 ⟨⟨v, rfl⟩, (⟨xs, hS, hi, hl, hk⟩ | ⟨pre, hSp, hi, hl, hk⟩)⟩
    · have hr := run_endLoop (P := P) hl (by rw [hR]; simp)
      rw [hR] at hr
      exact ⟨none, _, hr, hend _ _ (Nat.le_refl _) (hd _ _ hS (hI.putObj _ hi (by omega) hl rfl)) ((World.putObj_heap_other (by omega)).trans hk)⟩
    · have hr := run_endLoop (P := P) hl (by rw [hR]; simp)
      rw [hR] at hr
      refine ⟨some (.exit id), _, hr, wpIn_exit ?_⟩
      show (if id = id then _ else _)
      rw [if_pos rfl]
      exact hend _ _ (Nat.le_refl _) (hs _ _ hSp (hIb.putObj _ hi (by omega) hl rfl)) ((World.putObj_heap_other (by omega)).trans hk)

/-! the keys of a desk's table -/
def CollS (D0 : DataW Value) (left : Lit → Bool) (ss : List SK) : Prop := ss.Nodup ∧ ∀ x, x ∈ ss ↔ (Maps.has D0 (slotKs.lit x) = true ∧ left (slotKs.lit x) = false)
theorem CollS.start (D0 : DataW Value) : CollS D0 (Maps.has D0) [] := ⟨List.nodup_nil, fun x => by cases Maps.has D0 (slotKs.lit x) <;> simp⟩
theorem same_lit (x y : SK) : (slotKs.lit y).sameKey (slotKs.lit x) = decide (y = x) := by
  by_cases h : y = x
  · subst h
    simp [slotKs, Lit.sameKey]
  · have : slotKs.lit y ≠ slotKs.lit x := fun e => h (slotKs.inj _ _ e)
    rw [decide_eq_false h]
    simp only [slotKs] at this ⊢
    simpa [Lit.sameKey] using this
theorem CollS.step {D0 : DataW Value} {left : Lit → Bool} {ss : List SK} (h : CollS D0 left ss) {x : SK} {y : DataW Value} (hlk : left (slotKs.lit x) = true) (hat : ∀ zd, D0.atKey (slotKs.lit x) zd = y) : CollS D0 (fun z => left z && !z.sameKey (slotKs.lit x)) (ss ++ [x]) := by
  have hhas : Maps.has D0 (slotKs.lit x) = true := Maps.has_true_of_atKey hat
  have hnew : x ∉ ss := fun hx => by have := ((h.2 x).1 hx).2; rw [hlk] at this; cases this
  refine ⟨List.nodup_append.2 ⟨h.1, by simp, fun a ha b hb => by simp at hb; subst hb; exact fun e => hnew (e ▸ ha)⟩, fun y => ?_⟩
  by_cases hy : y = x
  · subst hy; simp [hhas, same_lit]
  · simp [h.2 y, hy, same_lit]
theorem keyS {v : Value} {kl : Lit} (h : keyOf Try.prog 117 v = some kl) : ∃ x : SK, v = x.val ∧ kl = slotKs.lit x := by
  unfold keyOf at h
  rw [under117] at h
  simp only [keyT, Bool.true_and] at h
  have c117 : Try.prog.cellsOf 117 = 2 := by kernel_rfl
  have c3 : Try.prog.cellsOf 3 = 1 := by kernel_rfl
  have c24 : Try.prog.cellsOf 24 = 1 := by kernel_rfl
  have hn : ∃ n, Try.prog.types.size + 1 = n + 2 := ⟨Try.prog.types.size - 1, by have : 1 ≤ Try.prog.types.size := by decide +kernel
                                                                                 omega⟩
  obtain ⟨n, hn⟩ := hn
  rw [hn] at h
  split at h
  · rename_i hf
    cases v with
    | agg cs =>
      simp only [Value.formed, under117, c117] at hf
      obtain ⟨cl⟩ := cs
      have hl : cl.length = 2 := by simpa using hf
      match cl, hl with
      | [a, b], _ =>
        cases a <;> try (simp [Program.keyLits, Try.underlying117, Try.underlying3, Try.underlying24, c117, c3, c24, Value.cells] at h; done)
        rename_i k1 ka na
        cases b <;> try (simp [Program.keyLits, Try.underlying117, Try.underlying3, Try.underlying24, c117, c3, c24, Value.cells] at h; done)
        rename_i k2 nb
        simp [Program.keyLits, Try.underlying117, Try.underlying3, Try.underlying24, c117, c3, c24, Value.cells] at h
        by_cases h1 : k1 = IntKind.i64 ∧ (Lit.int IntKind.i64 ka).wf = true
        · by_cases h2 : k2 = IntKind.u16 ∧ (Lit.int IntKind.u16 nb).wf = true
          · rw [if_pos h1, if_pos h2] at h
            obtain ⟨rfl, w1⟩ := h1
            obtain ⟨rfl, w2⟩ := h2
            exact ⟨⟨(ka, nb), w1, w2⟩, rfl, (Option.some.inj h).symm⟩
          · rw [if_pos h1, if_neg h2] at h
            cases h
        · rw [if_neg h1] at h
          cases h
    | _ => simp [Value.formed, under117] at hf
  · cases h
set_option maxRecDepth 100000 in
set_option maxHeartbeats 2000000 in
theorem keysS_seq (m : Nat) (hm : 1 ≤ m) (Bm b nn : Nat) (D0 : DataW Value) (w : World) (hBm : Bm < w.heap.size) (hc : w.cell? ⟨Bm, 0, none⟩ = some (.map (some b))) (hown : w.ownsMap Try.prog 117 heldE b nn D0) :
    SeqPre FW m Try.prog 97 #[.pointer (some ⟨Bm, 0, none⟩)] (fun x : SK => #[SK.val x]) (fun pre x _ _ => pre.length < Maps.size D0) KeepsWalks (fun ss => CollS D0 (fun _ => false) ss) (fun _ => True) w := by
  intro l J Jx W hW hJ hJx hY h0
  have hm' : W.cell? ⟨Bm, 0, none⟩ = some (.map (some b)) := (hW.cell (p := ⟨Bm, 0, none⟩) hBm).trans hc
  have hown' : W.ownsMap Try.prog 117 heldE b nn D0 := by
    have hbl := hown.lt
    obtain ⟨es, clock, hb, Ft, hs, hD⟩ := hown
    exact ⟨es, clock, (hW.block b hbl).trans hb, Ft, hs, hD⟩
  clear hW hown hc
  refine callsIn_of_wp Try.func97 rfl trivial ?_ rfl
  simp only [Try.ntmps97, List.size_toArray, List.length_cons, List.length_nil, Nat.reduceAdd, Nat.reduceSub, Array.replicate_succ, Array.replicate_zero, List.push_toArray, List.append_toArray, List.nil_append, List.cons_append]
  gi_wp2_with (first | (gi_at_range; refine wpListIn_range_own _ rfl _ 110 rfl 117 34 slotLaw Try.underlying110 _ b nn _ rfl hown' ?_; intro w0 hrg0 hg0 hs0) | gi_in)
  try go_frame
  gi_loopw [3] (fun _ wr => ∃ (left : Lit → Bool) (cnt : Nat) (ss : List SK), wr.ranges Try.prog 117 heldE b W.heap.size nn D0 left cnt ∧ ss.length + cnt ≤ Maps.size D0 ∧ CollS D0 left ss ∧ J ss wr)
    (fun _ wr => wr.rangeLeft b W.heap.size)
  case atStart =>
    exact ⟨_, _, [], hrg0, by simp, CollS.start D0, hJ [] W w0 none h0 hg0 (fun r e => by cases e)⟩
  case round =>
    obtain ⟨left, cnt, ss, hrg, hcs, hC, hJs⟩ := hrel
    gi_wp2_with (first | (gi_at_next; refine wpListIn_next_ranges _ rfl _ rfl 117 slotLaw heldE SK.val id (fun key kl hk => by obtain ⟨x, hx, _⟩ := keyS hk; exact ⟨x, hx⟩) (fun v _ _ => ⟨v, rfl⟩) b W.heap.size nn _ _ _ rfl hrg ?_ ?_) | gi_in)
    · intro hc0 hl0
      gi_wp2
      go_end0
      refine ⟨⟨_, rfl⟩, .inl ⟨ss, ?_, hJs⟩⟩
      obtain rfl : left = fun _ => false := funext hl0
      exact hC
    · intro x c kl yd yp w2 cnt2 hkey hlk hv hat hrg2 hlt hg2 hs2 hen
      obtain ⟨x', ex, rfl⟩ := keyS hkey
      have hxx : x = x' := Subtype.ext (by
        unfold SK.val at ex
        simp only [Value.agg.injEq, Array.mk.injEq, List.cons.injEq, Value.int.injEq, true_and, and_true] at ex
        exact Prod.ext ex.1 ex.2)
      subst hxx
      have hJ2 : J ss w2 := hJ ss wr w2 (some W.heap.size) hJs hg2 (fun r e => by cases e; exact ⟨Nat.le_refl _, hrg.iter_walk⟩)
      clear hs2 hkey ex
      unfold SK.val at hen ⊢
      obtain ⟨fn, tmps, assign, body, hy, hR⟩ := hY ss x w2 (w2.alloc (.cells #[.int .i64 x.1.1, .int .u16 x.1.2] 117)) hJ2 (below_alloc (Below.refl _ _) _) (by omega)
      unfold SK.val at hy
      gi_wp2
      refine hR.mono ?_
      rintro e W3 (⟨rfl, hJ3, hk3⟩ | ⟨rfl, hx3⟩)
      · gi_wp2
        have hrg3 := (hrg2.alloc _).of_walks hk3
        go_roundw
        case rel => exact ⟨_, cnt2, ss ++ [x], hrg3, by simp; omega, hC.step hlk hat, hJ3⟩
        case measure => rw [hrg3.left_eq, hrg.left_eq]; exact hlt
      · gi_wp2
        refine bodyPost_ret (results_none rfl _ _ _) rfl ?_
        exact ⟨⟨_, rfl⟩, .inr ⟨_, trivial, hx3⟩⟩
end Go.Proofs.Ythoammfpjheodaa.Or
