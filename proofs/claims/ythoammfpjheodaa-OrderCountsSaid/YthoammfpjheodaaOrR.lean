import Derived.Test.YthoammfpjheodaaOrQ
import Derived.Shelf.SlIter.Collect
import Derived.Lib.SlKeysI
import Derived.RangeFuncFrom
import Derived.RangeFuncKeeps
import Derived.RangeFuncNested
import Derived.RangeFuncBound
import Derived.RangeFuncCalls
import Derived.RangeFuncLeaves
import Derived.RegionTactic
import Derived.Maps.OwnIn
import Derived.OwnWalkIn
import Derived.TacticsInMore
import Derived.LoopNIn
import Derived.LoopIn
import Derived.Sort.QuietIn
namespace Go.Proofs.Ythoammfpjheodaa.Or
open Go.ChangeShapes Go.WideShapes Go.ChangeAt Go.RowKit Go.Shelf MK Go.Maps
open Base (hid cell_new1 cell_old1 froz_new1 froz_old1)
open Rz (below_alloc lt_of_cell add_block Txt box_at box_new box_old setCells_grown grown_setAt own_low own_base txt_row nil_row clone_calls)
attribute [local go_sem] Oper.semAt_some
set_option linter.unusedVariables false
set_option linter.unusedSimpArgs false
set_option maxRecDepth 100000
/-- range_pre_law, where the loop variable is a box of its own. -/
theorem range_box_law {F : Fence} {n : Nat} {P : Program} {α : Type} {g : Operand} {ps : Array Tmp} {assign body : Code} {Q : Exit → Act → World → Prop} {id : Nat} {a : Act} {w : World}
    (hro : F.round = none) (h1 : 1 ≤ n) {gf : Nat} {lb : Array Value} (hg : a.eval g = .func (.func gf) #[] lb) (hFg : F.fn gf) (eg : ∀ args w, (callFunc gf args).run P w = .ok (.enter gf args) w)
    {encs : α → Array Value} {Pre : List α → α → World → World → Prop} {Kp : World → World → Prop} {S Sp : List α → Prop} {w0 : World} (hseq : SeqPre F (n - 1) P gf lb encs Pre Kp S Sp w0)
    (hPre : ∀ pre x W0 W (l : Nat) (o o' : Obj), Pre pre x W0 W → w.heap.size ≤ l → W.heap[l]? = some o → o.isCells = false → Pre pre x W0 (W.putObj l o'))
    (oa : α → Obj) (hPreA : ∀ pre x W0 W, Pre pre x W0 W → Pre pre x W0 (W.alloc (oa x))) (hKa : ∀ (W : World) (o : Obj), Kp W (W.alloc o))
    (hKt : ∀ {A B C : World}, Kp A B → Kp B C → Kp A C) (hKb : ∀ (W : World) (l : Nat) (o o' : Obj), w.heap.size ≤ l → W.heap[l]? = some o → o.isCells = false → o.isWalk = false → Kp W (W.putObj l o')) (hb0 : Below w0.heap.size w0 w) (hps : ∀ x, (encs x).size = ps.size)
    (I Ib : List α → World → Prop) (hI : OwnFrom w.heap.size I) (hIb : OwnFrom w.heap.size Ib) (h0 : I [] w) (a₁ : α → Nat → Act)
    (hassign : ∀ (l : Nat) (x : α) (W : World) (K : Act → World → Prop), K (a₁ x W.heap.size) (W.alloc (oa x)) →
      assign.wpIn (F.inRound l) (n - 1 - 1) P (Exit.then K (fun _ _ _ => False)) { tmps := (ps.zip (encs x)).foldl (fun t (p, v) => t.setIfInBounds p v) a.tmps, defers := [] } W)
    (hbody : ∀ (l : Nat) (pre : List α) (x : α) (W0 W : World) (b : Nat), W0.heap.size ≤ b → W.heap[b]? = some (oa x) → I pre W0 → W0.grownBy W (some l) → w.heap.size ≤ l → (∃ o : Obj, W0.heap[l]? = some o ∧ o.isCells = false) → Pre pre x W0 W → body.wpIn (F.inRound l) (n - 1 - 1) P (ownPostK Kp I (fun c pre W => c = .exit id ∧ Ib pre W) (pre ++ [x]) W) (a₁ x b) W)
    (E : World → Prop) (hd : ∀ xs W, S xs → I xs W → E W) (hs : ∀ xs W, Sp xs → Ib xs W → E W)
    (hend : ∀ (D : Nat) (W : World), w.heap.size ≤ D → E W → W.heap[D]? = some (.deferred (some [])) → Q .normal { a with defers := { target := .collected D, args := #[] } :: a.defers } W) :
    (Code.rangeFunc g ps assign body).wpIn F n P (Exit.inBlock id Q) a w := by
  refine wpIn_rangeFunc fun fn hfn => ?_
  rw [hro]
  obtain ⟨R, hR⟩ : ∃ R : LoopState → Option Code → Loop, R = fun st pe => { state := st, pending := pe, fn, tmps := a.tmps, params := ps, assign, body, defers := w.heap.size } := ⟨_, rfl⟩
  obtain ⟨V, hV⟩ : ∃ V, V = (w.alloc (.deferred (some []))).alloc (.loop (R .ready none)) := ⟨_, rfl⟩
  have vz : V.heap.size = w.heap.size + 2 := by rw [hV]; simp
  have vl : V.heap[w.heap.size + 1]? = some (.loop (R .ready none)) := by
    have := World.alloc_heap_new (w.alloc (.deferred (some []))) (.loop (R .ready none))
    rw [World.size_alloc] at this
    rw [hV]
    exact this
  have vd : V.heap[w.heap.size]? = some (.deferred (some [])) := by
    rw [hV]
    exact (Below.heap_alloc _ _ _ (by simp)).trans (World.alloc_heap_new w _)
  have vb : Below w.heap.size w V := by rw [hV]; exact ((Below.refl _ w).alloc (Nat.le_refl _) _).alloc (by simp) _
  have keep : ∀ {A B : World} {row : Option Nat} {k : Nat} {o : Obj}, A.grownBy B row → (∀ r, row = some r → V.heap.size ≤ r ∧ ∃ o : Obj, A.heap[r]? = some o ∧ o.isWalk = true) → A.heap[k]? = some o → o.isWalk = false → B.heap[k]? = some o :=
    fun hg hr hk hw => (grownBy_keeps hg (fun r e => (hr r e).2) hk hw).trans hk
  have thin : ∀ {A : World} {row : Option Nat}, (∀ r, row = some r → V.heap.size ≤ r ∧ ∃ o : Obj, A.heap[r]? = some o ∧ o.isWalk = true) → (∀ r, row = some r → w.heap.size ≤ r ∧ ∃ o : Obj, A.heap[r]? = some o ∧ o.isCells = false) := fun hr r e => by
    obtain ⟨hB, o, ho, hw⟩ := hr r e
    exact ⟨by omega, o, ho, Obj.not_cells_of_walk hw⟩
  refine ⟨w.heap.size + 1, [{ target := .collected w.heap.size, args := #[] }], V, { target := .fn (.func gf) lb, args := #[.func (.yield (w.heap.size + 1)) #[] #[]] }, V, gf, #[.func (.yield (w.heap.size + 1)) #[] #[]] ++ lb, V, ?_, ?_, ?_, ?_, fun _ => h1, ?_⟩
  · rw [hV, hR]
    exact run_enterLoop_outer _ _ _ _ _
  · simp only [resolve, hg]
    simp [go_sem]
  · intro f' hf'
    simp [Target.leads] at hf'
    subst hf'
    exact hFg
  · simp [invoke, go_sem, eg]
  refine (hseq (w.heap.size + 1) (fun pre W => I pre W ∧ W.heap[w.heap.size + 1]? = some (.loop (R .ready none)) ∧ W.heap[w.heap.size]? = some (.deferred (some [])))
    (fun pre W => Ib pre W ∧ W.heap[w.heap.size + 1]? = some (.loop (R .done (some (.exit id)))) ∧ W.heap[w.heap.size]? = some (.deferred (some []))) V (hb0.trans (vb.mono hb0.size))
    (fun s A B row h hg hr => ⟨hI s A B row h.1 hg (thin hr), keep hg hr h.2.1 rfl, keep hg hr h.2.2 rfl⟩)
    (fun s A B row h hg hr => ⟨hIb s A B row h.1 hg (thin hr), keep hg hr h.2.1 rfl, keep hg hr h.2.2 rfl⟩)
    ?_ ⟨by rw [hV]; exact hI.alloc _ (hI.alloc _ h0), vl, vd⟩).mono ?_
  · rintro pre x V0 W ⟨hi, hl0, hk0⟩ hbW hpx
    have hl : W.heap[w.heap.size + 1]? = some (.loop (R .ready none)) := (hbW.block _ (Array.getElem?_eq_some_iff.1 hl0).1).trans hl0
    have hk : W.heap[w.heap.size]? = some (.deferred (some [])) := (hbW.block _ (Array.getElem?_eq_some_iff.1 hk0).1).trans hk0
    have hlt : w.heap.size + 1 < W.heap.size := (Array.getElem?_eq_some_iff.1 hl).1
    have hlA : (W.alloc (oa x)).heap[w.heap.size + 1]? = some (.loop (R .ready none)) := (Below.heap_alloc _ _ _ hlt).trans hl
    have hltA : w.heap.size + 1 < (W.alloc (oa x)).heap.size := (Array.getElem?_eq_some_iff.1 hlA).1
    have hy := run_yield (P := P) (args := encs x) hl (by rw [hR]; exact hps x)
    rw [hR] at hy
    refine ⟨fn, _, assign, body, hy, roundIn_of_wpIn hfn (hassign _ x W _ ⟨_, run_beginRound hlA (by rw [hR]), ?_⟩)⟩
    obtain ⟨W2, hW2⟩ : ∃ W2, W2 = (W.alloc (oa x)).putObj (w.heap.size + 1) (.loop { R .ready none with state := .busy }) := ⟨_, rfl⟩
    rw [← hW2]
    have hl2 : W2.heap[w.heap.size + 1]? = some (.loop { R .ready none with state := .busy }) := by rw [hW2]; exact World.putObj_heap_same hltA
    have hk2 : W2.heap[w.heap.size]? = some (.deferred (some [])) := by rw [hW2]; exact (World.putObj_heap_other (by omega)).trans ((Below.heap_alloc _ _ _ (by omega)).trans hk)
    have hbx2 : W2.heap[W.heap.size]? = some (oa x) := by rw [hW2]; exact (World.putObj_heap_other (by omega)).trans (World.alloc_heap_new W (oa x))
    have hg2 : V0.grownBy W2 (some (w.heap.size + 1)) := by
      rw [hW2]
      have hg := grownBy_putObj' (W.alloc (oa x)) (w.heap.size + 1) (.loop { R .ready none with state := .busy })
      have hbA : Below V0.heap.size V0 (W.alloc (oa x)) := hbW.alloc hbW.size _
      exact ⟨hg.os.trans hbA.os, hg.tape.trans hbA.tape, hg.output.trans hbA.output, Nat.le_trans hbA.size hg.size, fun k h1 h2 => (hg.block k (Nat.lt_of_lt_of_le h1 hbA.size) h2).trans (hbA.block k h1)⟩
    have hp2 : Pre pre x V0 W2 := by rw [hW2]; exact hPre _ _ _ _ _ _ _ (hPreA _ _ _ _ hpx) (by omega) hlA rfl
    have hw2 : Kp W W2 := by rw [hW2]; exact hKt (hKa W (oa x)) (hKb _ _ _ _ (by omega) hlA rfl rfl)
    have fin : ∀ (jump : Option Code) (W3 : World), KeepsOthers W2 W3 →
        (Instr.endRound (w.heap.size + 1) jump).run P W3 = .ok (.bool jump.isNone) (W3.putObj (w.heap.size + 1) (.loop (R (if jump.isNone then .ready else .done) jump))) ∧
        W3.heap[w.heap.size + 1]? = some (.loop { R .ready none with state := .busy }) ∧
        (W3.putObj (w.heap.size + 1) (.loop (R (if jump.isNone then .ready else .done) jump))).heap[w.heap.size + 1]? = some (.loop (R (if jump.isNone then .ready else .done) jump)) ∧
        (W3.putObj (w.heap.size + 1) (.loop (R (if jump.isNone then .ready else .done) jump))).heap[w.heap.size]? = some (.deferred (some [])) := by
      intro jump W3 hk3
      have hl3 := hk3.same _ _ hl2 rfl
      have hr := run_endRound (P := P) jump hl3
      rw [hR] at hr hl3 ⊢
      exact ⟨hr, hl3, World.putObj_heap_same (Array.getElem?_eq_some_iff.1 hl3).1, (World.putObj_heap_other (by omega)).trans (hk3.same _ _ hk2 rfl)⟩
    refine wpIn_mono (hbody _ pre x V0 W2 W.heap.size hbW.size hbx2 hi hg2 (by omega) ⟨_, hl0, rfl⟩ hp2) ?_
    intro e a3 W3 hp
    cases e with
    | normal =>
      obtain ⟨hr, hl3, hl4, hk4⟩ := fin none W3 hp.1
      exact ⟨_, _, hr, .inl ⟨rfl, ⟨hI.putObj _ hp.2.2 (by omega) hl3 rfl, hl4, hk4⟩, hKt (hKt hw2 hp.2.1) (hKb _ _ _ _ (by omega) hl3 rfl rfl)⟩⟩
    | ret => exact absurd hp.2.1 (by intro h; cases h)
    | exit k =>
      obtain ⟨ho, hc, hib⟩ := hp
      cases hc
      obtain ⟨hr, hl3, hl4, hk4⟩ := fin (some (.exit id)) W3 ho
      exact ⟨_, _, hr, .inr ⟨rfl, hIb.putObj _ hib (by omega) hl3 rfl, hl4, hk4⟩⟩
    | goto t => exact absurd hp.2.1 (by intro h; cases h)
    | panic ch => exact hp.elim
    | outgrown => exact hp.elim
  · rintro e W2 ⟨⟨v, rfl⟩, (⟨xs, hS, hi, hl, hk⟩ | ⟨pre, hSp, hi, hl, hk⟩)⟩
    · have hr := run_endLoop (P := P) hl (by rw [hR]; simp)
      rw [hR] at hr
      exact ⟨none, _, hr, hend _ _ (Nat.le_refl _) (hd _ _ hS (hI.putObj _ hi (by omega) hl rfl)) ((World.putObj_heap_other (by omega)).trans hk)⟩
    · have hr := run_endLoop (P := P) hl (by rw [hR]; simp)
      rw [hR] at hr
      refine ⟨some (.exit id), _, hr, wpIn_exit ?_⟩
      show (if id = id then _ else _)
      rw [if_pos rfl]
      exact hend _ _ (Nat.le_refl _) (hs _ _ hSp (hIb.putObj _ hi (by omega) hl rfl)) ((World.putObj_heap_other (by omega)).trans hk)

def zS : Value := .agg #[.int .i64 0, .int .u16 0]
theorem infoS : (Try.prog.info? 117).map (fun i => (i.zero, i.size, i.bytes)) = some (some zS, 2, 16) := by kernel_rfl
def cellsK (l : List SK) : List Value := l.flatMap fun x => [.int .i64 x.1.1, .int .u16 x.1.2]
theorem cellsK_len : ∀ (l : List SK), (cellsK l).length = l.length * 2
  | [] => rfl
  | p :: l => by
    have ih := cellsK_len l
    unfold cellsK at *
    simp only [List.flatMap_cons, List.length_append, ih, List.length_cons, List.length_nil]
    omega
theorem cellsK_app (l r : List SK) : cellsK (l ++ r) = cellsK l ++ cellsK r := by unfold cellsK; rw [List.flatMap_append]
theorem cellsK_get : ∀ (l : List SK) (i : Nat) (hi : i < l.length), (cellsK l)[i * 2]? = some (.int .i64 l[i].1.1) ∧ (cellsK l)[i * 2 + 1]? = some (.int .u16 l[i].1.2)
  | [], i, hi => by simp at hi
  | p :: l, 0, hi => ⟨rfl, rfl⟩
  | p :: l, i + 1, hi => by
    have e : (i + 1) * 2 = i * 2 + 1 + 1 := by omega
    rw [e]
    exact cellsK_get l i (by simpa using hi)
theorem own_ne_walk {W : World} {B e s n : Nat} {v : Value} {xs : List Value} {r : Nat} {o : Obj} (h : W.ownsRow B e s v n xs) (ho : W.heap[r]? = some o) (hc : o.isCells = false) : v.ownBlock = none ∨ v.ownBlock ≠ some r := by
  rcases h.2 with ⟨e, _⟩ | ⟨g, cap, cur, e, hb, hg, _⟩
  · exact .inl (by rw [e]; rfl)
  · refine .inr fun e' => ?_
    rw [e] at e'
    simp [Value.ownBlock] at e'
    subst e'
    rw [hg] at ho
    cases ho
    cases hc
/-- Between two rounds of AppendSeq. -/
structure ApI (w0 : World) (g : Nat) (pre : List SK) (W : World) : Prop where
  box : ∃ v, W.cell? ⟨g, 0, none⟩ = some v ∧ W.ownsRow (g + 1) 117 2 v pre.length (cellsK pre)
  fr : W.frozen? ⟨g, 0, none⟩ = false
  below : Below w0.heap.size w0 W
theorem ApI.from (w0 : World) (g : Nat) (hg : w0.heap.size ≤ g) : OwnFrom (g + 1) (ApI w0 g) := by
  intro pre W W' row h hgr hr
  obtain ⟨⟨v, hv, ho⟩, hf, hb⟩ := h
  have hl := lt_of_cell hv
  have hne : some g ≠ row := fun e => by have := (hr g e.symm).1; omega
  refine ⟨⟨v, hgr.cell (a := ⟨g, 0, none⟩) hv hne, ?_⟩, (World.frozen?_of_block (w := W) (hgr.block g hl hne)).trans hf, hb.grown hgr hb.size (fun k e => by have := (hr k e).1; omega)⟩
  cases row with
  | none =>
    refine ho.kept hgr ?_
    cases v.ownBlock with
    | none => exact .inl rfl
    | some _ => exact .inr (by simp)
  | some r =>
    obtain ⟨_, o, h1, h2⟩ := hr r rfl
    exact ho.kept hgr (own_ne_walk ho h1 h2)
theorem news2 (X : World) (x : SK) (j : Nat) (u : Value) (h : [Value.int .i64 x.1.1, Value.int .u16 x.1.2][j]? = some u) : (X.alloc (.cells #[.int .i64 x.1.1, .int .u16 x.1.2] 117)).cell? ((⟨X.heap.size, 0, none⟩ : Addr).add j) = some u := by
  rw [add_at, Nat.zero_add, (box_at (box_new X (.cells #[.int .i64 x.1.1, .int .u16 x.1.2] 117) rfl) j).1]
  simpa using h
set_option maxRecDepth 100000 in
set_option maxHeartbeats 1000000 in
theorem appendSeq_calls (gf : Nat) (lb : Array Value) (eg : ∀ args w, (callFunc gf args).run Try.prog w = .ok (.enter gf args) w) (N : Nat) (hN : N ≤ 100000) {S Sp : List SK → Prop} (w : World)
    (hseq : ∀ w1, Below w.heap.size w w1 → SeqPre FW 7 Try.prog gf lb (fun x : SK => #[.agg #[.int .i64 x.1.1, .int .u16 x.1.2]]) (fun pre x _ _ => pre.length < N) KeepsWalks S Sp w1) :
    CallsIn FW 8 Try.prog 114 #[.slice none 0 0, .func (.func gf) #[] lb] w fun e w' => ∃ A c ss, e = .returned (.slice A ss.length c) ∧ S ss ∧ w'.ownsRow w.heap.size 117 2 (.slice A ss.length c) ss.length (cellsK ss) ∧ Below w.heap.size w w' := by
  obtain ⟨i0, hi, hz0, hz1, hz2⟩ := info_parts infoS
  refine callsIn_of_wp_marks Try.func114 rfl trivial ?_ rfl
  simp only [Try.ntmps114, List.size_toArray, List.length_cons, List.length_nil, Nat.reduceAdd, Nat.reduceSub, Array.replicate_succ, Array.replicate_zero, List.push_toArray, List.append_toArray, List.nil_append, List.cons_append]
  gi_wp2
  obtain ⟨W1, hW1⟩ : ∃ W1, W1 = w.alloc (.cells #[.slice none 0 0] 121) := ⟨_, rfl⟩
  rw [← hW1]
  have hs1 : W1.heap.size = w.heap.size + 1 := by rw [hW1]; simp
  have c1 : W1.cell? ⟨w.heap.size, 0, none⟩ = some (.slice none 0 0) := by rw [hW1]; exact cell_new1 _ _ _ _ rfl 0
  have f1 : W1.frozen? ⟨w.heap.size, 0, none⟩ = false := by rw [hW1]; exact froz_new1 _ _ _ _ rfl 0
  have hb1 : Below w.heap.size w W1 := by rw [hW1]; exact below_alloc (Below.refl _ _) _
  have HSQ := hid (hseq W1 hb1)
  clear hseq hW1
  refine range_box_law (F := FW) rfl (by decide) (gf := gf) (lb := lb) rfl trivial eg
    HSQ.out (fun _ _ _ _ _ _ _ h _ _ _ => h) (fun x : SK => .cells #[.int .i64 x.1.1, .int .u16 x.1.2] 117) (fun _ _ _ _ h => h) (fun W o => KeepsWalks.alloc W o) walksK_t walksK_b (Below.refl _ _) (fun _ => rfl)
    (ApI w w.heap.size) (fun _ _ => False) (by rw [hs1]; exact ApI.from _ _ (Nat.le_refl _)) (fun _ _ _ _ h _ _ => h) ?start (fun (x : SK) (b : Nat) => { tmps := #[Value.slice none 0 0, Value.func (Fn.func gf) #[] lb, Value.pointer (some ⟨w.heap.size, 0, none⟩), undef, Value.slice none 0 0, Value.pointer (some ⟨b, 0, none⟩), Value.func (Fn.func gf) #[] lb, Value.agg #[Value.int IntKind.i64 x.1.1, Value.int IntKind.u16 x.1.2], undef, undef, undef, undef, undef], defers := [] }) ?asg ?body
    (fun W => ∃ ss, S ss ∧ ApI w w.heap.size ss W) ?hd (fun _ _ _ h => h.elim) ?hend
  case asg =>
    intro lp x W K hK
    gi_wp2
    exact hK
  case hd =>
    rintro ys W hS h
    exact ⟨_, hS, h⟩
  case start =>
    exact ⟨⟨_, c1, World.ownsRow_nil _ _ _ _⟩, f1, hb1⟩
  case body =>
    rintro lp pre x V W b hVb hbx hIV hVW hlp hlo hpx
    have hI := ApI.from w w.heap.size (Nat.le_refl _) pre V W (some lp) hIV hVW (fun r e => by cases e; exact ⟨by omega, hlo⟩)
    obtain ⟨⟨v, hv, ho⟩, hf, hb⟩ := hI
    have hl := lt_of_cell hv
    have HO := hid ho
    have HB := hid hb
    have HF := hid hf
    have HP : Hid (pre.length < N) := hid hpx
    obtain ⟨x0, _⟩ := box_at hbx 0
    obtain ⟨x1, _⟩ := box_at hbx 1
    have hbl := (Array.getElem?_eq_some_iff.1 hbx).1
    clear hIV hVW hpx ho hb c1 f1 hbx
    gi_wp2_with (first
      | (gi_at_builtin; go_must (refine wpListIn_append_own _ rfl _ _ 121 rfl (w.heap.size + 1) 117 i0 zS 2 16 Try.underlying121 hi hz0 hz1 hz2 rfl (by decide) _ _ _ rfl (HO.out.alloc _) ⟨W.heap.size, 0, none⟩ 1 1 [.int .i64 x.1.1, .int .u16 x.1.2] rfl rfl (news2 W x) (by simp [Value.oneCell']) (by have := HP.out; unfold maxLen; omega) (by have := HP.out; omega) (by have := hl; simp; omega) ?_; intro v' w3 hown' hg3 hnil3; have hg3' : (W.alloc (.cells #[.int .i64 x.1.1, .int .u16 x.1.2] 117)).grownBy w3 v.ownBlock := hg3; clear hg3 hnil3; obtain ⟨A', c', rfl, hc'⟩ := Base.slice_of_row hown'; have hne : v.ownBlock ≠ some w.heap.size := fun e => (by have := (HO.out.lt w.heap.size e).1; omega); have hv3 : w3.cell? ⟨w.heap.size, 0, none⟩ = some v := hg3'.cell (a := ⟨w.heap.size, 0, none⟩) ((cell_old1 _ _ _ hl 0).trans hv) (fun e => hne e.symm); have hf3 : w3.frozen? ⟨w.heap.size, 0, none⟩ = false := (World.frozen?_of_block (w := W.alloc (.cells #[.int .i64 x.1.1, .int .u16 x.1.2] 117)) (hg3'.block w.heap.size (by simp; omega) (fun e => hne e.symm))).trans ((froz_old1 _ _ _ hl 0).trans HF.out); have HO3 := hid hown'; have HG3 := hid hg3'; have HNE := hid hne; have HK1 : Hid (W.heap.size + 1 ≤ w3.heap.size) := hid (by have := hg3'.size; simpa using this); clear hown' hg3' hne hc'; try go_frame))
      | gi_round_op_a)
    have hgs := grownBy_setCell' w3 w.heap.size (.slice A' (pre.length + 1) c')
    have ka : KeepsOthers W (W.alloc (.cells #[.int .i64 x.1.1, .int .u16 x.1.2] 117)) := KeepsOthers.alloc _ _
    have kb : KeepsOthers (W.alloc (.cells #[.int .i64 x.1.1, .int .u16 x.1.2] 117)) w3 := KeepsOthers.of_grownBy HG3.out (fun j o e ho => by
      by_cases hc : o.isCells = true
      · exact hc
      · rcases own_ne_walk (HO.out.alloc _) ho (by simpa using hc) with h | h
        · rw [h] at e; cases e
        · exact absurd e h)
    have kc : KeepsOthers w3 (w3.setCell ⟨w.heap.size, 0, none⟩ (.slice A' (pre.length + 1) c')) := KeepsOthers.setCell _ _ _
    have k := (ka.trans kb).trans kc
    have hk1 := HK1.out
    refine ⟨k, k.walks, ⟨_, World.cell?_setCell_same _ _ _ hv3, ?_⟩, by simpa using hf3, ?_⟩
    · have := HO3.out.kept hgs (.inr fun e => by have := (HO3.out.lt w.heap.size e).1; omega)
      rw [cellsK_app, List.length_append]
      exact this
    · have h1 := HB.out.size
      refine ((below_alloc HB.out _).grown HG3.out (by simp; omega) (fun k e => by have := (HO.out.lt k e).1; omega)).grown hgs (by omega) (fun k e => by cases e; omega)
  case hend =>
    rintro D W2 hD ⟨ss, hS, ⟨v, hv, ho⟩, hf, hb⟩ hK
    have HK := hid hK
    have hD2 : D < W2.heap.size := (Array.getElem?_eq_some_iff.1 hK).1
    obtain ⟨A, c, rfl, _⟩ := Base.slice_of_row ho
    clear hK
    gi_wp2
    have hg4 := grownBy_putObj' W2 D (.deferred none)
    refine ⟨by simp, .inl ⟨_, _, rfl, run_takeDeferred HK.out, ?_⟩⟩
    exact ⟨_, results_tmp rfl _ _ _, A, c, ss, rfl, hS, Base.ownsRow_base (ho.kept hg4 (own_ne_walk ho HK.out rfl)) (by omega), hb.grown hg4 hb.size (fun k e => by cases e; omega)⟩
theorem appendSeq_plain (gf : Nat) (lb : Array Value) (eg : ∀ args w, (callFunc gf args).run Try.prog w = .ok (.enter gf args) w) (N : Nat) (hN : N ≤ 100000) {S Sp : List SK → Prop} (w : World)
    (hseq : ∀ w1, Below w.heap.size w w1 → SeqPre FW 7 Try.prog gf lb (fun x : SK => #[.agg #[.int .i64 x.1.1, .int .u16 x.1.2]]) (fun pre x _ _ => pre.length < N) KeepsWalks S Sp w1) :
    Calls Try.prog 114 #[.slice none 0 0, .func (.func gf) #[] lb] w fun e w' => ∃ A c ss, e = .returned (.slice A ss.length c) ∧ S ss ∧ w'.ownsRow w.heap.size 117 2 (.slice A ss.length c) ss.length (cellsK ss) ∧ Below w.heap.size w w' :=
  (callsIn_wide (n := 8)).1 (appendSeq_calls gf lb eg N hN w hseq)
/-- What the keys of a desk are. -/
def IsKeys (d : Ds) (ss : List SK) : Prop := ss.Nodup ∧ ∀ x : SK, x ∈ ss ↔ (lookW d.ws x.1.1 x.1.2).isSome = true
theorem collect_calls (w : World) (bk bp mb n : Nat) (d : Ds) (f : SK → Option Mg) (L : List Mg) (A : Option Addr) (c : Nat) (h : Dk w bp mb n d f L A c) (hk : w.cell? ⟨bk, 0, none⟩ = some (.map (some mb))) (hl : d.ws.length ≤ 100000) :
    Calls Try.prog 95 #[.func (.func 97) #[] #[.pointer (some ⟨bk, 0, none⟩)]] w fun e w' => ∃ (A : Option Addr) (c : Nat) (ss : List SK), e = .returned (.slice A ss.length c) ∧ IsKeys d ss ∧ w'.ownsRow w.heap.size 117 2 (.slice A ss.length c) ss.length (cellsK ss) ∧ Below w.heap.size w w' := by
  obtain ⟨D, h1, h2, h3, h4⟩ := h.map
  have hlt := lt_of_cell hk
  have hap := appendSeq_plain 97 #[.pointer (some ⟨bk, 0, none⟩)] (enters_of Try.func97 (by kernel_rfl) rfl) d.ws.length hl w (fun w1 hb => by
    have := keysS_seq 7 (by decide) bk mb n D w1 (Nat.lt_of_lt_of_le hlt hb.size) ((hb.cell (p := ⟨bk, 0, none⟩) hlt).trans hk) (by
      have hbl := h1.lt
      obtain ⟨es, clock, hb2, Ft, hs, hD⟩ := h1
      exact ⟨es, clock, (hb.block mb hbl).trans hb2, Ft, hs, hD⟩)
    rw [h4] at this
    exact this)
  have HAP := hid hap
  have key : ∀ ss, CollS D (fun _ => false) ss → IsKeys d ss := by
    rintro ss ⟨k1, k2⟩
    refine ⟨k1, fun x => ?_⟩
    rw [k2 x, h2 x trivial]
    have := congrArg Option.isSome (h.fm x)
    simp only [Option.isSome_map] at this ⊢
    rw [this]
    simp
  have KEY := hid key
  clear h1 h2 h3 h4 hap key hk h
  go_enter Try.func95, Try.ntmps95
  go_wp2_with (go_at_call 114; go_must (refine HAP.out.mono ?_; rintro e w' ⟨A, c, ss, rfl, hS, hO, hB⟩))
  go_ret
  exact ⟨A, c, ss, rfl, KEY.out ss hS, hO, hB⟩
theorem keys_calls (w : World) (mb : Nat) : Calls Try.prog 60 #[.map (some mb)] w fun e w' => e = .returned (.func (.func 97) #[] #[.pointer (some ⟨w.heap.size, 0, none⟩)]) ∧ w' = w.alloc (.cells #[.map (some mb)] 110) := by
  go_enter Try.func60, Try.ntmps60
  go_wp2
  go_ret
  exact ⟨rfl, rfl⟩
end Go.Proofs.Ythoammfpjheodaa.Or
