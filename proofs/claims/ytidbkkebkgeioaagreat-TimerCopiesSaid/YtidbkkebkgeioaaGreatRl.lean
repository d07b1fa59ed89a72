import Derived.Test.YtidbkkebkgeioaaGreatRi
import Derived.WalkLawsBesides
import Derived.Sort.QuietIn
import Derived.RangeFuncNested
import Derived.RangeFuncBound
import Derived.RangeFuncCalls
import Derived.RangeFuncLeaves
import Derived.RangeFuncFrom
import Derived.OwnWalkIn
import Derived.TacticsInMore
import Derived.LoopNIn
import Derived.LoopIn
namespace Go.Proofs.YtidbkkebkgeioaaGreat.En
open Go.ChangeShapes Go.WideShapes Go.ChangeAt Go.RowKit Go.Shelf MK
open Base (hid cell_new1 cell_old1 froz_new1 froz_old1)
open TmA
attribute [local go_sem] Oper.semAt_some
set_option linter.unusedVariables false
set_option linter.unusedSimpArgs false
/-! a range over a function whose yielded word is good in the world in which it is yielded -/
open Go.RowKit in
/-- An iterator that yields words of which Pre holds where they are yielded. -/
def SeqPre {α : Type} (F : Fence) (n : Nat) (P : Program) (g : Nat) (lb : Array Value) (encs : α → Array Value) (Pre : List α → α → World → World → Prop) (Kp : World → World → Prop) (S Sp : List α → Prop) (w : World) : Prop :=
  ∀ (l : Nat) (J Jx : List α → World → Prop) (W : World), Below w.heap.size w W → AbidesFrom W.heap.size J → AbidesFrom W.heap.size Jx →
    (∀ pre x W0 W1, J pre W0 → Below W0.heap.size W0 W1 → Pre pre x W0 W1 → YieldAt F (n - 1) P l (encs x) W1 fun e W' => (e = .returned (.bool true) ∧ J (pre ++ [x]) W' ∧ Kp W1 W') ∨ (e = .returned (.bool false) ∧ Jx (pre ++ [x]) W')) →
    J [] W → CallsIn F n P g (#[.func (.yield l) #[] #[]] ++ lb) W fun e W' => (∃ v, e = .returned v) ∧ ((∃ xs, S xs ∧ J xs W') ∨ (∃ pre, Sp pre ∧ Jx pre W'))
theorem range_pre_law {F : Fence} {n : Nat} {P : Program} {α : Type} {g : Operand} {ps : Array Tmp} {assign body : Code} {Q : Exit → Act → World → Prop} {id : Nat} {a : Act} {w : World}
    (hro : F.round = none) (h1 : 1 ≤ n) {gf : Nat} {lb : Array Value} (hg : a.eval g = .func (.func gf) #[] lb) (hFg : F.fn gf) (eg : ∀ args w, (callFunc gf args).run P w = .ok (.enter gf args) w)
    {encs : α → Array Value} {Pre : List α → α → World → World → Prop} {Kp : World → World → Prop} {S Sp : List α → Prop} {w0 : World} (hseq : SeqPre F (n - 1) P gf lb encs Pre Kp S Sp w0)
    (hPre : ∀ pre x W0 W (l : Nat) (o o' : Obj), Pre pre x W0 W → w.heap.size ≤ l → W.heap[l]? = some o → o.isCells = false → Pre pre x W0 (W.putObj l o'))
    (hKt : ∀ {A B C : World}, Kp A B → Kp B C → Kp A C) (hKb : ∀ (W : World) (l : Nat) (o o' : Obj), w.heap.size ≤ l → W.heap[l]? = some o → o.isCells = false → o.isWalk = false → Kp W (W.putObj l o')) (hb0 : Below w0.heap.size w0 w) (hps : ∀ x, (encs x).size = ps.size)
    (I Ib : List α → World → Prop) (hI : OwnFrom w.heap.size I) (hIb : OwnFrom w.heap.size Ib) (h0 : I [] w) (a₁ : α → Act)
    (hassign : ∀ (l : Nat) (x : α) (W : World) (K : Act → World → Prop), K (a₁ x) W →
      assign.wpIn (F.inRound l) (n - 1 - 1) P (Exit.then K (fun _ _ _ => False)) { tmps := (ps.zip (encs x)).foldl (fun t (p, v) => t.setIfInBounds p v) a.tmps, defers := [] } W)
    (hbody : ∀ (l : Nat) (pre : List α) (x : α) (W0 W : World), I pre W0 → W0.grownBy W (some l) → w.heap.size ≤ l → (∃ o : Obj, W0.heap[l]? = some o ∧ o.isCells = false) → Pre pre x W0 W → body.wpIn (F.inRound l) (n - 1 - 1) P (ownPostK Kp I (fun c pre W => c = .exit id ∧ Ib pre W) (pre ++ [x]) W) (a₁ x) W)
    (E : World → Prop) (hd : ∀ xs W, S xs → I xs W → E W) (hs : ∀ xs W, Sp xs → Ib xs W → E W)
    (hend : ∀ (D : Nat) (W : World), w.heap.size ≤ D → E W → W.heap[D]? = some (.deferred (some [])) → Q .normal { a with defers := { target := .collected D, args := #[] } :: a.defers } W) :
    (Code.rangeFunc g ps assign body).wpIn F n P (Exit.inBlock id Q) a w := by
  refine wpIn_rangeFunc fun fn hfn => ?_
  rw [hro]
  obtain ⟨R, hR⟩ : ∃ R : LoopState → Option Code → Loop, R = fun st pe => { state := st, pending := pe, fn, tmps := a.tmps, params := ps, assign, body, defers := w.heap.size } := ⟨_, rfl⟩
  obtain ⟨V, hV⟩ : ∃ V, V = (w.alloc (.deferred (some []))).alloc (.loop (R .ready none)) := ⟨_, rfl⟩
  have vz : V.heap.size = w.heap.size + 2 := by rw [hV]; simp
  have vl : V.heap[w.heap.size + 1]? = some (.loop (R .ready none)) := by
    have := World.alloc_heap_new (w.alloc (.deferred (some []))) (.loop (R .ready none))
    rw [World.size_alloc] at this
    rw [hV]
    exact this
  have vd : V.heap[w.heap.size]? = some (.deferred (some [])) := by
    rw [hV]
    exact (Below.heap_alloc _ _ _ (by simp)).trans (World.alloc_heap_new w _)
  have vb : Below w.heap.size w V := by rw [hV]; exact ((Below.refl _ w).alloc (Nat.le_refl _) _).alloc (by simp) _
  have keep : ∀ {A B : World} {row : Option Nat} {k : Nat} {o : Obj}, A.grownBy B row → (∀ r, row = some r → V.heap.size ≤ r ∧ ∃ o : Obj, A.heap[r]? = some o ∧ o.isWalk = true) → A.heap[k]? = some o → o.isWalk = false → B.heap[k]? = some o :=
    fun hg hr hk hw => (grownBy_keeps hg (fun r e => (hr r e).2) hk hw).trans hk
  have thin : ∀ {A : World} {row : Option Nat}, (∀ r, row = some r → V.heap.size ≤ r ∧ ∃ o : Obj, A.heap[r]? = some o ∧ o.isWalk = true) → (∀ r, row = some r → w.heap.size ≤ r ∧ ∃ o : Obj, A.heap[r]? = some o ∧ o.isCells = false) := fun hr r e => by
    obtain ⟨hB, o, ho, hw⟩ := hr r e
    exact ⟨by omega, o, ho, Obj.not_cells_of_walk hw⟩
  refine ⟨w.heap.size + 1, [{ target := .collected w.heap.size, args := #[] }], V, { target := .fn (.func gf) lb, args := #[.func (.yield (w.heap.size + 1)) #[] #[]] }, V, gf, #[.func (.yield (w.heap.size + 1)) #[] #[]] ++ lb, V, ?_, ?_, ?_, ?_, fun _ => h1, ?_⟩
  · rw [hV, hR]
    exact run_enterLoop_outer _ _ _ _ _
  · simp only [resolve, hg]
    simp [go_sem]
  · intro f' hf'
    simp [Target.leads] at hf'
    subst hf'
    exact hFg
  · simp [invoke, go_sem, eg]
  refine (hseq (w.heap.size + 1) (fun pre W => I pre W ∧ W.heap[w.heap.size + 1]? = some (.loop (R .ready none)) ∧ W.heap[w.heap.size]? = some (.deferred (some [])))
    (fun pre W => Ib pre W ∧ W.heap[w.heap.size + 1]? = some (.loop (R .done (some (.exit id)))) ∧ W.heap[w.heap.size]? = some (.deferred (some []))) V (hb0.trans (vb.mono hb0.size))
    (fun s A B row h hg hr => ⟨hI s A B row h.1 hg (thin hr), keep hg hr h.2.1 rfl, keep hg hr h.2.2 rfl⟩)
    (fun s A B row h hg hr => ⟨hIb s A B row h.1 hg (thin hr), keep hg hr h.2.1 rfl, keep hg hr h.2.2 rfl⟩)
    ?_ ⟨by rw [hV]; exact hI.alloc _ (hI.alloc _ h0), vl, vd⟩).mono ?_
  · rintro pre x V0 W ⟨hi, hl0, hk0⟩ hbW hpx
    have hl : W.heap[w.heap.size + 1]? = some (.loop (R .ready none)) := (hbW.block _ (Array.getElem?_eq_some_iff.1 hl0).1).trans hl0
    have hk : W.heap[w.heap.size]? = some (.deferred (some [])) := (hbW.block _ (Array.getElem?_eq_some_iff.1 hk0).1).trans hk0
    have hlt : w.heap.size + 1 < W.heap.size := (Array.getElem?_eq_some_iff.1 hl).1
    have hy := run_yield (P := P) (args := encs x) hl (by rw [hR]; exact hps x)
    rw [hR] at hy
    refine ⟨fn, _, assign, body, hy, roundIn_of_wpIn hfn (hassign _ x W _ ⟨_, run_beginRound hl (by rw [hR]), ?_⟩)⟩
    obtain ⟨W2, hW2⟩ : ∃ W2, W2 = W.putObj (w.heap.size + 1) (.loop { R .ready none with state := .busy }) := ⟨_, rfl⟩
    rw [← hW2]
    have hl2 : W2.heap[w.heap.size + 1]? = some (.loop { R .ready none with state := .busy }) := by rw [hW2]; exact World.putObj_heap_same hlt
    have hk2 : W2.heap[w.heap.size]? = some (.deferred (some [])) := by rw [hW2]; exact (World.putObj_heap_other (by omega)).trans hk
    have hg2 : V0.grownBy W2 (some (w.heap.size + 1)) := by
      rw [hW2]
      have hg := grownBy_putObj' W (w.heap.size + 1) (.loop { R .ready none with state := .busy })
      exact ⟨hg.os.trans hbW.os, hg.tape.trans hbW.tape, hg.output.trans hbW.output, Nat.le_trans hbW.size hg.size, fun k h1 h2 => (hg.block k (Nat.lt_of_lt_of_le h1 hbW.size) h2).trans (hbW.block k h1)⟩
    have hp2 : Pre pre x V0 W2 := by rw [hW2]; exact hPre _ _ _ _ _ _ _ hpx (by omega) hl rfl
    have hw2 : Kp W W2 := by rw [hW2]; exact hKb _ _ _ _ (by omega) hl rfl rfl
    have fin : ∀ (jump : Option Code) (W3 : World), KeepsOthers W2 W3 →
        (Instr.endRound (w.heap.size + 1) jump).run P W3 = .ok (.bool jump.isNone) (W3.putObj (w.heap.size + 1) (.loop (R (if jump.isNone then .ready else .done) jump))) ∧
        W3.heap[w.heap.size + 1]? = some (.loop { R .ready none with state := .busy }) ∧
        (W3.putObj (w.heap.size + 1) (.loop (R (if jump.isNone then .ready else .done) jump))).heap[w.heap.size + 1]? = some (.loop (R (if jump.isNone then .ready else .done) jump)) ∧
        (W3.putObj (w.heap.size + 1) (.loop (R (if jump.isNone then .ready else .done) jump))).heap[w.heap.size]? = some (.deferred (some [])) := by
      intro jump W3 hk3
      have hl3 := hk3.same _ _ hl2 rfl
      have hr := run_endRound (P := P) jump hl3
      rw [hR] at hr hl3 ⊢
      exact ⟨hr, hl3, World.putObj_heap_same (Array.getElem?_eq_some_iff.1 hl3).1, (World.putObj_heap_other (by omega)).trans (hk3.same _ _ hk2 rfl)⟩
    refine wpIn_mono (hbody _ pre x V0 W2 hi hg2 (by omega) ⟨_, hl0, rfl⟩ hp2) ?_
    intro e a3 W3 hp
    cases e with
    | normal =>
      obtain ⟨hr, hl3, hl4, hk4⟩ := fin none W3 hp.1
      exact ⟨_, _, hr, .inl ⟨rfl, ⟨hI.putObj _ hp.2.2 (by omega) hl3 rfl, hl4, hk4⟩, hKt (hKt hw2 hp.2.1) (hKb _ _ _ _ (by omega) hl3 rfl rfl)⟩⟩
    | ret => exact absurd hp.2.1 (by intro h; cases h)
    | exit k =>
      obtain ⟨ho, hc, hib⟩ := hp
      cases hc
      obtain ⟨hr, hl3, hl4, hk4⟩ := fin (some (.exit id)) W3 ho
      exact ⟨_, _, hr, .inr ⟨rfl, hIb.putObj _ hib (by omega) hl3 rfl, hl4, hk4⟩⟩
    | goto t => exact absurd hp.2.1 (by intro h; cases h)
    | panic ch => exact hp.elim
    | outgrown => exact hp.elim
  · rintro e W2 ⟨⟨v, rfl⟩, (⟨xs, hS, hi, hl, hk⟩ | ⟨pre, hSp, hi, hl, hk⟩)⟩
    · have hr := run_endLoop (P := P) hl (by rw [hR]; simp)
      rw [hR] at hr
      exact ⟨none, _, hr, hend _ _ (Nat.le_refl _) (hd _ _ hS (hI.putObj _ hi (by omega) hl rfl)) ((World.putObj_heap_other (by omega)).trans hk)⟩
    · have hr := run_endLoop (P := P) hl (by rw [hR]; simp)
      rw [hR] at hr
      refine ⟨some (.exit id), _, hr, wpIn_exit ?_⟩
      show (if id = id then _ else _)
      rw [if_pos rfl]
      exact hend _ _ (Nat.le_refl _) (hs _ _ hSp (hIb.putObj _ hi (by omega) hl rfl)) ((World.putObj_heap_other (by omega)).trans hk)
/-! the groups of a list -/
theorem sortsO (m : Nat) : AnyZI.SortsIn Tryz.prog Tryz.sortedI_ren Fence.wide m :=
  ⟨fun blk off cap ss W hH hblk hsz => callsIn_wide.2 (AnyM.slices_Sort_int Tryz.sortO blk off cap ss W hH hblk hsz),
   fun p cap W => callsIn_wide.2 (AnyM.slices_Sort_int_none Tryz.sortO p cap W)⟩
theorem sort_keys (m : Tm.M) (hok : Tm.Ok m) (ss : List Int) (hp : ss.Perm (m.map (·.1))) : ss.mergeSort (fun x y => decide (x ≤ y)) = m.map (·.1) := by
  have h1 : (m.map (·.1)).Pairwise (fun x y : Int => decide (x ≤ y) = true) := by
    rw [List.pairwise_map]
    exact hok.imp fun h => decide_eq_true (Int.le_of_lt h)
  have h2 : (ss.mergeSort (fun x y : Int => decide (x ≤ y))).Pairwise (fun x y : Int => decide (x ≤ y) = true) :=
    List.pairwise_mergeSort (fun a b c h1 h2 => by simp at *; omega) (fun a b => by simp; omega) _
  exact (List.mergeSort_perm _ _ |>.trans hp).eq_of_pairwise (le := fun x y => decide (x ≤ y) = true) (fun a b _ _ h3 h4 => by simp at h3 h4; omega) h2 h1
theorem sorted_calls (w : World) (bk b n : Nat) (m : Tm.M) (hok : Tm.Ok m) (hwf : ∀ p ∈ m, I64 p.1) (hk : w.cell? ⟨bk, 0, none⟩ = some (.map (some b))) (hm : MapIs Tryz.prog 3 w KI b n (fI m) m.length) (hl : m.length ≤ 1000000) :
    Calls Tryz.prog 33 #[.func (.func 43) #[] #[.pointer (some ⟨bk, 0, none⟩)]] w fun e w' => ∃ v, e = .returned v ∧ w'.ownsRow w.heap.size 3 1 v m.length ((m.map (·.1)).map (.int .i64)) ∧ Below w.heap.size w w' := by
  refine (callsIn_wide (n := 6)).1 ?_
  obtain ⟨D, ho, h2, h3, h4⟩ := hm
  have hbk := lt_of_cell hk
  have hseq : SeqGives Fence.wide 3 Tryz.prog 43 #[.pointer (some ⟨bk, 0, none⟩)] Go.encZ (fun ss => ss.Perm (Go.intKeys D)) (Maps.size D) w :=
    AnyZI.keys_gives (ρ := Tryz.keysI_ren) { Tryz.keysI with } Fence.wide _ trivial rfl (by omega) bk b n D w hbk hk ho
  have hperm : ∀ ss : List Int, ss.Perm (Go.intKeys D) → ss.Perm (m.map (·.1)) := fun ss hs =>
    keys_perm Tryz.underlying3 ho (fun x hx => by
      refine (h2 x hx).trans ?_
      rw [fI_some, Bool.eq_iff_iff, Tm.look_isSome, decide_eq_true_iff]) (Tm.keys_nodup hok) (fun x hx => by
      obtain ⟨p, hp, rfl⟩ := List.mem_map.1 hx
      exact hwf p hp) hs
  have cS := AnyZI.sorted_in Tryz.sortedI Fence.wide 6 trivial trivial trivial trivial rfl (by omega) (sortsO _) (enters_of Tryz.func42 (by kernel_rfl) rfl) 43 #[.pointer (some ⟨bk, 0, none⟩)] trivial (enters_of Tryz.func43 (by kernel_rfl) rfl) _ (Maps.size D) (by rw [h4]; unfold maxLen; omega) (by rw [h4]; omega) w hseq
  change CallsIn _ _ Tryz.prog 33 _ _ _ at cS
  refine cS.mono ?_
  rintro e w' ⟨v, ss, rfl, hS, hrow, hnil, hb⟩
  have hp := hperm ss hS
  have hsl : ss.length = m.length := by rw [hp.length_eq, List.length_map]
  rw [sort_keys m hok ss hp, hsl] at hrow
  exact ⟨v, rfl, hrow, hb⟩
/-- Every block of cells but cnt, and every block below n₀ but cnt, is as it was. -/
structure KeepC (cnt n₀ : Nat) (W W' : World) : Prop where
  size : W.heap.size ≤ W'.heap.size
  obj : ∀ k o, W.heap[k]? = some o → k ≠ cnt → (o.isCells = true ∨ k < n₀) → W'.heap[k]? = some o
theorem KeepC.refl (cnt n₀ : Nat) (W : World) : KeepC cnt n₀ W W := ⟨Nat.le_refl _, fun _ _ h _ _ => h⟩
theorem KeepC.trans {cnt n₀ : Nat} {A B C : World} (h : KeepC cnt n₀ A B) (k : KeepC cnt n₀ B C) : KeepC cnt n₀ A C := ⟨Nat.le_trans h.size k.size, fun j o ho hj hc => k.obj j o (h.obj j o ho hj hc) hj hc⟩
theorem KeepC.block {cnt n₀ : Nat} {W W' : World} (h : KeepC cnt n₀ W W') {k : Nat} (hk : k < n₀) (hn : n₀ ≤ W.heap.size) (hne : k ≠ cnt) : W'.heap[k]? = W.heap[k]? := by
  have hl : k < W.heap.size := Nat.lt_of_lt_of_le hk hn
  rw [h.obj k _ (Array.getElem?_eq_getElem hl) hne (.inr hk), Array.getElem?_eq_getElem hl]
theorem keepC_b {cnt n₀ : Nat} {w : World} (hn : n₀ ≤ w.heap.size) (W : World) (l : Nat) (o o' : Obj) (hl : w.heap.size ≤ l) (h : W.heap[l]? = some o) (hc : o.isCells = false) (_ : o.isWalk = false) : KeepC cnt n₀ W (W.putObj l o') := by
  have hg := grownBy_putObj' W l o'
  refine ⟨hg.size, fun k o1 hk hne hor => ?_⟩
  have hkl : k ≠ l := by
    rintro rfl
    rw [h] at hk
    cases hk
    rcases hor with h1 | h1
    · rw [hc] at h1
      cases h1
    · omega
  rw [hg.block k (Array.getElem?_eq_some_iff.1 hk).1 (fun e => hkl (by cases e; rfl))]
  exact hk
theorem keepC_set (cnt n₀ : Nat) (W : World) (v : Value) : KeepC cnt n₀ W (W.setCell ⟨cnt, 0, none⟩ v) := by
  have hg := grownBy_setCell' W cnt v
  exact ⟨hg.size, fun k o hk hne _ => (hg.block k (Array.getElem?_eq_some_iff.1 hk).1 (fun e => hne (by cases e; rfl))).trans hk⟩
theorem KeepC.row {cnt n₀ : Nat} {W W' : World} {B : Nat} {e : TypeId} {s : Nat} {v : Value} {n : Nat} {xs : List Value} (h : KeepC cnt n₀ W W') (ho : W.ownsRow B e s v n xs) (hB : cnt < B) : W'.ownsRow B e s v n xs := by
  refine ⟨ho.1, ?_⟩
  rcases ho.2 with hn | ⟨g, cap, cur, rfl, hb, hg, rest⟩
  · exact .inl hn
  · exact .inr ⟨g, cap, cur, rfl, hb, h.obj g _ hg (by omega) (.inl rfl), rest⟩
end Go.Proofs.YtidbkkebkgeioaaGreat.En
