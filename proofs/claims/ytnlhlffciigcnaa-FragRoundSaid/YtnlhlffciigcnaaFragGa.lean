import Derived.Test.YtnlhlffciigcnaaQFragx1
import Derived.Test.YtnlhlffciigcnaaFragBig
import Derived.Test.YtnlhlffciigcnaaLeftWalk
import Derived.Outline
import Derived.Deep.Slices
import Derived.Lib.SmallJoins
namespace Go.Proofs.Ytnlhlffciigcnaa.QFrag
open Go.RowKit Go.Proofs.YtnlhlffciigcnaaW.PrintWords Go.Proofs.YtnlhlffciigcnaaW.PrintLast Go.Proofs.YtnlhlffciigcnaaW.PrintMore Go.ChangeShapes Go.WideShapes Go.ChangeAt Go.Shelf
open Base (hid slice_of_row ret_bool cell_new1 cell_old1 froz_new1 froz_old1)
open Go.Joins (cell_of_block unfrozen_of_block)
attribute [local go_sem] Oper.semAt_some
set_option linter.unusedVariables false
namespace FG
theorem wrap_small (i : Nat) (h : i ≤ 100000) : wrap64 ((i : Int) + 1) = ((i + 1 : Nat) : Int) := by unfold wrap64; omega
theorem rd_nat93 (l : List S93) (i : Nat) (h : i < l.length) : rd_T93 l (i : Int) = l[i] := by simp [rd_T93, h]
theorem piece_self (p : S93) : weftlinenum_Piece.f p.f0 p.f1 p.f2 p.f3 p.f4 p.f5 p.f6 p.f0 p.f1 p.f2 p.f3 p.f4 p.f5 p.f6 = some true := by
  unfold weftlinenum_Piece.f
  simp
theorem pieces_l0 (l : List S93) (hl : l.length ≤ 100000) : ∀ (k i : Nat), i ≤ l.length → l.length - i < k → weftlinenum_Pieces.l0 k l l (l.length : Int) (i : Int) = some true := by
  intro k
  induction k with
  | zero => intro i _ h; omega
  | succ k ih =>
    intro i hi hk
    rw [weftlinenum_Pieces.l0]
    by_cases h : i < l.length
    · rw [if_pos (by omega), if_pos (by omega), if_pos (by omega), if_pos (by omega), piece_self, Option.bind_some, if_pos rfl, wrap_small i (by omega)]
      exact ih (i + 1) (by omega) (by omega)
    · rw [if_neg (by omega)]
theorem pieces_self (k : Nat) (l : List S93) (hl : l.length ≤ 100000) (hk : l.length < k) : weftlinenum_Pieces.f k l l = some true := by
  have := pieces_l0 l hl k 0 (Nat.zero_le _) (by omega)
  simpa [weftlinenum_Pieces.f] using this
end FG
/-! first -/
theorem below_size_drew {w wd : World} (h : Below w.heap.size w wd) (n : Nat) : Below w.heap.size w (wd.drewN n) := pw_below_drewN h n
/-- Does piece i begin no new group? -/
def goesOn (l : List S93) (i : Nat) : Bool := decide ((rd_T93 l (i : Int)).f0 = ((rd_T93 l ((i : Int) - 1)).f0 + 1) % 4294967296) && (!(rd_T93 l (i : Int)).f3 && !(rd_T93 l ((i : Int) - 1)).f4)
/-- How far a group goes from i on. -/
def runTo (l : List S93) : Nat → Nat → Nat
  | 0, i => i
  | k + 1, i => if i < l.length ∧ goesOn l i = true then runTo l k (i + 1) else i
def firstN (l : List S93) : Nat := if l.length = 0 then 0 else runTo l l.length 1
theorem step_quiet (a n : Int) (m : Nat) {w : World} : Calls Try.prog 18 #[.int .u32 a, .int .i64 n] (w.drewN m) fun e w'' => e = .returned (.int .u32 ((a + n % 4294967296) % 4294967296)) ∧ ∃ k, w'' = w.drewN k :=
  Calls.quiet_of_same ((step_calls a n (w.drewN m)).mono fun e w' h => ⟨h.1, h.2.symm⟩)
set_option maxRecDepth 100000 in
set_option maxHeartbeats 8000000 in
theorem first_calls (A : Option Addr) (c : Nat) (l : List S93) (w : World) (hr : Kd.C k93 w A l.length l) (hl : l.length ≤ 10000) :
    Calls Try.prog 81 #[.slice A l.length c] w fun e w' => e = .returned (.int .i64 (firstN l)) ∧ Below w.heap.size w w' := by
  have hu93 := Try.underlying93
  have HR := hid hr
  clear hr
  by_cases h0 : l.length = 0
  · have e : firstN l = 0 := by unfold firstN; rw [if_pos h0]
    rw [e]
    obtain rfl : l = [] := List.eq_nil_of_length_eq_zero h0
    clear h0 e
    go_enter Try.func81, Try.ntmps81
    go_wp2
    go_loopw [3] (fun i wr => i = .int .i64 0 ∧ Hid (∃ m, wr = w.drewN m)) (fun _ _ => 0)
    case atStart => exact ⟨rfl, hid ⟨0, rfl⟩⟩
    case round =>
      obtain ⟨rfl, HW⟩ := hrel
      obtain ⟨m, rfl⟩ := HW.out
      clear HW
      go_wp2
      go_quiet ((go_at_call 18; exact step_quiet _ _ _))
      go_wp2
      go_ret
      exact ⟨rfl, pw_below_drewN (pw_below_drewN (Below.refl _ _) _) _⟩
  · have e : firstN l = runTo l l.length 1 := by unfold firstN; rw [if_neg h0]
    have HE := hid e
    have hp : 1 ≤ l.length := by omega
    clear e
    go_enter Try.func81, Try.ntmps81
    go_wp2
    go_loopw [3] (fun v wr => ∃ i : Nat, 1 ≤ i ∧ i ≤ l.length ∧ v = .int .i64 i ∧ Hid (runTo l l.length 1 = runTo l (l.length + 1 - i) i) ∧ Hid (∃ m, wr = w.drewN m)) (fun v _ => l.length - (intOf v).toNat)
    case atStart => exact ⟨1, Nat.le_refl _, hp, by go_num, hid (by rw [Nat.add_sub_cancel]), hid ⟨0, rfl⟩⟩
    case round =>
      obtain ⟨i, hi1, hi, rfl, HRT, HW⟩ := hrel
      obtain ⟨m, rfl⟩ := HW.out
      clear HW
      have HB := hid (pw_below_drewN (Below.refl w.heap.size w) m)
      obtain ⟨wd, hwd⟩ : ∃ wd : World, wd = w.drewN m := ⟨_, rfl⟩
      rw [← hwd] at HB ⊢
      have HWD := hid hwd
      clear hwd
      have hi0 : 0 < i := hi1
      have hi0I : (0 : Int) < (i : Int) := by omega
      by_cases hlt : i < l.length
      · obtain ⟨k, hk⟩ : ∃ k, l.length + 1 - i = k + 1 := ⟨l.length - i, by omega⟩
        rw [hk, runTo] at HRT
        obtain ⟨p, hpi⟩ : ∃ p : Nat, p + 1 = i := ⟨i - 1, by omega⟩
        have hw1 : IntKind.i64.wrap ((i : Int) - 1) = (p : Int) := by rw [← hpi]; simp [IntKind.wrap, IntKind.bits, IntKind.signed]; omega
        have hpe : (i : Int) - 1 = (p : Int) := by omega
        obtain ⟨ad, A6, c6, rfl, x0, x1, x2, x3, x4, x5, x6, _, _⟩ := at_T93 (Kd.C_below HR.out HB.out) (i : Int) (by omega) (by omega)
        obtain ⟨ad', B6, d6, e', y0, y1, y2, y3, y4, y5, y6, _, _⟩ := at_T93 (Kd.C_below HR.out HB.out) (p : Int) (by omega) (by omega)
        cases e'
        rw [Int.toNat_natCast] at x0 x3 y0 y4
        have hgo : goesOn l i = (decide ((rd_T93 l (i : Int)).f0 = ((rd_T93 l (p : Int)).f0 + 1) % 4294967296) && (!(rd_T93 l (i : Int)).f3 && !(rd_T93 l (p : Int)).f4)) := by unfold goesOn; rw [hpe]
        obtain ⟨zi, hzi⟩ : ∃ z, z = rd_T93 l (i : Int) := ⟨_, rfl⟩
        obtain ⟨zp, hzp⟩ : ∃ z, z = rd_T93 l (p : Int) := ⟨_, rfl⟩
        rw [← hzi, ← hzp] at hgo
        rw [← hzi] at x0 x3
        rw [← hzp] at y0 y4
        have HGO := hid hgo
        have hq : (i : Int).toNat = i := Int.toNat_natCast i
        have hq2 : (p : Int).toNat = p := Int.toNat_natCast p
        have HK := hid hk
        have HPI := hid hpi
        clear hgo hzi hzp x1 x2 x4 x5 x6 y1 y2 y3 y5 y6 hk hpi hpe
        have hpl : p < l.length := by have := HPI.out; omega
        by_cases g0 : zi.f0 = (zp.f0 + 1) % 4294967296
        rotate_left
        · have g0b : (zi.f0 == (zp.f0 + 1) % 4294967296) = false := by simpa using g0
          have HF := hid (show firstN l = i by rw [HE.out, HRT.out, if_neg (by rw [HGO.out, decide_eq_false g0]; simp)])
          clear HRT HE
          go_wp2
          go_quiet ((go_at_call 18; exact step_quiet _ _ _))
          go_wp2
          go_ret
          exact ⟨by rw [HF.out]; rfl, below_size_drew HB.out nq⟩
        have g0b : (zi.f0 == (zp.f0 + 1) % 4294967296) = true := by simpa using g0
        cases g3 : zi.f3 with
        | true =>
          rw [g3] at x3
          have HF := hid (show firstN l = i by rw [HE.out, HRT.out, if_neg (by rw [HGO.out, g3]; simp)])
          clear HRT HE g0
          go_wp2
          go_quiet ((go_at_call 18; exact step_quiet _ _ _))
          go_wp2
          go_ret
          exact ⟨by rw [HF.out]; rfl, below_size_drew HB.out nq⟩
        | false =>
          rw [g3] at x3
          cases g4 : zp.f4 with
          | true =>
            rw [g4] at y4
            have HF := hid (show firstN l = i by rw [HE.out, HRT.out, if_neg (by rw [HGO.out, g3, g4]; simp)])
            clear HRT HE g0
            go_wp2
            go_quiet ((go_at_call 18; exact step_quiet _ _ _))
            go_wp2
            go_ret
            exact ⟨by rw [HF.out]; rfl, below_size_drew HB.out nq⟩
          | false =>
            rw [g4] at y4
            have HN := hid (show runTo l l.length 1 = runTo l (l.length + 1 - (i + 1)) (i + 1) by
              rw [HRT.out, if_pos ⟨hlt, by rw [HGO.out, g3, g4, decide_eq_true g0]; rfl⟩, show l.length + 1 - (i + 1) = k by have := HK.out; omega])
            clear HRT g0
            go_wp2
            go_quiet ((go_at_call 18; exact step_quiet _ _ _))
            go_wp2
            go_roundw
            case rel => exact ⟨i + 1, by omega, by omega, by go_num, HN, hid (by rw [HWD.out]; exact ⟨_, World.drewN_drewN _ _ _⟩)⟩
            case measure => simp [intOf]; omega
      · obtain rfl : i = l.length := by omega
        have HF := hid (show firstN l = l.length by rw [HE.out, HRT.out, show l.length + 1 - l.length = 0 + 1 by omega, runTo, if_neg (by omega)])
        clear HRT HE
        go_wp2
        go_quiet ((go_at_call 18; exact step_quiet _ _ _))
        go_wp2
        go_ret
        exact ⟨by rw [HF.out]; rfl, below_size_drew HB.out nq⟩
/-! a range over a function whose yielded word is good in the world in which it is yielded -/
open Go.RowKit in
/-- An iterator that yields words of which Pre holds where they are yielded. -/
def SeqPre {α : Type} (F : Fence) (n : Nat) (P : Program) (g : Nat) (lb : Array Value) (encs : α → Array Value) (Pre : List α → α → World → World → Prop) (Kp : World → World → Prop) (S Sp : List α → Prop) (w : World) : Prop :=
  ∀ (l : Nat) (J Jx : List α → World → Prop) (W : World), Below w.heap.size w W → AbidesFrom W.heap.size J → AbidesFrom W.heap.size Jx →
    (∀ pre x W0 W1, J pre W0 → Below W0.heap.size W0 W1 → Pre pre x W0 W1 → YieldAt F (n - 1) P l (encs x) W1 fun e W' => (e = .returned (.bool true) ∧ J (pre ++ [x]) W' ∧ Kp W1 W') ∨ (e = .returned (.bool false) ∧ Jx (pre ++ [x]) W')) →
    J [] W → CallsIn F n P g (#[.func (.yield l) #[] #[]] ++ lb) W fun e W' => (∃ v, e = .returned v) ∧ ((∃ xs, S xs ∧ J xs W') ∨ (∃ pre, Sp pre ∧ Jx pre W'))
theorem range_pre_law {F : Fence} {n : Nat} {P : Program} {α : Type} {g : Operand} {ps : Array Tmp} {assign body : Code} {Q : Exit → Act → World → Prop} {id : Nat} {a : Act} {w : World}
    (hro : F.round = none) (h1 : 1 ≤ n) {gf : Nat} {lb : Array Value} (hg : a.eval g = .func (.func gf) #[] lb) (hFg : F.fn gf) (eg : ∀ args w, (callFunc gf args).run P w = .ok (.enter gf args) w)
    {encs : α → Array Value} {Pre : List α → α → World → World → Prop} {Kp : World → World → Prop} {S Sp : List α → Prop} {w0 : World} (hseq : SeqPre F (n - 1) P gf lb encs Pre Kp S Sp w0)
    (hPre : ∀ pre x W0 W (l : Nat) (o o' : Obj), Pre pre x W0 W → w.heap.size ≤ l → W.heap[l]? = some o → o.isCells = false → Pre pre x W0 (W.putObj l o'))
    (hKt : ∀ {A B C : World}, Kp A B → Kp B C → Kp A C) (hKb : ∀ (W : World) (l : Nat) (o o' : Obj), w.heap.size ≤ l → W.heap[l]? = some o → o.isCells = false → o.isWalk = false → Kp W (W.putObj l o')) (hb0 : Below w0.heap.size w0 w) (hps : ∀ x, (encs x).size = ps.size)
    (I Ib : List α → World → Prop) (hI : OwnFrom w.heap.size I) (hIb : OwnFrom w.heap.size Ib) (h0 : I [] w) (a₁ : α → Act)
    (hassign : ∀ (l : Nat) (x : α) (W : World) (K : Act → World → Prop), K (a₁ x) W →
      assign.wpIn (F.inRound l) (n - 1 - 1) P (Exit.then K (fun _ _ _ => False)) { tmps := (ps.zip (encs x)).foldl (fun t (p, v) => t.setIfInBounds p v) a.tmps, defers := [] } W)
    (hbody : ∀ (l : Nat) (pre : List α) (x : α) (W0 W : World), I pre W0 → W0.grownBy W (some l) → w.heap.size ≤ l → (∃ o : Obj, W0.heap[l]? = some o ∧ o.isCells = false) → Pre pre x W0 W → body.wpIn (F.inRound l) (n - 1 - 1) P (ownPostK Kp I (fun c pre W => c = .exit id ∧ Ib pre W) (pre ++ [x]) W) (a₁ x) W)
    (E : World → Prop) (hd : ∀ xs W, S xs → I xs W → E W) (hs : ∀ xs W, Sp xs → Ib xs W → E W)
    (hend : ∀ (D : Nat) (W : World), w.heap.size ≤ D → E W → W.heap[D]? = some (.deferred (some [])) → Q .normal { a with defers := { target := .collected D, args := #[] } :: a.defers } W) :
    (Code.rangeFunc g ps assign body).wpIn F n P (Exit.inBlock id Q) a w := by
  refine wpIn_rangeFunc fun fn hfn => ?_
  rw [hro]
  obtain ⟨R, hR⟩ : ∃ R : LoopState → Option Code → Loop, R = fun st pe => { state := st, pending := pe, fn, tmps := a.tmps, params := ps, assign, body, defers := w.heap.size } := ⟨_, rfl⟩
  obtain ⟨V, hV⟩ : ∃ V, V = (w.alloc (.deferred (some []))).alloc (.loop (R .ready none)) := ⟨_, rfl⟩
  have vz : V.heap.size = w.heap.size + 2 := by rw [hV]; simp
  have vl : V.heap[w.heap.size + 1]? = some (.loop (R .ready none)) := by
    have := World.alloc_heap_new (w.alloc (.deferred (some []))) (.loop (R .ready none))
    rw [World.size_alloc] at this
    rw [hV]
    exact this
  have vd : V.heap[w.heap.size]? = some (.deferred (some [])) := by
    rw [hV]
    exact (Below.heap_alloc _ _ _ (by simp)).trans (World.alloc_heap_new w _)
  have vb : Below w.heap.size w V := by rw [hV]; exact ((Below.refl _ w).alloc (Nat.le_refl _) _).alloc (by simp) _
  have keep : ∀ {A B : World} {row : Option Nat} {k : Nat} {o : Obj}, A.grownBy B row → (∀ r, row = some r → V.heap.size ≤ r ∧ ∃ o : Obj, A.heap[r]? = some o ∧ o.isWalk = true) → A.heap[k]? = some o → o.isWalk = false → B.heap[k]? = some o :=
    fun hg hr hk hw => (grownBy_keeps hg (fun r e => (hr r e).2) hk hw).trans hk
  have thin : ∀ {A : World} {row : Option Nat}, (∀ r, row = some r → V.heap.size ≤ r ∧ ∃ o : Obj, A.heap[r]? = some o ∧ o.isWalk = true) → (∀ r, row = some r → w.heap.size ≤ r ∧ ∃ o : Obj, A.heap[r]? = some o ∧ o.isCells = false) := fun hr r e => by
    obtain ⟨hB, o, ho, hw⟩ := hr r e
    exact ⟨by omega, o, ho, Obj.not_cells_of_walk hw⟩
  refine ⟨w.heap.size + 1, [{ target := .collected w.heap.size, args := #[] }], V, { target := .fn (.func gf) lb, args := #[.func (.yield (w.heap.size + 1)) #[] #[]] }, V, gf, #[.func (.yield (w.heap.size + 1)) #[] #[]] ++ lb, V, ?_, ?_, ?_, ?_, fun _ => h1, ?_⟩
  · rw [hV, hR]
    exact run_enterLoop_outer _ _ _ _ _
  · simp only [resolve, hg]
    simp [go_sem]
  · intro f' hf'
    simp [Target.leads] at hf'
    subst hf'
    exact hFg
  · simp [invoke, go_sem, eg]
  refine (hseq (w.heap.size + 1) (fun pre W => I pre W ∧ W.heap[w.heap.size + 1]? = some (.loop (R .ready none)) ∧ W.heap[w.heap.size]? = some (.deferred (some [])))
    (fun pre W => Ib pre W ∧ W.heap[w.heap.size + 1]? = some (.loop (R .done (some (.exit id)))) ∧ W.heap[w.heap.size]? = some (.deferred (some []))) V (hb0.trans (vb.mono hb0.size))
    (fun s A B row h hg hr => ⟨hI s A B row h.1 hg (thin hr), keep hg hr h.2.1 rfl, keep hg hr h.2.2 rfl⟩)
    (fun s A B row h hg hr => ⟨hIb s A B row h.1 hg (thin hr), keep hg hr h.2.1 rfl, keep hg hr h.2.2 rfl⟩)
    ?_ ⟨by rw [hV]; exact hI.alloc _ (hI.alloc _ h0), vl, vd⟩).mono ?_
  · rintro pre x V0 W ⟨hi, hl0, hk0⟩ hbW hpx
    have hl : W.heap[w.heap.size + 1]? = some (.loop (R .ready none)) := (hbW.block _ (Array.getElem?_eq_some_iff.1 hl0).1).trans hl0
    have hk : W.heap[w.heap.size]? = some (.deferred (some [])) := (hbW.block _ (Array.getElem?_eq_some_iff.1 hk0).1).trans hk0
    have hlt : w.heap.size + 1 < W.heap.size := (Array.getElem?_eq_some_iff.1 hl).1
    have hy := run_yield (P := P) (args := encs x) hl (by rw [hR]; exact hps x)
    rw [hR] at hy
    refine ⟨fn, _, assign, body, hy, roundIn_of_wpIn hfn (hassign _ x W _ ⟨_, run_beginRound hl (by rw [hR]), ?_⟩)⟩
    obtain ⟨W2, hW2⟩ : ∃ W2, W2 = W.putObj (w.heap.size + 1) (.loop { R .ready none with state := .busy }) := ⟨_, rfl⟩
    rw [← hW2]
    have hl2 : W2.heap[w.heap.size + 1]? = some (.loop { R .ready none with state := .busy }) := by rw [hW2]; exact World.putObj_heap_same hlt
    have hk2 : W2.heap[w.heap.size]? = some (.deferred (some [])) := by rw [hW2]; exact (World.putObj_heap_other (by omega)).trans hk
    have hg2 : V0.grownBy W2 (some (w.heap.size + 1)) := by
      rw [hW2]
      have hg := grownBy_putObj' W (w.heap.size + 1) (.loop { R .ready none with state := .busy })
      exact ⟨hg.os.trans hbW.os, hg.tape.trans hbW.tape, hg.output.trans hbW.output, Nat.le_trans hbW.size hg.size, fun k h1 h2 => (hg.block k (Nat.lt_of_lt_of_le h1 hbW.size) h2).trans (hbW.block k h1)⟩
    have hp2 : Pre pre x V0 W2 := by rw [hW2]; exact hPre _ _ _ _ _ _ _ hpx (by omega) hl rfl
    have hw2 : Kp W W2 := by rw [hW2]; exact hKb _ _ _ _ (by omega) hl rfl rfl
    have fin : ∀ (jump : Option Code) (W3 : World), KeepsOthers W2 W3 →
        (Instr.endRound (w.heap.size + 1) jump).run P W3 = .ok (.bool jump.isNone) (W3.putObj (w.heap.size + 1) (.loop (R (if jump.isNone then .ready else .done) jump))) ∧
        W3.heap[w.heap.size + 1]? = some (.loop { R .ready none with state := .busy }) ∧
        (W3.putObj (w.heap.size + 1) (.loop (R (if jump.isNone then .ready else .done) jump))).heap[w.heap.size + 1]? = some (.loop (R (if jump.isNone then .ready else .done) jump)) ∧
        (W3.putObj (w.heap.size + 1) (.loop (R (if jump.isNone then .ready else .done) jump))).heap[w.heap.size]? = some (.deferred (some [])) := by
      intro jump W3 hk3
      have hl3 := hk3.same _ _ hl2 rfl
      have hr := run_endRound (P := P) jump hl3
      rw [hR] at hr hl3 ⊢
      exact ⟨hr, hl3, World.putObj_heap_same (Array.getElem?_eq_some_iff.1 hl3).1, (World.putObj_heap_other (by omega)).trans (hk3.same _ _ hk2 rfl)⟩
    refine wpIn_mono (hbody _ pre x V0 W2 hi hg2 (by omega) ⟨_, hl0, rfl⟩ hp2) ?_
    intro e a3 W3 hp
    cases e with
    | normal =>
      obtain ⟨hr, hl3, hl4, hk4⟩ := fin none W3 hp.1
      exact ⟨_, _, hr, .inl ⟨rfl, ⟨hI.putObj _ hp.2.2 (by omega) hl3 rfl, hl4, hk4⟩, hKt (hKt hw2 hp.2.1) (hKb _ _ _ _ (by omega) hl3 rfl rfl)⟩⟩
    | ret => exact absurd hp.2.1 (by intro h; cases h)
    | exit k =>
      obtain ⟨ho, hc, hib⟩ := hp
      cases hc
      obtain ⟨hr, hl3, hl4, hk4⟩ := fin (some (.exit id)) W3 ho
      exact ⟨_, _, hr, .inr ⟨rfl, hIb.putObj _ hib (by omega) hl3 rfl, hl4, hk4⟩⟩
    | goto t => exact absurd hp.2.1 (by intro h; cases h)
    | panic ch => exact hp.elim
    | outgrown => exact hp.elim
  · rintro e W2 ⟨⟨v, rfl⟩, (⟨xs, hS, hi, hl, hk⟩ | ⟨pre, hSp, hi, hl, hk⟩)⟩
    · have hr := run_endLoop (P := P) hl (by rw [hR]; simp)
      rw [hR] at hr
      exact ⟨none, _, hr, hend _ _ (Nat.le_refl _) (hd _ _ hS (hI.putObj _ hi (by omega) hl rfl)) ((World.putObj_heap_other (by omega)).trans hk)⟩
    · have hr := run_endLoop (P := P) hl (by rw [hR]; simp)
      rw [hR] at hr
      refine ⟨some (.exit id), _, hr, wpIn_exit ?_⟩
      show (if id = id then _ else _)
      rw [if_pos rfl]
      exact hend _ _ (Nat.le_refl _) (hs _ _ hSp (hIb.putObj _ hi (by omega) hl rfl)) ((World.putObj_heap_other (by omega)).trans hk)
/-! the groups of a list -/
theorem runTo_ge (l : List S93) : ∀ k i, i ≤ runTo l k i
  | 0, i => Nat.le_refl _
  | k + 1, i => by
    unfold runTo
    split
    · exact Nat.le_trans (Nat.le_succ i) (runTo_ge l k (i + 1))
    · exact Nat.le_refl _
theorem runTo_le (l : List S93) : ∀ k i, i ≤ l.length → runTo l k i ≤ l.length
  | 0, i, h => h
  | k + 1, i, h => by
    unfold runTo
    split
    · rename_i hc
      exact runTo_le l k (i + 1) (by omega)
    · exact h
theorem firstN_pos (l : List S93) (h : 0 < l.length) : 1 ≤ firstN l ∧ firstN l ≤ l.length := by
  unfold firstN
  rw [if_neg (by omega)]
  exact ⟨runTo_ge l _ 1, runTo_le l _ 1 (by omega)⟩
def grp : Nat → List S93 → List (List S93)
  | 0, _ => []
  | k + 1, l => if l.length = 0 then [] else l.take (firstN l) :: grp k (l.drop (firstN l))
theorem grp_more : ∀ (k : Nat) (l : List S93), l.length ≤ k → grp (k + 1) l = grp k l
  | 0, l, h => by
    unfold grp
    rw [if_pos (by omega)]
  | k + 1, l, h => by
    rw [grp]
    conv => rhs; rw [grp]
    by_cases h0 : l.length = 0
    · rw [if_pos h0, if_pos h0]
    · rw [if_neg h0, if_neg h0]
      have := firstN_pos l (by omega)
      rw [grp_more k (l.drop (firstN l)) (by rw [List.length_drop]; omega)]
theorem grp_eq (k : Nat) (l : List S93) (h : l.length ≤ k) : grp k l = grp l.length l := by
  induction k with
  | zero => rw [show l.length = 0 by omega]
  | succ k ih =>
    rcases Nat.lt_or_ge k l.length with h1 | h1
    · rw [show l.length = k + 1 by omega]
    · rw [grp_more k l h1, ih h1]
def groupsL (l : List S93) : List (List S93) := grp l.length l
theorem groupsL_nil (l : List S93) (h : l.length = 0) : groupsL l = [] := by unfold groupsL; rw [h]; rfl
theorem groupsL_cons (l : List S93) (h : 0 < l.length) : groupsL l = l.take (firstN l) :: groupsL (l.drop (firstN l)) := by
  unfold groupsL
  obtain ⟨k, hk⟩ : ∃ k, l.length = k + 1 := ⟨l.length - 1, by omega⟩
  rw [hk, grp, if_neg (by omega)]
  have := firstN_pos l h
  rw [grp_eq k _ (by rw [List.length_drop]; omega)]
theorem groupsL_flat (l : List S93) : (groupsL l).flatten = l := by
  obtain ⟨n, hn⟩ : ∃ n, l.length ≤ n := ⟨_, Nat.le_refl _⟩
  induction n generalizing l with
  | zero =>
    have : l = [] := List.eq_nil_of_length_eq_zero (by omega)
    subst this
    rfl
  | succ n ih =>
    rcases Nat.eq_zero_or_pos l.length with h | h
    · have : l = [] := List.eq_nil_of_length_eq_zero h
      subst this
      rfl
    · have := firstN_pos l h
      rw [groupsL_cons l h, List.flatten_cons, ih _ (by rw [List.length_drop]; omega), List.take_append_drop]
/-- Rows of pieces, cut. -/
theorem C_cut93 {w : World} {ad : Addr} {l : List S93} (h : Kd.C k93 w (some ad) l.length l) (i m : Nat) : Kd.C k93 w (some (ad.add (i * 7))) ((l.drop i).take m).length ((l.drop i).take m) := by
  have hl : ((l.drop i).take m).length ≤ l.length := by simp; omega
  refine ⟨rfl, by have := h.2.1; omega, fun h0 => ⟨_, rfl, fun j p hj => ?_⟩⟩
  have hj2 : j < m ∧ i + j < l.length := by
    have := (List.getElem?_eq_some_iff.1 hj).1
    simp at this
    omega
  have hp : l[i + j]? = some p := by
    rw [List.getElem?_take_of_lt hj2.1, List.getElem?_drop] at hj
    exact hj
  obtain ⟨ad', e, hc⟩ := h.2.2 (by omega)
  cases e
  obtain ⟨cs, hlen, hK, hcell⟩ := hc (i + j) p hp
  refine ⟨cs, hlen, hK, fun q u hu => ?_⟩
  rw [Go.Deep.add_add, show i * 7 + (j * k93.sz + q) = (i + j) * k93.sz + q by show i * 7 + (j * 7 + q) = (i + j) * 7 + q; omega]
  exact hcell q u hu
/-- What lies from lo on below n₀ lies as it lay. -/
structure KeepR (lo n₀ : Nat) (W W' : World) : Prop where
  size : W.heap.size ≤ W'.heap.size
  block : ∀ b, lo ≤ b → b < n₀ → W'.heap[b]? = W.heap[b]?
theorem KeepR.refl (lo n₀ : Nat) (W : World) : KeepR lo n₀ W W := ⟨Nat.le_refl _, fun _ _ _ => rfl⟩
theorem KeepR.trans {lo n₀ : Nat} {A B C : World} (h : KeepR lo n₀ A B) (k : KeepR lo n₀ B C) : KeepR lo n₀ A C := ⟨Nat.le_trans h.size k.size, fun b h1 h2 => (k.block b h1 h2).trans (h.block b h1 h2)⟩
theorem KeepR.of_below {lo n₀ : Nat} {W W' : World} (h : Below n₀ W W') : KeepR lo n₀ W W' := ⟨h.size, fun b _ h2 => h.block b h2⟩
theorem KeepR.cell {lo n₀ : Nat} {W W' : World} (h : KeepR lo n₀ W W') {p : Addr} (h1 : lo ≤ p.block) (h2 : p.block < n₀) : W'.cell? p = W.cell? p := World.cell?_of_block (w := W) (h.block p.block h1 h2)
/-- A group, as it is yielded. -/
def Yielded (l : List S93) (pre : List (Value × List S93)) (x : Value × List S93) (W0 W : World) : Prop :=
  Kd.R k93 93 W W0.heap.size (fun _ => True) x.1 x.2 ∧ pre.map (·.2) ++ [x.2] <+: groupsL l
theorem copiedb_l0 (l : List S93) (hl : l.length ≤ 100000) (hs : ∀ p ∈ l, p.f6.length ≤ 140737488355328) : ∀ (k i : Nat), i ≤ l.length → l.length - i < k → Big.frag_copied.l0 k (l.take i) l (l.length : Int) (i : Int) = some l := by
  intro k
  induction k with
  | zero => intro i _ h; omega
  | succ k ih =>
    intro i hi hk
    rw [Big.frag_copied.l0]
    by_cases h : i < l.length
    · have h2 := hs l[i] (List.getElem_mem h)
      have h3 : (l.take i).length < 3518437208883 := by rw [List.length_take]; omega
      rw [if_pos (by omega), if_pos (by omega), if_pos (by omega), FG.rd_nat93 l i h]
      unfold Big.slices_Clone_byte_byte.f
      rw [if_pos h2, Option.bind_some, if_pos h3, FG.wrap_small i (by omega), ← List.take_succ_eq_append_getElem h]
      exact ih (i + 1) (by omega) (by omega)
    · rw [if_neg (by omega), List.take_of_length_le (by omega)]
theorem copiedb_eq (k : Nat) (l : List S93) (hl : l.length ≤ 100000) (hs : ∀ p ∈ l, p.f6.length ≤ 140737488355328) (hk : l.length < k) : Big.frag_copied.f k l = some l := by
  have := copiedb_l0 l hl hs k 0 (Nat.zero_le _) (by omega)
  simpa [Big.frag_copied.f] using this
theorem first_at (A : Option Addr) (n c : Nat) (l : List S93) (h : l.length = n) (w : World) (hr : Kd.C k93 w A n l) (hl : n ≤ 10000) :
    Calls Try.prog 81 #[.slice A n c] w fun e w' => e = .returned (.int .i64 (firstN l)) ∧ Below w.heap.size w w' := by
  subst h
  exact first_calls A c l w hr hl
theorem copied_at (A : Option Addr) (n c : Nat) (l : List S93) (h : l.length = n) (w : World) (hr : Kd.C k93 w A n l) (hc : n ≤ c) (hl : n ≤ 10000) (hts : ∀ p ∈ l, p.f6.length ≤ 140737488355328) :
    Calls Try.prog 79 #[.slice A n c] w fun e w' => ∃ v, e = .returned v ∧ Kd.R k93 93 w' w.heap.size (fun _ => True) v l ∧ Below w.heap.size w w' := by
  subst h
  exact (Big.frag_copied.calls 10001 A c l l w hr hc (copiedb_eq 10001 l (by omega) hts (by omega))).mono fun e w' ⟨v, he, hs, hb⟩ => ⟨v, he, Kd.S_R hs, hb⟩
theorem below_grown0 {w w' : World} (h : Below w.heap.size w w') : w.grownBy w' none := ⟨h.os, h.tape, h.output, h.size, fun k hk _ => h.block k hk⟩
def lenOf : Value → Nat
  | .slice _ n _ => n
  | _ => 0
open It (FW) in
set_option maxRecDepth 100000 in
set_option maxHeartbeats 4000000 in
theorem groups1 (m : Nat) (hm : 1 ≤ m) (y bo lo n₀ : Nat) (A : Option Addr) (l : List S93) (c : Nat) (hlen : l.length ≤ 10000) (hts : ∀ p ∈ l, p.f6.length ≤ 140737488355328) (hbo : lo ≤ bo) (hbo' : bo < n₀) (J Jx : List (Value × List S93) → World → Prop)
    (W : World) (hn : n₀ ≤ W.heap.size)
    (hY : ∀ pre x W0 W, J pre W0 → Below W0.heap.size W0 W → Yielded l pre x W0 W → YieldAt FW (m - 1) Try.prog y #[x.1] W fun e W' =>
      (e = .returned (.bool true) ∧ J (pre ++ [x]) W' ∧ KeepR lo n₀ W W') ∨ (e = .returned (.bool false) ∧ Jx (pre ++ [x]) W'))
    (hJ : AbidesFrom W.heap.size J) (hcs : W.cell? ⟨bo, 0, none⟩ = some (.slice A l.length c)) (hc : l.length ≤ c)
    (hC : ∀ W', KeepR lo n₀ W W' → Kd.C k93 W' A l.length l) (h0 : J [] W) :
    CallsIn FW m Try.prog 80 #[.func (.yield y) #[] #[], .pointer (some ⟨bo, 0, none⟩)] W fun e W' => (∃ v, e = .returned v) ∧
      ((∃ ys, ys.map (·.2) = groupsL l ∧ J ys W') ∨ (∃ pre, pre.map (·.2) <+: groupsL l ∧ Jx pre W')) := by
  have hu93 := Try.underlying93
  have f72 : FW.fn 79 := trivial
  have f74 : FW.fn 81 := trivial
  refine callsIn_of_wp Try.func80 rfl trivial ?_ rfl
  simp only [Try.ntmps80, List.size_toArray, List.length_cons, List.length_nil, Nat.reduceAdd, Nat.reduceSub, Array.replicate_succ, Array.replicate_zero, List.push_toArray, List.append_toArray, List.nil_append, List.cons_append]
  have HJ := hid hJ
  have HC := hid hC
  have HT := hid hts
  have HY := hid hY
  clear hJ hC hts hY
  rcases Nat.eq_zero_or_pos l.length with hz | hz
  · obtain rfl : l = [] := List.eq_nil_of_length_eq_zero hz
    clear hz
    gi_wp2
    gi_loopw [3] (fun i wr => i = .slice A 0 c ∧ J [] wr) (fun _ _ => 0)
    case atStart => exact ⟨rfl, h0⟩
    case round =>
      obtain ⟨rfl, hJs⟩ := hrel
      gi_wp2
      go_end0
      exact ⟨⟨_, rfl⟩, .inl ⟨[], rfl, hJs⟩⟩
  · obtain ⟨ad, rfl⟩ : ∃ ad, A = some ad := by
      obtain ⟨ad, e, _⟩ := (HC.out W (KeepR.refl _ _ _)).2.2 hz
      exact ⟨ad, e⟩
    have HZ := hid hz
    clear hz
    gi_wp2
    gi_loopw [3] (fun v wr => ∃ (A' : Option Addr) (d r cc : Nat) (pre : List (Value × List S93)), d + r = l.length ∧ r ≤ cc ∧ v = .slice A' r cc ∧ Hid (0 < r → A' = some (ad.add (d * 7))) ∧ J pre wr ∧ Hid (pre.map (·.2) ++ groupsL (l.drop d) = groupsL l) ∧ Hid (KeepR lo n₀ W wr)) (fun v _ => lenOf v)
    case atStart => exact ⟨some ad, 0, l.length, c, [], by omega, hc, rfl, hid (fun _ => by simp [Addr.add]), h0, hid (by simp), hid (KeepR.refl _ _ _)⟩
    case round =>
      obtain ⟨A', d, r, cc, pre, hdr, hrc, rfl, HA, hJs, HG, HK⟩ := hrel
      rcases Nat.eq_zero_or_pos r with hr0 | hr0
      · subst hr0
        have HE := hid hdr
        gi_wp2
        go_end0
        exact ⟨⟨_, rfl⟩, .inl ⟨pre, by have := HG.out; rw [groupsL_nil (l.drop d) (by rw [List.length_drop]; have := HE.out; omega), List.append_nil] at this; exact this, hJs⟩⟩
      · obtain rfl := HA.out hr0
        clear HA
        obtain ⟨q, hq⟩ : ∃ q, firstN (l.drop d) = q := ⟨_, rfl⟩
        have hql : 1 ≤ q ∧ q ≤ r := by
          have := firstN_pos (l.drop d) (by rw [List.length_drop]; omega)
          rw [List.length_drop, hq] at this
          omega
        have hq1 := hql.1
        have hq2 := hql.2
        have HQ := hid hq
        have hCd : ∀ W', KeepR lo n₀ W W' → Kd.C k93 W' (some (ad.add (d * 7))) r (l.drop d) := by
          intro W' h
          have := C_cut93 (HC.out W' h) d r
          rwa [List.take_of_length_le (by rw [List.length_drop]; omega), show (l.drop d).length = r by rw [List.length_drop]; omega] at this
        have hCq : ∀ W', KeepR lo n₀ W W' → Kd.C k93 W' (some (ad.add (d * 7))) q ((l.drop d).take q) := by
          intro W' h
          have := C_cut93 (HC.out W' h) d q
          rwa [show ((l.drop d).take q).length = q by rw [List.length_take, List.length_drop]; omega] at this
        have HCd := hid hCd
        have HCq := hid hCq
        clear hql hq hCd hCq
        gi_wp2_with (gi_at_call 81; refine (callsIn_wide.2 (first_at _ _ _ (l.drop d) (by rw [List.length_drop]; omega) _ (HCd.out _ HK.out) (by omega))).mono ?_; rintro e w1 ⟨rfl, hb⟩; rw [HQ.out]; have HB1 := hid hb; clear hb)
        have HK1 := hid (HK.out.trans (KeepR.of_below (HB1.out.mono (Nat.le_trans hn HK.out.size))))
        have HJ1 := hid (HJ.out _ _ _ none hJs (below_grown0 HB1.out) (fun r e => by cases e))
        clear hJs
        refine (callsIn_wide.2 (copied_at _ _ _ ((l.drop d).take q) (by rw [List.length_take, List.length_drop]; omega) _ (HCq.out _ HK1.out) (by omega) (by omega) (fun p hp => HT.out p (List.mem_of_mem_drop (List.mem_of_mem_take hp))))).mono ?_
        rintro e w2 ⟨v, rfl, hR, hb2⟩
        have HK2 := HK1.out.trans (KeepR.of_below (hb2.mono (Nat.le_trans hn HK1.out.size)))
        have hgr : groupsL l = (pre ++ [(v, (l.drop d).take q)]).map (·.2) ++ groupsL (l.drop (d + q)) := by
          have := HG.out
          rw [groupsL_cons (l.drop d) (by rw [List.length_drop]; omega), HQ.out, List.drop_drop] at this
          rw [← this]
          simp
        obtain ⟨fn, tmps, assign, body, hy, hB⟩ := HY.out pre (v, (l.drop d).take q) w1 w2 HJ1.out hb2 ⟨hR, by rw [hgr]; simp⟩
        dsimp only at hy
        have HBB := hid hB
        have HGR := hid hgr
        have HK3 := hid HK2
        have hsz : w1.heap.size ≤ w2.heap.size := hb2.size
        clear hB hgr HK2 hR hb2 HB1 HK HJ1 HK1 HG hsz
        gi_wp2
        refine HBB.out.mono ?_
        rintro e W5 (⟨rfl, hJ5, hk5⟩ | ⟨rfl, hJx5⟩)
        · have HK5 := hid (HK3.out.trans hk5)
          have hqcc : q ≤ cc := by omega
          clear hk5
          gi_wp2
          go_roundw
          case rel => exact ⟨_, d + q, r - q, cc - q, _, by omega, by omega, rfl, hid (fun h => by rw [if_neg (by omega), Go.Deep.add_add, Nat.add_mul]), hJ5, hid HGR.out.symm, HK5⟩
          case measure => simp [lenOf]; omega
        · gi_wp2
          refine bodyPost_ret (results_none rfl _ _ _) rfl ?_
          exact ⟨⟨_, rfl⟩, .inr ⟨_, by rw [HGR.out]; exact List.prefix_append _ _, hJx5⟩⟩
/-- A row read where its blocks stand. -/
theorem C_keepR {W W' : World} {lo : Nat} {v : Value} {xs : List S93} (h : Kd.R k93 93 W lo (fun _ => True) v xs) (hk : KeepR lo W.heap.size W W') : Kd.R k93 93 W' lo (fun _ => True) v xs :=
  Kd.R_mono (Kd.R_step (Kd.R_bound h) fun k hk' hlt => hk.block k hk'.2.1 hlt) (fun _ _ => trivial)
set_option maxRecDepth 100000 in
theorem groups_calls (A : Option Addr) (n c : Nat) (l : List S93) (h : l.length = n) (w : World) (hr : Kd.C k93 w A n l) (hc : n ≤ c) (hl : n ≤ 10000) (hts : ∀ p ∈ l, p.f6.length ≤ 140737488355328) :
    Calls Try.prog 52 #[.slice A n c] w fun e w' => ∃ bo A' c', e = .returned (.func (.func 80) #[] #[.pointer (some ⟨bo, 0, none⟩)]) ∧ w.heap.size ≤ bo ∧ bo < w'.heap.size ∧ w'.cell? ⟨bo, 0, none⟩ = some (.slice A' l.length c') ∧ l.length ≤ c' ∧
      (∀ W', KeepR w.heap.size w'.heap.size w' W' → Kd.C k93 W' A' l.length l) ∧ Below w.heap.size w w' := by
  go_enter Try.func52, Try.ntmps52
  go_wp2_with (go_at_call 79; refine (copied_at _ _ _ l h _ hr hc hl hts).mono ?_; rintro e w1 ⟨v, rfl, hR, hb⟩; obtain ⟨A', c', rfl, hc', _⟩ := Kd.R_reads hR; have HR := hid hR; have HB := hid hb; clear hR hb)
  go_ret
  have hw : w.heap.size ≤ w1.heap.size := HB.out.size
  refine ⟨_, A', c', rfl, hw, by simp, by rw [h, cell_new1 _ _ _ _ rfl]; rfl, hc', fun W' hk => ?_, HB.out.trans ((Below.refl _ _).alloc hw _)⟩
  exact (Kd.R_reads' (C_keepR HR.out ⟨by have := hk.size; simp at this; omega, fun b h1 h2 => (hk.block b h1 (by simp; omega)).trans (Below.heap_alloc _ _ _ h2)⟩)).2.2
open It (FW) in
theorem seq73 (m : Nat) (hm : 1 ≤ m) (bo lo : Nat) (A : Option Addr) (l : List S93) (c : Nat) (hlen : l.length ≤ 10000) (hts : ∀ p ∈ l, p.f6.length ≤ 140737488355328) (w : World) (hbo : lo ≤ bo) (hbo' : bo < w.heap.size)
    (hcs : w.cell? ⟨bo, 0, none⟩ = some (.slice A l.length c)) (hc : l.length ≤ c) (hC : ∀ W', KeepR lo w.heap.size w W' → Kd.C k93 W' A l.length l) :
    SeqPre FW m Try.prog 80 #[.pointer (some ⟨bo, 0, none⟩)] (fun x : Value × List S93 => #[x.1]) (Yielded l) (KeepR lo w.heap.size) (fun xs => xs.map (·.2) = groupsL l) (fun pre => pre.map (·.2) <+: groupsL l) w := fun y J Jx W hW hJ _ hY h0 =>
  groups1 m hm y bo lo w.heap.size A l c hlen hts hbo hbo' J Jx W hW.size hY hJ ((hW.cell (p := ⟨bo, 0, none⟩) hbo').trans hcs) hc (fun W' hk => hC W' ((KeepR.of_below hW).trans hk)) h0
theorem yielded_put {l : List S93} {B : Nat} (pre : List (Value × List S93)) (x : Value × List S93) (W0 W : World) (k : Nat) (o o' : Obj) (h : Yielded l pre x W0 W) (_ : B ≤ k) (ho : W.heap[k]? = some o) (hc : o.isCells = false) : Yielded l pre x W0 (W.putObj k o') :=
  ⟨R_other h.1 (grownBy_putObj' W k o') (fun j e => by cases e; exact ⟨o, ho, hc⟩), h.2⟩
theorem keepR_b {lo n₀ : Nat} {w : World} (hn : n₀ ≤ w.heap.size) (W : World) (l : Nat) (o o' : Obj) (hl : w.heap.size ≤ l) (h : W.heap[l]? = some o) (_ : o.isCells = false) (_ : o.isWalk = false) : KeepR lo n₀ W (W.putObj l o') :=
  KeepR.of_below ((Below.refl n₀ W).grown (grownBy_putObj' W l o') (by have := (Array.getElem?_eq_some_iff.1 h).1; omega) (fun k e => by cases e; omega))
/-- Several elements more. -/
theorem R_appended_rows {α : Type} {d : Kd α} {e base : Nat} {ok okp : Nat → Prop} {W w1 : World} {v v1 : Value} {xs ys : List α} {inner cs : List Value} (h0 : ∀ k, v.ownBlock = some k → ok k) (hr : Reps (d.M W base (fun k => ok k ∧ some k ≠ v.ownBlock)) d.sz xs inner) (hp : Reps (d.M W base okp) d.sz ys cs) (hokp : ∀ k, okp k → k < W.heap.size → ok k ∧ some k ≠ v.ownBlock) (hfresh : ∀ k, W.heap.size ≤ k → ok k)
    (hown : w1.ownsRow base e d.sz v1 (xs.length + ys.length) (inner ++ cs)) (hg : W.grownBy w1 v.ownBlock) (hat : v1.ownBlock = v.ownBlock ∨ ∃ b, v1.ownBlock = some b ∧ W.heap.size ≤ b) : d.R e w1 base ok v1 (xs ++ ys) := by
  have hne : ∀ k, some k ≠ v.ownBlock → k < W.heap.size → some k ≠ v1.ownBlock := by
    intro k hk hlt
    rcases hat with hat | ⟨b, hb, hle⟩
    · rw [hat]; exact hk
    · rw [hb]
      intro he
      injection he with he
      omega
  have step : ∀ {q : α} {c : List Value} {o : Nat → Prop}, d.M W base o q c → (∀ k, o k → k < W.heap.size → ok k ∧ some k ≠ v.ownBlock) → d.M w1 base (fun k => ok k ∧ some k ≠ v1.ownBlock) q c := by
    intro q c o hq ho
    have h1 := d.M_move (w1 := w1) (fun k hk => hg.block k hk.2.2.1 (ho k hk.1 hk.2.2.1).2) (d.M_bound hq)
    exact d.M_mono (fun k hk => ⟨(ho k hk.1 hk.2.2.1).1, hne k (ho k hk.1 hk.2.2.1).2 hk.2.2.1⟩) h1
  refine ⟨fun k hk => ?_, inner ++ cs, by rw [List.length_append]; exact hown, ?_⟩
  · rcases hat with hat | ⟨b, hb, hle⟩
    · exact h0 k (hat ▸ hk)
    · rw [hb] at hk
      injection hk with hk
      exact hfresh k (by omega)
  · exact Kd.reps_append (hr.imp_ (fun _ _ hq => step hq (fun _ hk _ => hk))) (hp.imp_ (fun _ _ hq => step hq hokp))
end Go.Proofs.Ytnlhlffciigcnaa.QFrag
