/- SerialLeft by its walk, over this seat's translation: the part behind the frame. -/
import Derived.Test.YtnlhlffciigcnaaIters
import Derived.RegionTactic
import Derived.Deep.RegionHeld3
import Derived.ChangeAlike
import Derived.RangeFuncFrom
import Derived.WalkLawsBesides
namespace Go.Proofs.Ytnlhlffciigcnaa.Left
open Go.ChangeShapes Go.WideShapes Go.ChangeAt Go.RowKit Go.Shelf Base It
attribute [local go_sem] Oper.semAt_some
theorem ownFrom_grown {β : Type} (W0 : World) (cnt B : Nat) (hB : W0.heap.size ≤ B) : OwnFrom B (fun (_ : β) W => W0.grownBy W (some cnt)) := by
  intro _ W W' row hs hg hr
  refine ⟨hg.os.trans hs.os, hg.tape.trans hs.tape, hg.output.trans hs.output, Nat.le_trans hs.size hg.size, fun k hk hne => ?_⟩
  rw [hg.block k (Nat.lt_of_lt_of_le hk hs.size) (fun e => by have := (hr k e.symm).1; omega)]
  exact hs.block k hk hne
theorem grown_set {W0 W : World} {cnt : Nat} (h : W0.grownBy W (some cnt)) (v : Value) : W0.grownBy (W.setCell ⟨cnt, 0, none⟩ v) (some cnt) := h.trans (grownBy_setCell' W cnt v)
theorem grown_below {W0 W : World} {cnt B : Nat} (h : W0.grownBy W (some cnt)) (h1 : B ≤ cnt) (h2 : B ≤ W0.heap.size) : Below B W0 W := (Below.refl B W0).grown h h2 (fun k e => by cases e; exact h1)
/-- A range over a function of which the body may break out: both ways out lead on. -/
theorem wpIn_rangeFunc_brk {F : Fence} {n : Nat} {P : Program} {α : Type} {g : Operand} {ps : Array Tmp} {assign body : Code} {Q : Exit → Act → World → Prop} {id : Nat} {a : Act} {w : World}
    (hro : F.round = none) (h1 : 1 ≤ n) {gf : Nat} {lb : Array Value} (hg : a.eval g = .func (.func gf) #[] lb) (hFg : F.fn gf) (eg : ∀ args w, (callFunc gf args).run P w = .ok (.enter gf args) w)
    {encs : α → Array Value} {Kp : World → World → Prop} {S Sp : List α → Prop} {N : Nat} {w0 : World} (hseq : SeqStopsK F (n - 1) P gf lb encs Kp S Sp N w0)
    (hKt : ∀ {A B C : World}, Kp A B → Kp B C → Kp A C) (hKb : ∀ (W : World) (l : Nat) (o o' : Obj), w.heap.size ≤ l → W.heap[l]? = some o → o.isCells = false → o.isWalk = false → Kp W (W.putObj l o')) (hb0 : Below w0.heap.size w0 w) (hps : ∀ x, (encs x).size = ps.size)
    (I Ib : List α → World → Prop) (hI : OwnFrom w.heap.size I) (hIb : OwnFrom w.heap.size Ib) (h0 : I [] w) (a₁ : α → Act)
    (hassign : ∀ (l : Nat) (x : α) (W : World) (K : Act → World → Prop), K (a₁ x) W →
      assign.wpIn (F.inRound l) (n - 1 - 1) P (Exit.then K (fun _ _ _ => False)) { tmps := (ps.zip (encs x)).foldl (fun t (p, v) => t.setIfInBounds p v) a.tmps, defers := [] } W)
    (hbody : ∀ (l : Nat) (pre : List α) (x : α) (W : World), I pre W → pre.length < N → body.wpIn (F.inRound l) (n - 1 - 1) P (ownPostK Kp I (fun c pre W => c = .exit id ∧ Ib pre W) (pre ++ [x]) W) (a₁ x) W)
    (E : World → Prop) (hd : ∀ xs W, S xs → I xs W → E W) (hs : ∀ xs W, Sp xs → Ib xs W → E W)
    (hend : ∀ (D : Nat) (W : World), w.heap.size ≤ D → E W → W.heap[D]? = some (.deferred (some [])) → Q .normal { a with defers := { target := .collected D, args := #[] } :: a.defers } W) :
    (Code.rangeFunc g ps assign body).wpIn F n P (Exit.inBlock id Q) a w := by
  refine wpIn_rangeFunc_ownF hro h1 hg hFg eg hseq hKt hKb hb0 hps I (fun c pre W => c = .exit id ∧ Ib pre W) hI (fun c s W W' row hs hg hr => ⟨hs.1, hIb s W W' row hs.2 hg hr⟩) h0 a₁ hassign hbody ?_ ?_
  · intro D xs W hD hS hI' hK
    exact hend D W hD (hd xs W hS hI') hK
  · rintro D c pre W hD hSp ⟨rfl, hb⟩ hK
    refine wpIn_exit ?_
    show (if id = id then _ else _)
    rw [if_pos rfl]
    exact hend D W hD (hs pre W hSp hb) hK
theorem wpIn_rangeFunc_brk0 {F : Fence} {n : Nat} {P : Program} {α : Type} {g : Operand} {ps : Array Tmp} {body : Code} {Q : Exit → Act → World → Prop} {id : Nat} {a : Act} {w : World}
    (hro : F.round = none) (h1 : 1 ≤ n) {gf : Nat} {lb : Array Value} (hg : a.eval g = .func (.func gf) #[] lb) (hFg : F.fn gf) (eg : ∀ args w, (callFunc gf args).run P w = .ok (.enter gf args) w)
    {encs : α → Array Value} {Kp : World → World → Prop} {S Sp : List α → Prop} {N : Nat} {w0 : World} (hseq : SeqStopsK F (n - 1) P gf lb encs Kp S Sp N w0)
    (hKt : ∀ {A B C : World}, Kp A B → Kp B C → Kp A C) (hKb : ∀ (W : World) (l : Nat) (o o' : Obj), w.heap.size ≤ l → W.heap[l]? = some o → o.isCells = false → o.isWalk = false → Kp W (W.putObj l o')) (hb0 : Below w0.heap.size w0 w) (hps : ∀ x, (encs x).size = ps.size)
    (I Ib : List α → World → Prop) (hI : OwnFrom w.heap.size I) (hIb : OwnFrom w.heap.size Ib) (h0 : I [] w)
    (hbody : ∀ (l : Nat) (pre : List α) (x : α) (W : World), I pre W → pre.length < N → body.wpIn (F.inRound l) (n - 1 - 1) P (ownPostK Kp I (fun c pre W => c = .exit id ∧ Ib pre W) (pre ++ [x]) W) { tmps := (ps.zip (encs x)).foldl (fun t (p, v) => t.setIfInBounds p v) a.tmps, defers := [] } W)
    (E : World → Prop) (hd : ∀ xs W, S xs → I xs W → E W) (hs : ∀ xs W, Sp xs → Ib xs W → E W)
    (hend : ∀ (D : Nat) (W : World), w.heap.size ≤ D → E W → W.heap[D]? = some (.deferred (some [])) → Q .normal { a with defers := { target := .collected D, args := #[] } :: a.defers } W) :
    (Code.rangeFunc g ps Code.skip body).wpIn F n P (Exit.inBlock id Q) a w :=
  wpIn_rangeFunc_brk hro h1 hg hFg eg hseq hKt hKb hb0 hps I Ib hI hIb h0 _ (fun _ _ _ _ hK => wpIn_skip hK) hbody E hd hs hend
theorem wpIn_rangeFunc_brk1 {F : Fence} {n : Nat} {P : Program} {α : Type} {g : Operand} {p : Tmp} {body : Code} {Q : Exit → Act → World → Prop} {id : Nat} {a : Act} {w : World}
    (hro : F.round = none) (h1 : 1 ≤ n) {gf : Nat} {lb : Array Value} (hg : a.eval g = .func (.func gf) #[] lb) (hFg : F.fn gf) (eg : ∀ args w, (callFunc gf args).run P w = .ok (.enter gf args) w)
    {enc : α → Value} {Kp : World → World → Prop} {S Sp : List α → Prop} {N : Nat} {w0 : World} (hseq : SeqStopsK F (n - 1) P gf lb (fun x => #[enc x]) Kp S Sp N w0)
    (hKt : ∀ {A B C : World}, Kp A B → Kp B C → Kp A C) (hKb : ∀ (W : World) (l : Nat) (o o' : Obj), w.heap.size ≤ l → W.heap[l]? = some o → o.isCells = false → o.isWalk = false → Kp W (W.putObj l o')) (hb0 : Below w0.heap.size w0 w)
    (I Ib : List α → World → Prop) (hI : OwnFrom w.heap.size I) (hIb : OwnFrom w.heap.size Ib) (h0 : I [] w)
    (hbody : ∀ (l : Nat) (pre : List α) (x : α) (W : World), I pre W → pre.length < N → body.wpIn (F.inRound l) (n - 1 - 1) P (ownPostK Kp I (fun c pre W => c = .exit id ∧ Ib pre W) (pre ++ [x]) W) { tmps := a.tmps.setIfInBounds p (enc x), defers := [] } W)
    (E : World → Prop) (hd : ∀ xs W, S xs → I xs W → E W) (hs : ∀ xs W, Sp xs → Ib xs W → E W)
    (hend : ∀ (D : Nat) (W : World), w.heap.size ≤ D → E W → W.heap[D]? = some (.deferred (some [])) → Q .normal { a with defers := { target := .collected D, args := #[] } :: a.defers } W) :
    (Code.rangeFunc g #[p] Code.skip body).wpIn F n P (Exit.inBlock id Q) a w :=
  wpIn_rangeFunc_brk0 hro h1 hg hFg eg hseq hKt hKb hb0 (fun _ => rfl) I Ib hI hIb h0 (fun l pre x W h hl => by simpa using hbody l pre x W h hl) E hd hs hend
theorem wpIn_rangeFunc_brk2 {F : Fence} {n : Nat} {P : Program} {α : Type} {g : Operand} {p p' : Tmp} {body : Code} {Q : Exit → Act → World → Prop} {id : Nat} {a : Act} {w : World}
    (hro : F.round = none) (h1 : 1 ≤ n) {gf : Nat} {lb : Array Value} (hg : a.eval g = .func (.func gf) #[] lb) (hFg : F.fn gf) (eg : ∀ args w, (callFunc gf args).run P w = .ok (.enter gf args) w)
    {enc enc' : α → Value} {Kp : World → World → Prop} {S Sp : List α → Prop} {N : Nat} {w0 : World} (hseq : SeqStopsK F (n - 1) P gf lb (fun x => #[enc x, enc' x]) Kp S Sp N w0)
    (hKt : ∀ {A B C : World}, Kp A B → Kp B C → Kp A C) (hKb : ∀ (W : World) (l : Nat) (o o' : Obj), w.heap.size ≤ l → W.heap[l]? = some o → o.isCells = false → o.isWalk = false → Kp W (W.putObj l o')) (hb0 : Below w0.heap.size w0 w)
    (I Ib : List α → World → Prop) (hI : OwnFrom w.heap.size I) (hIb : OwnFrom w.heap.size Ib) (h0 : I [] w)
    (hbody : ∀ (l : Nat) (pre : List α) (x : α) (W : World), I pre W → pre.length < N → body.wpIn (F.inRound l) (n - 1 - 1) P (ownPostK Kp I (fun c pre W => c = .exit id ∧ Ib pre W) (pre ++ [x]) W) { tmps := (a.tmps.setIfInBounds p (enc x)).setIfInBounds p' (enc' x), defers := [] } W)
    (E : World → Prop) (hd : ∀ xs W, S xs → I xs W → E W) (hs : ∀ xs W, Sp xs → Ib xs W → E W)
    (hend : ∀ (D : Nat) (W : World), w.heap.size ≤ D → E W → W.heap[D]? = some (.deferred (some [])) → Q .normal { a with defers := { target := .collected D, args := #[] } :: a.defers } W) :
    (Code.rangeFunc g #[p, p'] Code.skip body).wpIn F n P (Exit.inBlock id Q) a w :=
  wpIn_rangeFunc_brk0 hro h1 hg hFg eg hseq hKt hKb hb0 (fun _ => rfl) I Ib hI hIb h0 (fun l pre x W h hl => by simpa using hbody l pre x W h hl) E hd hs hend
theorem cnt_step {W : World} {cnt : Nat} {α : Type} {pre : List α} {x : α} (h1 : W.cell? ⟨cnt, 0, none⟩ = some (.int .i64 (pre.length : Nat))) (h2 : W.frozen? ⟨cnt, 0, none⟩ = false) :
    (W.setCell ⟨cnt, 0, none⟩ (.int .i64 (((pre.length : Nat) : Int) + 1))).cell? ⟨cnt, 0, none⟩ = some (.int .i64 ((pre ++ [x]).length : Nat)) ∧ (W.setCell ⟨cnt, 0, none⟩ (.int .i64 (((pre.length : Nat) : Int) + 1))).frozen? ⟨cnt, 0, none⟩ = false := by
  constructor
  · rw [World.cell?_setCell_same' _ _ _ (by rw [h1]; rfl)]
    simp
  · rw [World.frozen?_setCell]; exact h2
theorem stop_lo (st : Int) : 1 ≤ wrap64 (1 + wrap64 ((IntKind.u64.wrap st).tmod 20)) ∧ wrap64 (1 + wrap64 ((IntKind.u64.wrap st).tmod 20)) ≤ 20 := by
  have h0 : 0 ≤ IntKind.u64.wrap st := by show 0 ≤ st % 18446744073709551616; omega
  rw [Int.tmod_eq_emod_of_nonneg h0]
  have h1 : 0 ≤ IntKind.u64.wrap st % 20 := by omega
  have h2 : IntKind.u64.wrap st % 20 < 20 := by omega
  generalize IntKind.u64.wrap st % 20 = x at *
  unfold wrap64
  omega
set_option maxRecDepth 100000 in
set_option maxHeartbeats 4000000 in
theorem left1 (from_ : Int) (a : Option Addr) (xs : List Int) (c : Nat) (N st : Int) (w : World) (hlen0 : xs.length ≤ 9223372036854775807) (hr0 : RowV 0 w.heap.size w a (xs.map (Value.int .u16))) :
    CallsIn FW 9 Try.prog 6 #[.agg #[.int .u16 from_, .slice a xs.length c, .int .i64 N, .int .i64 st]] w fun e w' => e = .returned (.bool true) ∧ Below w.heap.size w w' := by
  have f11 : FW.fn 13 := trivial
  have f26 : FW.fn 28 := trivial
  have f27 : FW.fn 29 := trivial
  have HR0 := hid hr0
  clear hr0
  refine callsIn_of_wp_marks Try.func6 rfl trivial ?_ rfl
  simp only [Try.ntmps6, List.size_toArray, List.length_cons, List.length_nil, Nat.reduceAdd, Nat.reduceSub, Array.replicate_succ, Array.replicate_zero, List.push_toArray, List.append_toArray, List.nil_append, List.cons_append]
  gi_wp2_with (gi_at_call 13; refine (callsIn_wide.2 (Ser.alive _)).mono ?_; rintro e w' ⟨rfl, rfl⟩)
  refine wpIn_wide.2 ?_
  go_region_held3 (fun w' => w'.cell? ⟨w.heap.size, 0, none⟩ = some (.int .u16 from_) ∧ w'.cell? ⟨w.heap.size, 1, none⟩ = some (.slice a xs.length c) ∧ w'.cell? ⟨w.heap.size, 2, none⟩ = some (.int .i64 N) ∧ w'.cell? ⟨w.heap.size, 3, none⟩ = some (.int .i64 st))
    (first | go_keep) (fail)
  by_cases hq : xs.length ≤ 60 ∧ N ≤ 200
  rotate_left
  · have hb0 := hid (((((Below.refl _ w).alloc (Nat.le_refl _) (.cells #[.int .u16 from_, .slice a xs.length c, .int .i64 N, .int .i64 st] 41)).alloc (by simp) (.cells #[.int .i64 st] 3)).drew))
    by_cases hq1 : xs.length ≤ 60
    · have hq2 : 200 < N := by omega
      clear hq
      gi_wp2
      exact ⟨_, results_tmp rfl _ _ _, rfl, hb0.out⟩
    · have hq2 : 60 < xs.length := by omega
      clear hq hq1
      gi_wp2
      exact ⟨_, results_tmp rfl _ _ _, rfl, hb0.out⟩
  obtain ⟨hlen, hN⟩ := hq
  gi_wp2_with (gi_at_call 28; refine (callsIn_wide.2 (range_any _ _ _)).mono ?_; rintro e w' ⟨rfl, rfl⟩)
  have hS := stop_lo st
  generalize wrap64 (1 + wrap64 ((IntKind.u64.wrap st).tmod 20)) = s at hS ⊢
  obtain ⟨s1, s2⟩ := hS
  generalize hW1 : (World.drew _) = W1
  have z1 : W1.heap.size = w.heap.size + 5 := by rw [← hW1]; simp
  have c1 : W1.cell? ⟨w.heap.size + 1, 0, none⟩ = some (.int .i64 s) := by
    rw [← hW1, World.cell?_drew, cell_old1 _ _ _ (by simp <;> omega), cell_old1 _ _ _ (by simp <;> omega), cell_old1 _ _ _ (by simp <;> omega), cell_new1 _ _ _ _ (by simp)]; rfl
  have c2 : W1.cell? ⟨w.heap.size + 2, 0, none⟩ = some (.int .i64 0) := by
    rw [← hW1, World.cell?_drew, cell_old1 _ _ _ (by simp <;> omega), cell_old1 _ _ _ (by simp <;> omega), cell_new1 _ _ _ _ (by simp)]; rfl
  have c3 : W1.cell? ⟨w.heap.size + 3, 0, none⟩ = some (.int .u16 from_) := by
    rw [← hW1, World.cell?_drew, cell_old1 _ _ _ (by simp <;> omega), cell_new1 _ _ _ _ (by simp)]; rfl
  have c4 : W1.cell? ⟨w.heap.size + 4, 0, none⟩ = some (.int .i64 N) := by
    rw [← hW1, World.cell?_drew, cell_new1 _ _ _ _ (by simp)]; rfl
  have z2 : W1.frozen? ⟨w.heap.size + 2, 0, none⟩ = false := by
    rw [← hW1, World.frozen?_drew, froz_old1 _ _ _ (by simp <;> omega), froz_old1 _ _ _ (by simp <;> omega), froz_new1 _ _ _ _ (by simp)]
  have hb1 : Below w.heap.size w W1 := by
    rw [← hW1]
    exact ((((((Below.refl _ w).alloc (Nat.le_refl _) _).alloc (by simp) _).alloc (by simp; omega) _).alloc (by simp; omega) _).alloc (by simp; omega) _).drew
  clear hW1
  have f57 : FW.fn 64 := trivial
  refine wpIn_rangeFunc_brk1 rfl (by decide) (gf := 64) (lb := #[.pointer (some ⟨w.heap.size + 1 + 1 + 1 + 1, 0, none⟩), .pointer (some ⟨w.heap.size + 1 + 1 + 1, 0, none⟩)]) rfl f57 (enters_of Try.func64 (by kernel_rfl) rfl)
    (range_stops 8 (by decide) (w.heap.size + 1 + 1 + 1 + 1) (w.heap.size + 1 + 1 + 1) (w.heap.size + 2) W1.heap.size N from_ (by omega) W1 (by omega) (by omega) (by omega) (Nat.le_refl _) c4 c3) Keep.trans (keepK_b (Nat.le_refl _)) (Below.refl _ _)
    (fun pre W => ((W.cell? ⟨w.heap.size + 2, 0, none⟩ = some (.int .i64 (pre.length : Nat)) ∧ W.frozen? ⟨w.heap.size + 2, 0, none⟩ = false) ∧ (pre.length : Int) < s) ∧ W1.grownBy W (some (w.heap.size + 2)))
    (fun pre W => ((W.cell? ⟨w.heap.size + 2, 0, none⟩ = some (.int .i64 (pre.length : Nat)) ∧ W.frozen? ⟨w.heap.size + 2, 0, none⟩ = false) ∧ (pre.length : Int) = s) ∧ W1.grownBy W (some (w.heap.size + 2)))
    (OwnFrom.and (Own.from (fun s A B row hs hg hr => ⟨⟨cell_kept hs.1.1 hg hr, (frozen_kept hs.1.1 hg hr).trans hs.1.2⟩, hs.2⟩) _) (ownFrom_grown _ _ _ (Nat.le_refl _)))
    (OwnFrom.and (Own.from (fun s A B row hs hg hr => ⟨⟨cell_kept hs.1.1 hg hr, (frozen_kept hs.1.1 hg hr).trans hs.1.2⟩, hs.2⟩) _) (ownFrom_grown _ _ _ (Nat.le_refl _)))
    ⟨⟨⟨c2, z2⟩, by simp; omega⟩, ⟨rfl, rfl, rfl, Nat.le_refl _, fun _ _ _ => rfl⟩⟩ ?body (fun W => (W.cell? ⟨w.heap.size + 2, 0, none⟩ = some (.int .i64 (min s (N.toNat : Int))) ∧ W.frozen? ⟨w.heap.size + 2, 0, none⟩ = false) ∧ W1.grownBy W (some (w.heap.size + 2))) ?hd ?hs ?hend
  case hd =>
    rintro ys W rfl ⟨⟨⟨h1, h2⟩, h3⟩, h4⟩
    rw [seqR_len] at h1 h3
    exact ⟨⟨by rw [h1, show min s (N.toNat : Int) = (N.toNat : Int) by omega], h2⟩, h4⟩
  case hs =>
    rintro ys W hp ⟨⟨⟨h1, h2⟩, h3⟩, h4⟩
    have hl := hp.length_le
    rw [seqR_len] at hl
    exact ⟨⟨by rw [h1, show min s (N.toNat : Int) = (ys.length : Int) by omega], h2⟩, h4⟩
  case body =>
    rintro l pre x W ⟨⟨⟨h1, h2⟩, h3⟩, h4⟩ hpre
    clear hpre
    have hz := h4.size
    have hst : W.cell? ⟨w.heap.size + 1, 0, none⟩ = some (.int .i64 s) := h4.cell (a := ⟨w.heap.size + 1, 0, none⟩) c1 (by simp)
    have H4 := hid h4
    clear h4 c1 c2 c3 c4 z2
    by_cases hb : ((pre.length : Nat) : Int) + 1 = s
    · have hbb : (((pre.length : Nat) : Int) + 1 == s) = true := by simpa using hb
      have HB := hid hb
      clear hb
      gi_wp2
      exact ⟨KeepsOthers.setCell _ _ _, rfl, ⟨cnt_step h1 h2, by have := HB.out; simp; omega⟩, grown_set H4.out _⟩
    · have hbb : (((pre.length : Nat) : Int) + 1 == s) = false := by simpa using hb
      have HB := hid hb
      clear hb
      gi_wp2
      exact ⟨KeepsOthers.setCell _ _ _, Keep.of_grown (grownBy_setCell' W _ _) hz, ⟨cnt_step h1 h2, by have := HB.out; simp; omega⟩, grown_set H4.out _⟩
  case hend =>
    rintro D1 W2 hD1 ⟨⟨t1, t2⟩, hg2⟩ hK1
    have y1 := hg2.size
    have k1 : W2.cell? ⟨w.heap.size + 1, 0, none⟩ = some (.int .i64 s) := hg2.cell (a := ⟨w.heap.size + 1, 0, none⟩) c1 (by simp)
    have hB2 := hid (hb1.trans (grown_below hg2 (B := w.heap.size) (by omega) (by omega)))
    have hD1' : D1 < W2.heap.size := (Array.getElem?_eq_some_iff.1 hK1).1
    clear c1 c2 c3 c4 z2 hg2 hb1
    obtain ⟨g, hg⟩ : ∃ g, W2.heap.size = g := ⟨_, rfl⟩
    have HK1 := hid hK1
    clear hK1
    gi_wp2_with (gi_at_call 29; refine (callsIn_wide.2 (runs_any _ _ _ (by omega) _ (hid (HR0.out.later (hB2.out.trans (((Below.refl _ W2).alloc (by omega) _).alloc (by simp; omega) _) |>.trans (Below.refl _ _)) |>.mono (Nat.le_refl _) (by simp; omega))))).mono ?_; rintro e W3 ⟨bo, a3, c3, rfl, q1, q2, q3, q4, q5⟩)
    have z3 : g + 2 ≤ W3.heap.size := by have := q5.out.size; simp at this; omega
    have zb : g + 2 ≤ bo := by simp at q2; omega
    have q4' : RowV (g + 2) W3.heap.size W3 a3 (xs.map (Value.int .u16)) := q4.out.mono (by simp; omega) (Nat.le_refl _)
    have m0 : W3.cell? ⟨g, 0, none⟩ = some (.int .i64 0) := by
      rw [q5.out.cell (p := ⟨g, 0, none⟩) (by simp; omega), cell_old1 _ _ _ (by simp; omega), cell_new1 _ _ _ _ hg.symm]; rfl
    have m1 : W3.cell? ⟨g + 1, 0, none⟩ = some (.int .i64 0) := by
      rw [q5.out.cell (p := ⟨g + 1, 0, none⟩) (by simp; omega), cell_new1 _ _ _ _ (by simp; omega)]; rfl
    have f0 : W3.frozen? ⟨g, 0, none⟩ = false := by
      rw [q5.out.frozen (p := ⟨g, 0, none⟩) (by simp; omega), froz_old1 _ _ _ (by simp; omega), froz_new1 _ _ _ _ hg.symm]
    have f1 : W3.frozen? ⟨g + 1, 0, none⟩ = false := by
      rw [q5.out.frozen (p := ⟨g + 1, 0, none⟩) (by simp; omega), froz_new1 _ _ _ _ (by simp; omega)]
    have old3 : Below g W2 W3 := (((Below.refl g W2).alloc (by omega) _).alloc (by simp; omega) _).trans (q5.out.mono (by simp; omega))
    have m2 : W3.cell? ⟨w.heap.size + 1, 0, none⟩ = some (.int .i64 s) := (old3.cell (p := ⟨w.heap.size + 1, 0, none⟩) (by simp; omega)).trans k1
    have m3 : W3.cell? ⟨w.heap.size + 2, 0, none⟩ = some (.int .i64 (min s (N.toNat : Int))) := (old3.cell (p := ⟨w.heap.size + 2, 0, none⟩) (by simp; omega)).trans t1
    have hD3 : W3.heap[D1]? = some (.deferred (some [])) := (old3.block D1 (by omega)).trans HK1.out
    have hB3 : Hid (Below w.heap.size w W3) := hid (hB2.out.trans (old3.mono (by omega)))
    clear t1 t2 k1 q4 q5 HK1 hB2 old3 q2
    have f60 : FW.fn 67 := trivial
    refine wpIn_rangeFunc_brk2 rfl (by decide) (gf := 67) (lb := #[.pointer (some ⟨bo, 0, none⟩)]) rfl f60 (enters_of Try.func67 (by kernel_rfl) rfl)
      (runs_stops 8 (by decide) bo (g + 1) (g + 2) W3.heap.size a3 xs c3 (by omega) W3 q1 (by omega) (by omega) (Nat.le_refl _) q3 q4') Keep.trans (keepK_b (Nat.le_refl _)) (Below.refl _ _)
      (fun pre W => ((W.cell? ⟨g + 1, 0, none⟩ = some (.int .i64 (pre.length : Nat)) ∧ W.frozen? ⟨g + 1, 0, none⟩ = false) ∧ True) ∧ W3.grownBy W (some (g + 1)))
      (fun _ _ => False)
      (OwnFrom.and (Own.from (fun s A B row hs hg hr => ⟨⟨cell_kept hs.1.1 hg hr, (frozen_kept hs.1.1 hg hr).trans hs.1.2⟩, hs.2⟩) _) (ownFrom_grown _ _ _ (Nat.le_refl _)))
      (fun _ _ _ _ h _ _ => h)
      ⟨⟨⟨m1, f1⟩, trivial⟩, ⟨rfl, rfl, rfl, Nat.le_refl _, fun _ _ _ => rfl⟩⟩ ?body2 (fun W => (W.cell? ⟨g + 1, 0, none⟩ = some (.int .i64 (((runs xs).length : Nat))) ∧ W.frozen? ⟨g + 1, 0, none⟩ = false) ∧ W3.grownBy W (some (g + 1))) ?hd2 (fun _ _ _ h => h.elim) ?hend2
    case hd2 =>
      rintro ys W rfl ⟨⟨⟨h1, h2⟩, h3⟩, h4⟩
      exact ⟨⟨h1, h2⟩, h4⟩
    case body2 =>
      rintro l pre x W ⟨⟨⟨h1, h2⟩, h3⟩, h4⟩ hpre
      have hz := h4.size
      have H4 := hid h4
      clear h4 m0 m1 m2 m3 f0 f1 q1 q3
      gi_wp2
      exact ⟨KeepsOthers.setCell _ _ _, Keep.of_grown (grownBy_setCell' W _ _) hz, ⟨cnt_step h1 h2, trivial⟩, grown_set H4.out _⟩
    case hend2 =>
      rintro D2 W4 hD2 ⟨⟨u1, u2⟩, hg4⟩ hK2
      have y4 := hg4.size
      have n0 : W4.cell? ⟨g, 0, none⟩ = some (.int .i64 0) := hg4.cell (a := ⟨g, 0, none⟩) m0 (by simp)
      have n2 : W4.cell? ⟨w.heap.size + 1, 0, none⟩ = some (.int .i64 s) := hg4.cell (a := ⟨w.heap.size + 1, 0, none⟩) m2 (by simp; omega)
      have n3 : W4.cell? ⟨w.heap.size + 2, 0, none⟩ = some (.int .i64 (min s (N.toNat : Int))) := hg4.cell (a := ⟨w.heap.size + 2, 0, none⟩) m3 (by simp; omega)
      have nf : W4.frozen? ⟨g, 0, none⟩ = false := by rw [World.frozen?_of_block (w := W3) (hg4.block g (by omega) (by simp))]; exact f0
      have hK1 : W4.heap[D1]? = some (.deferred (some [])) := (hg4.block D1 (by omega) (by simp; omega)).trans hD3
      have hB4 := hid (hB3.out.trans (grown_below hg4 (B := w.heap.size) (by omega) (by omega)))
      have hD2' : D2 < W4.heap.size := (Array.getElem?_eq_some_iff.1 hK2).1
      have HK1 := hid hK1
      have HK2 := hid hK2
      clear hg4 m0 m1 m2 m3 f0 f1 q1 q3 q4' hD3 hB3 hK1 hK2
      gi_wp2_with (gi_at_call 29; refine (callsIn_wide.2 (runs_any _ _ _ (by omega) _ (hid ((HR0.out.later hB4.out).mono (Nat.le_refl _) (by omega))))).mono ?_; rintro e W5 ⟨bo', a5, c5, rfl, q1, q2, q3, q4, q5⟩)
      have z5 := q5.out.size
      have m0 : W5.cell? ⟨g, 0, none⟩ = some (.int .i64 0) := (q5.out.cell (p := ⟨g, 0, none⟩) (by simp; omega)).trans n0
      have m1 : W5.cell? ⟨g + 1, 0, none⟩ = some (.int .i64 ((runs xs).length : Nat)) := (q5.out.cell (p := ⟨g + 1, 0, none⟩) (by simp; omega)).trans u1
      have f0 : W5.frozen? ⟨g, 0, none⟩ = false := (q5.out.frozen (p := ⟨g, 0, none⟩) (by simp; omega)).trans nf
      have m2 : W5.cell? ⟨w.heap.size + 1, 0, none⟩ = some (.int .i64 s) := (q5.out.cell (p := ⟨w.heap.size + 1, 0, none⟩) (by simp; omega)).trans n2
      have m3 : W5.cell? ⟨w.heap.size + 2, 0, none⟩ = some (.int .i64 (min s (N.toNat : Int))) := (q5.out.cell (p := ⟨w.heap.size + 2, 0, none⟩) (by simp; omega)).trans n3
      have hK1 : W5.heap[D1]? = some (.deferred (some [])) := (q5.out.block D1 (by omega)).trans HK1.out
      have hK2 : W5.heap[D2]? = some (.deferred (some [])) := (q5.out.block D2 (by omega)).trans HK2.out
      have hB5 : Hid (Below w.heap.size w W5) := hid (hB4.out.trans (q5.out.mono (by omega)))
      have q4' : RowV (g + 2) W5.heap.size W5 a5 (xs.map (Value.int .u16)) := q4.out.mono (by omega) (Nat.le_refl _)
      clear n0 n2 n3 nf u1 u2 HK1 HK2 hB4 q5 q4
      refine wpIn_rangeFunc_brk2 rfl (by decide) (gf := 67) (lb := #[.pointer (some ⟨bo', 0, none⟩)]) rfl f60 (enters_of Try.func67 (by kernel_rfl) rfl)
        (runs_stops 8 (by decide) bo' g (g + 2) W5.heap.size a5 xs c5 (by omega) W5 q1 (by omega) (by omega) (Nat.le_refl _) q3 q4') Keep.trans (keepK_b (Nat.le_refl _)) (Below.refl _ _)
        (fun pre W => ((W.cell? ⟨g, 0, none⟩ = some (.int .i64 (pre.length : Nat)) ∧ W.frozen? ⟨g, 0, none⟩ = false) ∧ (pre.length : Int) < s) ∧ W5.grownBy W (some (g)))
        (fun pre W => ((W.cell? ⟨g, 0, none⟩ = some (.int .i64 (pre.length : Nat)) ∧ W.frozen? ⟨g, 0, none⟩ = false) ∧ (pre.length : Int) = s) ∧ W5.grownBy W (some (g)))
        (OwnFrom.and (Own.from (fun s A B row hs hg hr => ⟨⟨cell_kept hs.1.1 hg hr, (frozen_kept hs.1.1 hg hr).trans hs.1.2⟩, hs.2⟩) _) (ownFrom_grown _ _ _ (Nat.le_refl _)))
        (OwnFrom.and (Own.from (fun s A B row hs hg hr => ⟨⟨cell_kept hs.1.1 hg hr, (frozen_kept hs.1.1 hg hr).trans hs.1.2⟩, hs.2⟩) _) (ownFrom_grown _ _ _ (Nat.le_refl _)))
        ⟨⟨⟨m0, f0⟩, by simp; omega⟩, ⟨rfl, rfl, rfl, Nat.le_refl _, fun _ _ _ => rfl⟩⟩ ?body3 (fun W => (W.cell? ⟨g, 0, none⟩ = some (.int .i64 (min s ((runs xs).length : Int))) ∧ W.frozen? ⟨g, 0, none⟩ = false) ∧ W5.grownBy W (some (g))) ?hd3 ?hs3 ?hend3
      case hd3 =>
        rintro ys W rfl ⟨⟨⟨h1, h2⟩, h3⟩, h4⟩
        exact ⟨⟨by rw [h1, show min s ((runs xs).length : Int) = ((runs xs).length : Int) by omega], h2⟩, h4⟩
      case hs3 =>
        rintro ys W hp ⟨⟨⟨h1, h2⟩, h3⟩, h4⟩
        have hl := hp.length_le
        exact ⟨⟨by rw [h1, show min s ((runs xs).length : Int) = (ys.length : Int) by omega], h2⟩, h4⟩
      case body3 =>
        rintro l pre x W ⟨⟨⟨h1, h2⟩, h3⟩, h4⟩ hpre
        have hz := h4.size
        have hst : W.cell? ⟨w.heap.size + 1, 0, none⟩ = some (.int .i64 s) := h4.cell (a := ⟨w.heap.size + 1, 0, none⟩) m2 (by simp; omega)
        have H4 := hid h4
        clear h4 m0 m1 m2 m3 f0 q1 q3 q4' hK1 hK2
        by_cases hb : ((pre.length : Nat) : Int) + 1 = s
        · have hbb : (((pre.length : Nat) : Int) + 1 == s) = true := by simpa using hb
          have HB := hid hb
          clear hb
          gi_wp2
          exact ⟨KeepsOthers.setCell _ _ _, rfl, ⟨cnt_step h1 h2, by have := HB.out; simp; omega⟩, grown_set H4.out _⟩
        · have hbb : (((pre.length : Nat) : Int) + 1 == s) = false := by simpa using hb
          have HB := hid hb
          clear hb
          gi_wp2
          exact ⟨KeepsOthers.setCell _ _ _, Keep.of_grown (grownBy_setCell' W _ _) hz, ⟨cnt_step h1 h2, by have := HB.out; simp; omega⟩, grown_set H4.out _⟩
      case hend3 =>
        rintro D3 W6 hD3 ⟨⟨v1, v2⟩, hg6⟩ hK3
        have n1 : W6.cell? ⟨g + 1, 0, none⟩ = some (.int .i64 ((runs xs).length : Nat)) := hg6.cell (a := ⟨g + 1, 0, none⟩) m1 (by simp)
        have n2 : W6.cell? ⟨w.heap.size + 1, 0, none⟩ = some (.int .i64 s) := hg6.cell (a := ⟨w.heap.size + 1, 0, none⟩) m2 (by simp; omega)
        have n3 : W6.cell? ⟨w.heap.size + 2, 0, none⟩ = some (.int .i64 (min s (N.toNat : Int))) := hg6.cell (a := ⟨w.heap.size + 2, 0, none⟩) m3 (by simp; omega)
        have HK1 := hid ((hg6.block D1 (by omega) (by simp; omega)).trans hK1)
        have HK2 := hid ((hg6.block D2 (by omega) (by simp; omega)).trans hK2)
        have HK3 := hid hK3
        have hB6 := hid (hB5.out.trans (grown_below hg6 (B := w.heap.size) (by omega) (by omega)))
        clear hg6 m0 m1 m2 m3 f0 q1 q3 q4' hK1 hK2 hK3 hB5
        generalize (runs xs).length = R at *
        have hT : (N ≤ 0 ∧ min s (N.toNat : Int) = 0) ∨ (0 < N ∧ s ≤ N ∧ min s (N.toNat : Int) = s) ∨ (0 < N ∧ N < s ∧ min s (N.toNat : Int) = N) := by omega
        have hR : (s ≤ R ∧ min s (R : Int) = s) ∨ ((R : Int) < s ∧ min s (R : Int) = R) := by omega
        have hd12 : D1 < D2 := by omega
        have hd23 : D2 < D3 := by omega
        have e2 : (W6.putObj D3 (.deferred none)).heap[D2]? = some (.deferred (some [])) := by
          rw [(grownBy_putObj' W6 D3 (.deferred none)).block D2 (Array.getElem?_eq_some_iff.1 HK2.out).1 (by simp; omega)]; exact HK2.out
        have e1 : ((W6.putObj D3 (.deferred none)).putObj D2 (.deferred none)).heap[D1]? = some (.deferred (some [])) := by
          have e0 : (W6.putObj D3 (.deferred none)).heap[D1]? = some (.deferred (some [])) := by
            rw [(grownBy_putObj' W6 D3 (.deferred none)).block D1 (Array.getElem?_eq_some_iff.1 HK1.out).1 (by simp; omega)]; exact HK1.out
          rw [(grownBy_putObj' (W6.putObj D3 (.deferred none)) D2 (.deferred none)).block D1 (Array.getElem?_eq_some_iff.1 e0).1 (by simp; omega)]; exact e0
        have hend := hid (((hB6.out.trans (belowK_b (w := w) (Nat.le_refl _) W6 D3 _ (.deferred none) (by omega) HK3.out rfl rfl)).trans (belowK_b (w := w) (Nat.le_refl _) _ D2 _ (.deferred none) (by omega) e2 rfl rfl)).trans (belowK_b (w := w) (Nat.le_refl _) _ D1 _ (.deferred none) (by omega) e1 rfl rfl))
        have E2 := hid e2
        have E1 := hid e1
        clear e1 e2 hB6
        rcases hT with ⟨x1, x2⟩ | ⟨x1, x3, x2⟩ | ⟨x1, x3, x2⟩ <;> rcases hR with ⟨x4, x5⟩ | ⟨x4, x5⟩
        all_goals
          rw [x2] at n3
          rw [x5] at v1
          clear x2 x5
          gi_wp2
          refine ⟨by simp, .inl ⟨_, _, rfl, run_takeDeferred HK3.out, ?_⟩⟩
          refine ⟨by simp, .inl ⟨_, _, rfl, run_takeDeferred E2.out, ?_⟩⟩
          refine ⟨by simp, .inl ⟨_, _, rfl, run_takeDeferred E1.out, ?_⟩⟩
          exact ⟨_, results_tmp rfl _ _ _, rfl, hend.out⟩
end Go.Proofs.Ytnlhlffciigcnaa.Left
