import Derived.Test.YtgbjbmakjilddaaFragLaw
import Derived.Test.YtgbjbmakjilddaaLeftWalk
import Derived.Outline
import Derived.Lib.SmallJoins
namespace Go.Proofs.Ytgbjbmakjilddaa.QFrag
open Go.RowKit Go.Proofs.YtgbjbmakjilddaaW.PrintWords Go.Proofs.YtgbjbmakjilddaaW.PrintLast Go.Proofs.YtgbjbmakjilddaaW.PrintMore Go.ChangeShapes Go.WideShapes Go.ChangeAt Go.Shelf
open Base (hid slice_of_row ret_bool cell_new1 cell_old1 froz_new1 froz_old1)
open Go.Joins (cell_of_block unfrozen_of_block)
attribute [local go_sem] Oper.semAt_some
set_option linter.unusedVariables false
/-! the texts of a row of pieces, to be written cell by cell -/
def Pok (w : World) (A : Option Addr) (ns : List Nat) (B hi : Nat) : Prop :=
  ∀ i (h : i < ns.length), ∃ ad A6 c6, A = some ad ∧ B ≤ ad.block ∧ w.cell? ⟨(ad.add (i * 7)).block, (ad.add (i * 7)).off + 6, none⟩ = some (.slice A6 ns[i] c6) ∧ ns[i] ≤ c6 ∧
    ∀ k, k < ns[i] → ∃ a6 x, A6 = some a6 ∧ B ≤ a6.block ∧ a6.block < hi ∧ a6.block ≠ ad.block ∧ w.cell? (a6.add k) = some (.int .u8 x) ∧ w.frozen? (a6.add k) = false
theorem add_block (a : Addr) (n : Nat) : (a.add n).block = a.block := by unfold Addr.add; split <;> rfl
theorem row_poke {W : World} {B : Nat} {ok : Nat → Prop} {v : Value} {ys : List Int} (h : (Kd.int .u8).R 5 W B ok v ys) : ∃ A c, v = .slice A ys.length c ∧ ys.length ≤ c ∧
    ∀ k, k < ys.length → ∃ g x, A = some ⟨g, 0, none⟩ ∧ ok g ∧ B ≤ g ∧ g < W.heap.size ∧ W.cell? ⟨g, k, none⟩ = some (.int .u8 x) ∧ W.frozen? ⟨g, k, none⟩ = false := by
  have hok := h.1
  have ho := Kd.own_of_R h
  rcases ho.2 with ⟨rfl, h0⟩ | ⟨g, cap, cur, rfl, hg, hh, hc, _, hsz, htk⟩
  · exact ⟨none, 0, by rw [h0], by omega, fun k hk => by omega⟩
  · refine ⟨some ⟨g, 0, none⟩, cap, rfl, hc, fun k hk => ?_⟩
    have hcell : W.cell? ⟨g, k, none⟩ = some (.int .u8 ys[k]) := by
      have hx : (encs (Value.int .u8) ys)[k]? = some (.int .u8 ys[k]) := by simp [encs, hk]
      have := ho.cells (g := g) rfl k _ hx
      rwa [show (⟨g, 0, none⟩ : Addr).add k = ⟨g, k, none⟩ from add_plain _ _ _ |>.trans (by simp)] at this
    have hlt : g < W.heap.size := by
      rcases Nat.lt_or_ge g W.heap.size with h | h
      · exact h
      · rw [Array.getElem?_eq_none h] at hh
        cases hh
    refine ⟨g, ys[k], rfl, hok g rfl, hg, hlt, hcell, ?_⟩
    simp [World.frozen?, hh]
theorem pok_of_R {W : World} {B n cap : Nat} {A : Option Addr} {xs : List S93} (h : Kd.R k93 93 W B (fun _ => True) (.slice A n cap) xs) : Pok W A (xs.map fun p => p.f6.length) B W.heap.size := by
  intro i hi
  rw [List.length_map] at hi
  obtain ⟨G, c, e, hG, _, _, _⟩ := Kd.R_form h (by omega)
  cases e
  obtain ⟨v6, r6, hc⟩ := R_elem h i hi
  obtain ⟨A6, c6, rfl, hc6, hk⟩ := row_poke r6
  refine ⟨⟨G, 0, none⟩, A6, c6, rfl, hG, ?_, by rw [List.getElem_map]; exact hc6, fun k hk' => ?_⟩
  · rw [List.getElem_map, WideShapes.add_plain, Nat.zero_add]
    exact hc 6 _ rfl
  · rw [List.getElem_map] at hk'
    obtain ⟨g, x, e, ok, h1, h2, h3, h4⟩ := hk k hk'
    refine ⟨⟨g, 0, none⟩, x, e, h1, h2, fun e => ok.2 (by rw [show g = G from e]; rfl), ?_, ?_⟩
    · rw [WideShapes.add_plain, Nat.zero_add]; exact h3
    · rw [WideShapes.add_plain, Nat.zero_add]; exact h4
theorem pok_move {W W' : World} {A : Option Addr} {ns : List Nat} {B hi : Nat} (h : Pok W A ns B hi) (hb : ∀ k, k < W.heap.size → W'.heap[k]? = W.heap[k]?) : Pok W' A ns B hi := by
  have hcell : ∀ p : Addr, p.block < W.heap.size → W'.cell? p = W.cell? p := fun p hp => by unfold World.cell?; rw [hb _ hp]
  have hfr : ∀ p : Addr, p.block < W.heap.size → W'.frozen? p = W.frozen? p := fun p hp => by unfold World.frozen?; rw [hb _ hp]
  intro i hi'
  obtain ⟨ad, A6, c6, e, hG, h1, h2, h3⟩ := h i hi'
  refine ⟨ad, A6, c6, e, hG, (hcell ⟨(ad.add (i * 7)).block, (ad.add (i * 7)).off + 6, none⟩ (Base.lt_of_cell h1)).trans h1, h2, fun k hk => ?_⟩
  obtain ⟨a6, x, e, q1, q2, q3, q4, q5⟩ := h3 k hk
  have hlt := World.block_lt_of_cell? W _ q4
  exact ⟨a6, x, e, q1, q2, q3, (hcell _ hlt).trans q4, (hfr _ hlt).trans q5⟩
theorem pok_set {w : World} {A : Option Addr} {ns : List Nat} {B hi : Nat} (h : Pok w A ns B hi) {p : Addr} (hg : ∀ ad, A = some ad → p.block ≠ ad.block) (y : Int) : Pok (w.setCell p (.int .u8 y)) A ns B hi := by
  intro i hi'
  obtain ⟨ad, A6, c6, e, hG, h1, h2, h3⟩ := h i hi'
  refine ⟨ad, A6, c6, e, hG, ?_, h2, fun j hj => ?_⟩
  · rw [World.cell?_setCell_other _ _ _ _ (fun e' => hg ad e (by rw [e', add_block]))]
    exact h1
  · obtain ⟨a6, x', e', q1, q2, q3, q4, q5⟩ := h3 j hj
    by_cases hs : p = a6.add j
    · refine ⟨a6, y, e', q1, q2, q3, ?_, by rw [World.frozen?_setCell]; exact q5⟩
      rw [hs]
      exact World.cell?_setCell_same _ _ _ q4
    · refine ⟨a6, x', e', q1, q2, q3, ?_, by rw [World.frozen?_setCell]; exact q5⟩
      rw [World.cell?_setCell_other _ _ _ _ hs]
      exact q4
/-- Only blocks from B below hi have changed. -/
structure Mid (B hi : Nat) (w w' : World) : Prop where
  os : w'.os = w.os
  tape : w'.tape = w.tape
  output : w'.output = w.output
  size : w'.heap.size = w.heap.size
  block : ∀ k, k < B ∨ hi ≤ k → w'.heap[k]? = w.heap[k]?
theorem Mid.refl (B hi : Nat) (w : World) : Mid B hi w w := ⟨rfl, rfl, rfl, rfl, fun _ _ => rfl⟩
theorem Mid.set {B hi : Nat} {w w' : World} (h : Mid B hi w w') {p : Addr} (h1 : B ≤ p.block) (h2 : p.block < hi) (v : Value) : Mid B hi w (w'.setCell p v) :=
  ⟨h.os, h.tape, h.output, (by simp [World.setCell]; exact h.size), fun j hj => (Below.heap_setCell w' p v j (fun e => by omega)).trans (h.block j hj)⟩
theorem Mid.cell {B hi : Nat} {w w' : World} (h : Mid B hi w w') (p : Addr) (hp : p.block < B ∨ hi ≤ p.block) : w'.cell? p = w.cell? p := by unfold World.cell?; rw [h.block _ hp]
theorem Mid.below {B hi N : Nat} {w w' w0 : World} (h : Mid B hi w w') (hb : Below N w0 w) (hN : N ≤ B) : Below N w0 w' :=
  ⟨h.os.trans hb.os, h.tape.trans hb.tape, h.output.trans hb.output, Nat.le_trans hb.size (Nat.le_of_eq h.size.symm), fun k hk => (h.block k (.inl (Nat.lt_of_lt_of_le hk hN))).trans (hb.block k hk)⟩
theorem Mid.R {B hi b : Nat} {w w' : World} (h : Mid B hi w w') (hb : hi ≤ b) {v : Value} {xs : List Int} (hr : (Kd.int .u8).R 5 w b (fun _ => True) v xs) : (Kd.int .u8).R 5 w' b (fun _ => True) v xs :=
  Kd.R_mono (Kd.R_step (Kd.R_bound hr) (fun k hk _ => h.block k (.inr (Nat.le_trans hb hk.2.1)))) (fun _ _ => trivial)
theorem msg_row {w : World} {n : Nat} {a : Int} {b : Bool} {A : Option Addr} {c : Nat} {xs : List Int} (h : (Kd.int .u8).C w A xs.length xs) (hc : xs.length ≤ c) (h0 : w.cell? ⟨n, 0, none⟩ = some (.int .i64 a)) (h1 : w.cell? ⟨n, 1, none⟩ = some (.bool b)) (h2 : w.cell? ⟨n, 2, none⟩ = some (.slice A xs.length c)) :
    Kd.C k77 w (some ⟨n, 0, none⟩) [(⟨a, b, xs⟩ : S77)].length [⟨a, b, xs⟩] := by
  refine ⟨rfl, by simp, fun _ => ⟨_, rfl, fun j p hj => ?_⟩⟩
  match j, hj with
  | 0, hj =>
    cases hj
    refine ⟨[.int .i64 a, .bool b, .slice A xs.length c], rfl, k77_mk w ⟨a, b, xs⟩ hc h, fun i u hu => ?_⟩
    rw [WideShapes.add_plain, Nat.zero_mul, Nat.zero_add, Nat.zero_add]
    match i, hu with
    | 0, hu => cases hu; exact h0
    | 1, hu => cases hu; exact h1
    | 2, hu => cases hu; exact h2
  | j + 1, hj => simp at hj
/-! FragWholes -/
def tl (l : List S93) (k : Nat) : Nat := (FL.texts (l.take k)).length
theorem tl_succ (l : List S93) (k : Nat) (h : k < l.length) : tl l (k + 1) = tl l k + l[k].f6.length := by
  unfold tl
  rw [FL.texts_snoc l k h, List.length_append]
theorem tl_zero (l : List S93) : tl l 0 = 0 := rfl
theorem tl_mono (l : List S93) (k : Nat) (h : k < l.length) : tl l k ≤ tl l (k + 1) := by rw [tl_succ l k h]; omega
theorem tl_le (l : List S93) : ∀ (d k : Nat), k + d ≤ l.length → tl l k ≤ tl l (k + d) := by
  intro d
  induction d with
  | zero => intro k _; exact Nat.le_refl _
  | succ d ih =>
    intro k h
    exact Nat.le_trans (ih k (by omega)) (tl_mono l (k + d) (by omega))
theorem tl_short (l : List S93) (B : Nat) (h : tl l l.length ≤ B) : ∀ p ∈ l, p.f6.length ≤ B := by
  intro p hp
  obtain ⟨j, hj, rfl⟩ := List.mem_iff_getElem.1 hp
  have h1 := tl_succ l j hj
  have h2 := tl_le l (l.length - (j + 1)) (j + 1) (by omega)
  rw [show j + 1 + (l.length - (j + 1)) = l.length by omega] at h2
  omega
theorem C_len93 {w : World} {A : Option Addr} {n : Nat} {l : List S93} (h : Kd.C k93 w A n l) : l.length ≤ 9223372036854775807 := by
  have h1 := h.1
  have h2 := h.2.1
  omega
theorem many_in (n s : Int) (h : 1 ≤ n ∧ n ≤ 400 ∧ 1 ≤ s ∧ s ≤ 64) : FL.manyB n s = wrap64 ((n - 1) / s + 1) := by
  unfold FL.manyB
  rw [if_pos h]
  have e1 : wrap64 (n - 1) = n - 1 := by unfold wrap64; omega
  rw [e1, Int.tdiv_eq_ediv_of_nonneg (by omega)]
  have h1 : 0 ≤ (n - 1) / s := Int.ediv_nonneg (by omega) (by omega)
  have h2 : (n - 1) / s ≤ n - 1 := Int.ediv_le_self _ (by omega)
  generalize (n - 1) / s = q at h1 h2 ⊢
  have e2 : wrap64 q = q := by unfold wrap64; omega
  rw [e2]
section
variable {P : Program} (w : World)
theorem run_append_src (base : Nat) (t ty e : TypeId) (i : TypeInfo) (z : Value) (bytes : Nat) (ht : P.underlying t = some (.slice e)) (hi : P.info? e = some i) (hz : i.zero = some z)
    (hsize : i.size = 1) (hby : i.bytes = bytes) (hzs : z.cells.size = 1)
    (v : Value) (n : Nat) (xs : List Value) (hown : w.ownsRow base e 1 v n xs)
    (A : Option Addr) (c : Nat) (k : IntKind) (ys : List Int) (hr : (Kd.int k).C w A ys.length ys)
    (h63 : n + ys.length ≤ maxLen) (hbytes : (n + ys.length) * bytes ≤ 140737488355328) (hbase : base ≤ w.heap.size) :
    ∃ v' w', (Builtin.append_ #[t, t] ty #[v, .slice A ys.length c]).run P w = .ok v' w' ∧ w'.ownsRow base e 1 v' (n + ys.length) (xs ++ ys.map (Value.int k)) ∧ w.grownBy w' v.ownBlock := by
  cases A with
  | none =>
    have hx : ys = [] := by
      rcases Nat.eq_zero_or_pos ys.length with h | h
      · exact List.eq_nil_of_length_eq_zero h
      · obtain ⟨ad, e, _⟩ := news_of_C hr h
        cases e
    subst hx
    refine ⟨v, w, ?_, by simpa using hown, ⟨rfl, rfl, rfl, Nat.le_refl _, fun _ _ _ => rfl⟩⟩
    rcases hown.2 with ⟨rfl, rfl⟩ | ⟨g, cap, cur, rfl, _, _, hnc, _⟩
    · simp [Builtin.append_, run_underlying ht, sizeOf, typeInfo, hi, Builtin.lenOf, Builtin.firstCells]
    · simp [Builtin.append_, run_underlying ht, sizeOf, typeInfo, hi, Builtin.lenOf, Builtin.firstCells, hnc, storeCells]
  | some ad =>
    have hnews : ∀ j u, (ys.map (Value.int k))[j]? = some u → w.cell? (ad.add j) = some u := by
      intro j u hu
      rcases Nat.eq_zero_or_pos ys.length with h | h
      · have : ys = [] := List.eq_nil_of_length_eq_zero h
        subst this; simp at hu
      · obtain ⟨ad', e, hc⟩ := news_of_C hr h
        cases e
        exact hc j u hu
    obtain ⟨v', w', hrun, h2, h3, _, _⟩ := run_append_own_at (P := P) w base t ty e i z 1 bytes ht hi hz hsize hby hzs (by decide) v n xs hown ad ys.length c (ys.map (Value.int k)) (by simp) hnews (one_ints _ _) h63 hbytes hbase
    exact ⟨v', w', hrun, h2, h3⟩
theorem wpList_append_src {ops : Array Oper} {rest : List Oper} {o : Oper} {a : Act} {Q : Exit → Act → World → Prop} (hgd : o.guard = none) (s x : Operand) (t : TypeId)
    (ho : o.op = .call { callee := .builtin .append, args := #[s, x], argTypes := #[t, t] })
    (base : Nat) (e : TypeId) (i : TypeInfo) (z : Value) (bytes : Nat) (ht : P.underlying t = some (.slice e)) (hi : P.info? e = some i) (hz : i.zero = some z)
    (hsize : i.size = 1) (hby : i.bytes = bytes) (hzs : z.cells.size = 1)
    (v : Value) (n : Nat) (xs : List Value) (hs : a.eval s = v) (hown : w.ownsRow base e 1 v n xs)
    (A : Option Addr) (c : Nat) (k : IntKind) (ys : List Int) (hx : a.eval x = .slice A ys.length c) (hr : (Kd.int k).C w A ys.length ys)
    (h63 : n + ys.length ≤ maxLen) (hbytes : (n + ys.length) * bytes ≤ 140737488355328) (hbase : base ≤ w.heap.size)
    (h : ∀ v' w', w'.ownsRow base e 1 v' (n + ys.length) (xs ++ ys.map (Value.int k)) → w.grownBy w' v.ownBlock → wpList P ops Q rest (a.put o.dst v') w') : wpList P ops Q (o :: rest) a w := by
  refine wpList_plain hgd fun K hK => ?_
  obtain ⟨v', w', hr, h2, h3⟩ := run_append_src (P := P) w base t o.type e i z bytes ht hi hz hsize hby hzs v n xs hown A c k ys hr h63 hbytes hbase
  unfold Oper.wp execOp
  simp only [ho, resolve, invoke, builtin, Sem.run_bind, Sem.run_pure, Result.andThen_ok, List.map_toArray, List.map_cons, List.map_nil, hs, hx, hr]
  exact hK _ _ (h v' w' h2 h3)
end
theorem R_far_at {W : World} {base : Nat} {v : Value} {xs : List Int} (h : (Kd.int .u8).R 5 W base (fun _ => True) v xs) {p : Addr} (hp : p.block < base) (u : Value) : (Kd.int .u8).R 5 (W.setCell p u) base (fun _ => True) v xs :=
  Kd.R_mono (Kd.R_step (Kd.R_bound h) (fun k hk _ => Below.heap_setCell W p u k (by have := hk.2.1; omega))) (fun _ _ => trivial)
set_option maxRecDepth 100000 in
set_option maxHeartbeats 4000000 in
theorem messages_calls (A0 : Option Addr) (c0 : Nat) (A1 : Option Addr) (c1 : Nat) (l : List S77) (w : World) (hr0 : Kd.C k77 w A0 l.length l) (hr1 : Kd.C k77 w A1 l.length l) :
    Calls Try.prog 47 #[.slice A0 l.length c0, .slice A1 l.length c1] w fun e w' => e = .returned (.bool true) ∧ Drawn0 w w' := by
  have hu77 := Try.underlying77
  have HR0 := hid hr0
  have HR1 := hid hr1
  have hl : l.length ≤ 9223372036854775807 := by have h1 := hr0.1; have h2 := hr0.2.1; omega
  clear hr0 hr1
  go_enter Try.func47, Try.ntmps47
  go_wp2
  go_loopw [13] (fun i wr => ∃ k : Nat, k ≤ l.length ∧ i = .int .i64 k ∧ Hid (Drawn0 w wr)) (fun v _ => l.length - (intOf v).toNat)
  case atStart => exact ⟨0, Nat.zero_le _, rfl, hid (Drawn0.refl _)⟩
  case round =>
    obtain ⟨k, hk, rfl, HD⟩ := hrel
    by_cases hlt : k < l.length
    · obtain ⟨m, rfl⟩ := HD.out
      clear HD
      have K0 := Kd.C_drewN HR0.out m
      have K1 := Kd.C_drewN HR1.out m
      obtain ⟨wd, hwd⟩ : ∃ wd : World, wd = w.drewN m := ⟨_, rfl⟩
      rw [← hwd] at K0 K1 ⊢
      obtain ⟨ad, A2, c2, rfl, h0, h1, h2, hl2, hi2⟩ := at_T77 K0 (k : Int) (by omega) (by omega)
      obtain ⟨bd, B2, d2, rfl, g0, g1, g2, gl2, gi2⟩ := at_T77 K1 (k : Int) (by omega) (by omega)
      clear K0 K1
      have HWD := hid hwd
      clear hwd
      rw [Int.toNat_natCast] at h0 h1 h2 g0 g1 g2
      have hcv := fun n => Kd.C_string (P := Try.prog) (A := A2) (c := c2) Try.underlying75 Try.underlying5 Try.underlying9 (Kd.C_drewN hi2 n)
      have gcv := fun n => Kd.C_string (P := Try.prog) (A := B2) (c := d2) Try.underlying75 Try.underlying5 Try.underlying9 (Kd.C_drewN gi2 n)
      have hq : (k : Int).toNat = k := Int.toNat_natCast k
      clear hl2 gl2 hi2 gi2
      go_wp2
      go_quiet (fail)
      go_wp2
      go_roundw
      case rel => exact ⟨k + 1, by omega, by go_num, hid (by rw [HWD.out]; exact ⟨_, World.drewN_drewN _ _ _⟩)⟩
      case measure => simp [intOf]; omega
    · obtain rfl : k = l.length := by omega
      go_wp2
      go_ret
      exact ⟨rfl, HD.out⟩
theorem wholeG_bad (l : List S93) (i : Nat) (h : i < l.length) (hb : FL.okAt l (rd_T93 l 0) i l[i] = false) : FL.wholeG l = (0, false, [], false) := by
  have hj : FL.joinedB l = false := by
    unfold FL.joinedB
    rw [decide_eq_false (show ¬ ∀ j (h : j < l.length), FL.okAt l (rd_T93 l 0) j l[j] = true from fun hall => by rw [hall i h] at hb; cases hb), Bool.and_false]
  unfold FL.wholeG FL.wholeR
  rw [hj]
  rfl
theorem wholeG_end (l : List S93) (h0 : 0 < l.length) (hall : ∀ j (h : j < l.length), FL.okAt l (rd_T93 l 0) j l[j] = true) : FL.wholeG l = if goodB (wrap64 (rd_T93 l 0).f1) (FL.texts l).length = true then (wrap64 (rd_T93 l 0).f1, (rd_T93 l 0).f5, FL.texts l, true) else (0, false, [], false) := by
  have hj : FL.joinedB l = true := by
    unfold FL.joinedB
    rw [decide_eq_true h0, decide_eq_true hall]
    rfl
  unfold FL.wholeG FL.wholeR
  rw [hj, Bool.true_and]
  by_cases hg : goodB (wrap64 (rd_T93 l 0).f1) (FL.texts l).length = true
  · rw [if_pos hg, if_pos hg]
  · rw [if_neg hg, if_neg hg]
theorem C_lenN {w : World} {A : Option Addr} {n : Nat} {l : List Int} (h : (Kd.int .u8).C w A n l) : n ≤ 9223372036854775807 := h.2.1
theorem R_nil8 (w : World) (b : Nat) : (Kd.int .u8).R 5 w b (fun _ => True) (.slice none 0 0) [] := Kd.R_nil _ _ _ _ _
set_option maxRecDepth 100000 in
set_option maxHeartbeats 8000000 in
theorem refwhole_calls (A : Option Addr) (c : Nat) (l : List S93) (w : World) (hr : Kd.C k93 w A l.length l) (hc : l.length ≤ c) (hl : l.length ≤ 1000) (hrg : 0 < l.length → 0 ≤ (rd_T93 l 0).f0 ∧ (rd_T93 l 0).f0 < 4294967296) :
    Calls Try.prog 49 #[.slice A l.length c] w fun e w' => ∃ v2, e = .returned (.tuple #[.agg #[.int .i64 (FL.wholeG l).1, .bool (FL.wholeG l).2.1, v2], .bool (FL.wholeG l).2.2.2]) ∧ Kd.R (Kd.int .u8) 5 w' w.heap.size (fun _ => True) v2 (FL.wholeG l).2.2.1 ∧ Below w.heap.size w w' := by
  have hu93 := Try.underlying93
  have hu77 := Try.underlying77
  obtain ⟨i0, hi0, hz⟩ := Option.map_eq_some_iff.1 info5
  simp only [Prod.mk.injEq] at hz
  obtain ⟨hz0, hz1, hz2⟩ := hz
  have I5 := hid (And.intro hi0 (And.intro hz0 (And.intro hz1 hz2)))
  clear hi0 hz0 hz1 hz2
  have HR := hid hr
  have HG := hid hrg
  clear hr hrg
  go_enter Try.func49, Try.ntmps49
  go_wp2
  obtain ⟨w0, hw0⟩ : ∃ w0 : World, w0 = (w.alloc (.cells #[.int .i64 0, .bool false, .slice none 0 0] 77)).alloc (.cells #[.int .i64 0, .bool false, .slice none 0 0] 77) := ⟨_, rfl⟩
  rw [← hw0]
  have K2 : Hid (w0.heap[w.heap.size]? = some (.cells #[.int .i64 0, .bool false, .slice none 0 0] 77 (0, 0))) := hid (by rw [hw0]; exact blk_alloc (blk_new _ _) _)
  have K4 : Hid (w0.heap[w.heap.size + 1]? = some (.cells #[.int .i64 0, .bool false, .slice none 0 0] 77 (0, 0))) := hid (by rw [hw0]; have := blk_new (w.alloc (.cells #[.int .i64 0, .bool false, .slice none 0 0] 77)) (.cells #[.int .i64 0, .bool false, .slice none 0 0] 77); rwa [show (w.alloc (.cells #[.int .i64 0, .bool false, .slice none 0 0] 77)).heap.size = w.heap.size + 1 by simp] at this)
  have HB : Hid (Below w.heap.size w w0) := hid (by rw [hw0]; exact ((Below.refl _ w).alloc (Nat.le_refl _) _).alloc (by simp) _)
  clear hw0
  go_loopw [5] (fun v5 wx => ∃ (i : Nat) (st : Int) (un : Bool) (Av : Option Addr) (cv : Nat), i ≤ l.length ∧ v5 = .int .i64 i ∧ Hid (∀ j (h : j < l.length), j < i → FL.okAt l (rd_T93 l 0) j l[j] = true) ∧ Hid (0 < i → st = wrap64 (rd_T93 l 0).f1 ∧ un = (rd_T93 l 0).f5) ∧ Hid (wx.heap[w.heap.size]? = some (.cells #[.int .i64 0, .bool false, .slice none 0 0] 77 (0, 0))) ∧ Hid (wx.heap[w.heap.size + 1]? = some (.cells #[.int .i64 st, .bool un, .slice Av (FL.texts (l.take i)).length cv] 77 (0, 0))) ∧ Hid ((Kd.int .u8).R 5 wx (w.heap.size + 2) (fun _ => True) (.slice Av (FL.texts (l.take i)).length cv) (FL.texts (l.take i))) ∧ Hid (Below w.heap.size w wx)) (fun v5 _ => l.length - (intOf v5).toNat)
  case atStart => exact ⟨0, 0, false, none, 0, Nat.zero_le _, rfl, hid (fun j _ h => by omega), hid (fun h => by omega), K2, K4, hid (R_nil8 _ _), HB⟩
  case round =>
    clear K2 K4 HB
    obtain ⟨i, st, un, Av, cv, hi, rfl, hpre, hst, K2, K4, HO, HB⟩ := hrel
    by_cases hlt : i < l.length
    · obtain ⟨ad, A6, c6, rfl, h0, h1, h2, h3, h4, h5, h6, hl6, hi6⟩ := at_T93 HR.out (i : Int) (by omega) (by omega)
      replace h0 := (HB.out.cell (World.block_lt_of_cell? w _ h0)).trans h0
      replace h1 := (HB.out.cell (World.block_lt_of_cell? w _ h1)).trans h1
      replace h2 := (HB.out.cell (World.block_lt_of_cell? w _ h2)).trans h2
      replace h3 := (HB.out.cell (World.block_lt_of_cell? w _ h3)).trans h3
      replace h4 := (HB.out.cell (World.block_lt_of_cell? w _ h4)).trans h4
      replace h5 := (HB.out.cell (World.block_lt_of_cell? w _ h5)).trans h5
      replace h6 := (HB.out.cell (World.block_lt_of_cell? w _ h6)).trans h6
      rw [Int.toNat_natCast] at h0 h1 h2 h3 h4 h5 h6
      rw [FL.rd_nat93 l i hlt] at h0 h1 h2 h3 h4 h5 h6 hl6 hi6
      have hq : (i : Int).toNat = i := Int.toNat_natCast i
      obtain ⟨p, hp⟩ : ∃ p : S93, p = l[i] := ⟨_, rfl⟩
      rw [← hp] at h0 h1 h2 h3 h4 h5 h6 hl6 hi6
      have HP := hid hp
      clear hp
      go_upto_region 6 with (fail)
      obtain ⟨wp, hwp⟩ : ∃ wp : World, wp = wr.alloc (.cells #[.int .u32 p.f0, .int .u16 p.f1, .int .u16 p.f2, .bool p.f3, .bool p.f4, .bool p.f5, .slice A6 p.f6.length c6] 93) := ⟨_, rfl⟩
      obtain ⟨b6, hb6⟩ : ∃ b6, b6 = wr.heap.size := ⟨_, rfl⟩
      rw [← hwp, ← hb6]
      have m : ∀ j, wp.cell? ⟨b6, j, none⟩ = #[Value.int .u32 p.f0, .int .u16 p.f1, .int .u16 p.f2, .bool p.f3, .bool p.f4, .bool p.f5, .slice A6 p.f6.length c6][j]? := fun j => by rw [hwp]; exact cell_new1 _ _ _ _ hb6 j
      have m0 : wp.cell? ⟨b6, 0, none⟩ = some (.int .u32 p.f0) := (m 0).trans rfl
      have m1 : wp.cell? ⟨b6, 1, none⟩ = some (.int .u16 p.f1) := (m 1).trans rfl
      have m2 : wp.cell? ⟨b6, 2, none⟩ = some (.int .u16 p.f2) := (m 2).trans rfl
      have m3 : wp.cell? ⟨b6, 3, none⟩ = some (.bool p.f3) := (m 3).trans rfl
      have m4 : wp.cell? ⟨b6, 4, none⟩ = some (.bool p.f4) := (m 4).trans rfl
      have m5 : wp.cell? ⟨b6, 5, none⟩ = some (.bool p.f5) := (m 5).trans rfl
      have m6 : wp.cell? ⟨b6, 6, none⟩ = some (.slice A6 p.f6.length c6) := (m 6).trans rfl
      have hbp : Below wr.heap.size wr wp := by rw [hwp]; exact (Below.refl _ _).alloc (Nat.le_refl _) _
      have hzp : wp.heap.size = wr.heap.size + 1 := by rw [hwp]; simp
      have HZ := hid (And.intro hb6 (And.intro hzp (And.intro (blk_lt K4.out) trivial)))
      have K2 := hid (blk_below K2.out hbp)
      have K4 := hid (blk_below K4.out hbp)
      have HO := hid (Kd.R_below HO.out hbp)
      have HC6 := hid hi6
      have HL6 := hid (And.intro hl6 (C_lenN hi6))
      have HB := hid (HB.out.trans (hbp.mono HB.out.size))
      obtain ⟨ad0, A60, c60, e00, g0, g1, g2, _, _, g5, _, _, _⟩ := at_T93 (Kd.C_below HR.out HB.out) 0 (by omega) (by omega)
      cases e00
      obtain ⟨z, hz⟩ : ∃ z : S93, z = rd_T93 l 0 := ⟨_, rfl⟩
      rw [← hz] at g0 g1 g2 g5
      have hl0 : (0 : Int) < (l.length : Int) := by omega
      have hl0n : 0 < l.length := by omega
      have ea0 : ad.add 0 = ad := by simp [Addr.add]
      simp only [Int.toNat_zero, Nat.zero_mul, ea0] at g0 g1 g2 g5
      have hok : FL.okAt l (rd_T93 l 0) i l[i] = FL.okAt l z i p := by rw [← hz, ← HP.out]
      have HOK := hid hok
      have HZ0 := hid hz
      have hwl : wrap64 ((l.length : Int) - 1) = (l.length : Int) - 1 := by unfold wrap64; omega
      have HWL := hid hwl
      have n2 : ∀ j, wp.cell? ⟨w.heap.size, j, none⟩ = #[Value.int .i64 0, .bool false, .slice none 0 0][j]? := fun j => cell_of_block K2.out j
      have n20 : wp.cell? ⟨w.heap.size, 0, none⟩ = some (.int .i64 0) := (n2 0).trans rfl
      have n21 : wp.cell? ⟨w.heap.size, 1, none⟩ = some (.bool false) := (n2 1).trans rfl
      have n22 : wp.cell? ⟨w.heap.size, 2, none⟩ = some (.slice none 0 0) := (n2 2).trans rfl
      have f20 : wp.frozen? ⟨w.heap.size, 0, none⟩ = false := unfrozen_of_block K2.out 0
      have f21 : wp.frozen? ⟨w.heap.size, 1, none⟩ = false := unfrozen_of_block K2.out 1
      have f22 : wp.frozen? ⟨w.heap.size, 2, none⟩ = false := unfrozen_of_block K2.out 2
      have k4 : ∀ j, wp.cell? ⟨w.heap.size + 1, j, none⟩ = #[Value.int .i64 st, .bool un, .slice Av (FL.texts (l.take i)).length cv][j]? := fun j => cell_of_block K4.out j
      have n40 : wp.cell? ⟨w.heap.size + 1, 0, none⟩ = some (.int .i64 st) := (k4 0).trans rfl
      have n41 : wp.cell? ⟨w.heap.size + 1, 1, none⟩ = some (.bool un) := (k4 1).trans rfl
      have n42 : wp.cell? ⟨w.heap.size + 1, 2, none⟩ = some (.slice Av (FL.texts (l.take i)).length cv) := (k4 2).trans rfl
      have f40 : wp.frozen? ⟨w.heap.size + 1, 0, none⟩ = false := unfrozen_of_block K4.out 0
      have f41 : wp.frozen? ⟨w.heap.size + 1, 1, none⟩ = false := unfrozen_of_block K4.out 1
      have f42 : wp.frozen? ⟨w.heap.size + 1, 2, none⟩ = false := unfrozen_of_block K4.out 2
      clear k4
      clear h0 h1 h2 h3 h4 h5 h6 hl6 hi6 m hwp hb6 hzp hbp n2 hok hz hwl
      by_cases c3 : p.f3 = ((i : Int) == 0)
      rotate_left
      · skip
        have hG := hid (wholeG_bad l i hlt (by rw [HOK.out]; unfold FL.okAt; rw [show (p.f3 == ((i : Int) == 0)) = false from by simpa using c3]; simp))
        clear hst hpre
        go_wp2
        refine bodyPost_ret (results_ct rfl _ _ w.heap.size 77 #[.int .i64 0, .bool false, .slice none 0 0] (0, 0) _ rfl (by refine blk_put (cs := #[.int .i64 0, .bool false, .slice none 0 0]) ?_ 2 _ rfl; refine blk_put (cs := #[.int .i64 0, .bool false, .slice none 0 0]) ?_ 1 _ rfl; refine blk_put (cs := #[.int .i64 0, .bool false, .slice none 0 0]) ?_ 0 _ rfl; exact K2.out) Try.underlying77 rfl (by kernel_rfl)) rfl ?_
        rw [hG.out]
        exact ⟨.slice none 0 0, rfl, R_nil8 _ _, ((HB.out.setCell (p := ⟨w.heap.size, 0, none⟩) (Nat.le_refl _) _).setCell (p := ⟨w.heap.size, 1, none⟩) (Nat.le_refl _) _).setCell (p := ⟨w.heap.size, 2, none⟩) (Nat.le_refl _) _⟩
      by_cases c4 : p.f4 = ((i : Int) == (l.length : Int) - 1)
      rotate_left
      · skip
        have hG := hid (wholeG_bad l i hlt (by rw [HOK.out]; unfold FL.okAt; rw [HWL.out, show (p.f4 == ((i : Int) == (l.length : Int) - 1)) = false from by simpa using c4]; simp))
        clear hst hpre
        go_wp2
        refine bodyPost_ret (results_ct rfl _ _ w.heap.size 77 #[.int .i64 0, .bool false, .slice none 0 0] (0, 0) _ rfl (by refine blk_put (cs := #[.int .i64 0, .bool false, .slice none 0 0]) ?_ 2 _ rfl; refine blk_put (cs := #[.int .i64 0, .bool false, .slice none 0 0]) ?_ 1 _ rfl; refine blk_put (cs := #[.int .i64 0, .bool false, .slice none 0 0]) ?_ 0 _ rfl; exact K2.out) Try.underlying77 rfl (by kernel_rfl)) rfl ?_
        rw [hG.out]
        exact ⟨.slice none 0 0, rfl, R_nil8 _ _, ((HB.out.setCell (p := ⟨w.heap.size, 0, none⟩) (Nat.le_refl _) _).setCell (p := ⟨w.heap.size, 1, none⟩) (Nat.le_refl _) _).setCell (p := ⟨w.heap.size, 2, none⟩) (Nat.le_refl _) _⟩
      by_cases c5 : (1 : Int) ≤ (p.f6.length : Int)
      rotate_left
      · skip
        have hG := hid (wholeG_bad l i hlt (by rw [HOK.out]; unfold FL.okAt; rw [show withinB (p.f6.length : Int) 1 64 = false from by unfold withinB; rw [decide_eq_false c5]; rfl]; simp))
        clear hst hpre
        go_wp2
        refine bodyPost_ret (results_ct rfl _ _ w.heap.size 77 #[.int .i64 0, .bool false, .slice none 0 0] (0, 0) _ rfl (by refine blk_put (cs := #[.int .i64 0, .bool false, .slice none 0 0]) ?_ 2 _ rfl; refine blk_put (cs := #[.int .i64 0, .bool false, .slice none 0 0]) ?_ 1 _ rfl; refine blk_put (cs := #[.int .i64 0, .bool false, .slice none 0 0]) ?_ 0 _ rfl; exact K2.out) Try.underlying77 rfl (by kernel_rfl)) rfl ?_
        rw [hG.out]
        exact ⟨.slice none 0 0, rfl, R_nil8 _ _, ((HB.out.setCell (p := ⟨w.heap.size, 0, none⟩) (Nat.le_refl _) _).setCell (p := ⟨w.heap.size, 1, none⟩) (Nat.le_refl _) _).setCell (p := ⟨w.heap.size, 2, none⟩) (Nat.le_refl _) _⟩
      by_cases c6 : (p.f6.length : Int) ≤ 64
      rotate_left
      · skip
        have hG := hid (wholeG_bad l i hlt (by rw [HOK.out]; unfold FL.okAt; rw [show withinB (p.f6.length : Int) 1 64 = false from by unfold withinB; rw [decide_eq_false c6, Bool.and_false]]; simp))
        clear hst hpre
        go_wp2
        refine bodyPost_ret (results_ct rfl _ _ w.heap.size 77 #[.int .i64 0, .bool false, .slice none 0 0] (0, 0) _ rfl (by refine blk_put (cs := #[.int .i64 0, .bool false, .slice none 0 0]) ?_ 2 _ rfl; refine blk_put (cs := #[.int .i64 0, .bool false, .slice none 0 0]) ?_ 1 _ rfl; refine blk_put (cs := #[.int .i64 0, .bool false, .slice none 0 0]) ?_ 0 _ rfl; exact K2.out) Try.underlying77 rfl (by kernel_rfl)) rfl ?_
        rw [hG.out]
        exact ⟨.slice none 0 0, rfl, R_nil8 _ _, ((HB.out.setCell (p := ⟨w.heap.size, 0, none⟩) (Nat.le_refl _) _).setCell (p := ⟨w.heap.size, 1, none⟩) (Nat.le_refl _) _).setCell (p := ⟨w.heap.size, 2, none⟩) (Nat.le_refl _) _⟩
      go_upto_region 8 with (fail)
      have C36 := hid (And.intro c3 (And.intro c4 (And.intro c5 c6)))
      clear c3 c4 c5 c6
      by_cases d0 : p.f0 = (z.f0 + (i : Int) % 4294967296) % 4294967296
      rotate_left
      · skip
        have d0q : ¬ p.f0 = (z.f0 + (i : Int)) % 4294967296 := by omega
        have d0b : (p.f0 == (z.f0 + (i : Int)) % 4294967296) = false := by simpa using d0q
        have d0c : (p.f0 != (z.f0 + (i : Int)) % 4294967296) = true := by simpa using d0q
        have hG := hid (wholeG_bad l i hlt (by rw [HOK.out]; unfold FL.okAt; rw [decide_eq_false d0]; simp))
        clear hst hpre
        go_quiet (fail)
        go_wp2
        refine bodyPost_ret (results_ct rfl _ _ w.heap.size 77 #[.int .i64 0, .bool false, .slice none 0 0] (0, 0) _ rfl (by refine blk_put (cs := #[.int .i64 0, .bool false, .slice none 0 0]) ?_ 2 _ rfl; refine blk_put (cs := #[.int .i64 0, .bool false, .slice none 0 0]) ?_ 1 _ rfl; refine blk_put (cs := #[.int .i64 0, .bool false, .slice none 0 0]) ?_ 0 _ rfl; exact blk_drewN K2.out _) Try.underlying77 rfl (by kernel_rfl)) rfl ?_
        rw [hG.out]
        exact ⟨.slice none 0 0, rfl, R_nil8 _ _, (((pw_below_drewN HB.out _).setCell (p := ⟨w.heap.size, 0, none⟩) (Nat.le_refl _) _).setCell (p := ⟨w.heap.size, 1, none⟩) (Nat.le_refl _) _).setCell (p := ⟨w.heap.size, 2, none⟩) (Nat.le_refl _) _⟩
      have d0q : p.f0 = (z.f0 + (i : Int)) % 4294967296 := by omega
      have d0p0 : (p.f0 == (z.f0 + (i : Int) % 4294967296) % 4294967296) = true := beq_iff_eq.mpr d0
      have d0n0 : (p.f0 != (z.f0 + (i : Int) % 4294967296) % 4294967296) = false := bne_eq_false_iff_eq.mpr d0
      have d0d0 : decide (p.f0 = (z.f0 + (i : Int) % 4294967296) % 4294967296) = true := decide_eq_true d0
      have d0p1 : (p.f0 == (z.f0 + (i : Int)) % 4294967296) = true := beq_iff_eq.mpr d0q
      have d0n1 : (p.f0 != (z.f0 + (i : Int)) % 4294967296) = false := bne_eq_false_iff_eq.mpr d0q
      have d0d1 : decide (p.f0 = (z.f0 + (i : Int)) % 4294967296) = true := decide_eq_true d0q
      have D0 := hid d0
      clear d0 d0q
      by_cases d1 : p.f1 = z.f1
      rotate_left
      · skip
        have d1b : (p.f1 == z.f1) = false := by simpa using d1
        have d1c : (p.f1 != z.f1) = true := by simpa using d1
        have hG := hid (wholeG_bad l i hlt (by rw [HOK.out]; unfold FL.okAt; rw [decide_eq_false d1]; simp))
        clear hst hpre
        go_quiet (fail)
        go_wp2
        refine bodyPost_ret (results_ct rfl _ _ w.heap.size 77 #[.int .i64 0, .bool false, .slice none 0 0] (0, 0) _ rfl (by refine blk_put (cs := #[.int .i64 0, .bool false, .slice none 0 0]) ?_ 2 _ rfl; refine blk_put (cs := #[.int .i64 0, .bool false, .slice none 0 0]) ?_ 1 _ rfl; refine blk_put (cs := #[.int .i64 0, .bool false, .slice none 0 0]) ?_ 0 _ rfl; exact blk_drewN K2.out _) Try.underlying77 rfl (by kernel_rfl)) rfl ?_
        rw [hG.out]
        exact ⟨.slice none 0 0, rfl, R_nil8 _ _, (((pw_below_drewN HB.out _).setCell (p := ⟨w.heap.size, 0, none⟩) (Nat.le_refl _) _).setCell (p := ⟨w.heap.size, 1, none⟩) (Nat.le_refl _) _).setCell (p := ⟨w.heap.size, 2, none⟩) (Nat.le_refl _) _⟩
      have d1p0 : (p.f1 == z.f1) = true := beq_iff_eq.mpr d1
      have d1n0 : (p.f1 != z.f1) = false := bne_eq_false_iff_eq.mpr d1
      have d1d0 : decide (p.f1 = z.f1) = true := decide_eq_true d1
      have D1 := hid d1
      clear d1
      by_cases d2 : p.f2 = z.f2
      rotate_left
      · skip
        have d2b : (p.f2 == z.f2) = false := by simpa using d2
        have d2c : (p.f2 != z.f2) = true := by simpa using d2
        have hG := hid (wholeG_bad l i hlt (by rw [HOK.out]; unfold FL.okAt; rw [decide_eq_false d2]; simp))
        clear hst hpre
        go_quiet (fail)
        go_wp2
        refine bodyPost_ret (results_ct rfl _ _ w.heap.size 77 #[.int .i64 0, .bool false, .slice none 0 0] (0, 0) _ rfl (by refine blk_put (cs := #[.int .i64 0, .bool false, .slice none 0 0]) ?_ 2 _ rfl; refine blk_put (cs := #[.int .i64 0, .bool false, .slice none 0 0]) ?_ 1 _ rfl; refine blk_put (cs := #[.int .i64 0, .bool false, .slice none 0 0]) ?_ 0 _ rfl; exact blk_drewN K2.out _) Try.underlying77 rfl (by kernel_rfl)) rfl ?_
        rw [hG.out]
        exact ⟨.slice none 0 0, rfl, R_nil8 _ _, (((pw_below_drewN HB.out _).setCell (p := ⟨w.heap.size, 0, none⟩) (Nat.le_refl _) _).setCell (p := ⟨w.heap.size, 1, none⟩) (Nat.le_refl _) _).setCell (p := ⟨w.heap.size, 2, none⟩) (Nat.le_refl _) _⟩
      have d2p0 : (p.f2 == z.f2) = true := beq_iff_eq.mpr d2
      have d2n0 : (p.f2 != z.f2) = false := bne_eq_false_iff_eq.mpr d2
      have d2d0 : decide (p.f2 = z.f2) = true := decide_eq_true d2
      have D2 := hid d2
      clear d2
      by_cases d5 : p.f5 = z.f5
      rotate_left
      · skip
        have d5b : (p.f5 == z.f5) = false := by simpa using d5
        have d5c : (p.f5 != z.f5) = true := by simpa using d5
        have d5d : (!p.f5 == z.f5) = true := by simpa using d5
        have hG := hid (wholeG_bad l i hlt (by rw [HOK.out]; unfold FL.okAt; rw [show (p.f5 == z.f5) = false from by simpa using d5]; simp))
        clear hst hpre
        go_quiet (fail)
        go_wp2
        refine bodyPost_ret (results_ct rfl _ _ w.heap.size 77 #[.int .i64 0, .bool false, .slice none 0 0] (0, 0) _ rfl (by refine blk_put (cs := #[.int .i64 0, .bool false, .slice none 0 0]) ?_ 2 _ rfl; refine blk_put (cs := #[.int .i64 0, .bool false, .slice none 0 0]) ?_ 1 _ rfl; refine blk_put (cs := #[.int .i64 0, .bool false, .slice none 0 0]) ?_ 0 _ rfl; exact blk_drewN K2.out _) Try.underlying77 rfl (by kernel_rfl)) rfl ?_
        rw [hG.out]
        exact ⟨.slice none 0 0, rfl, R_nil8 _ _, (((pw_below_drewN HB.out _).setCell (p := ⟨w.heap.size, 0, none⟩) (Nat.le_refl _) _).setCell (p := ⟨w.heap.size, 1, none⟩) (Nat.le_refl _) _).setCell (p := ⟨w.heap.size, 2, none⟩) (Nat.le_refl _) _⟩
      have d5p0 : (p.f5 == z.f5) = true := beq_iff_eq.mpr d5
      have d5n0 : (p.f5 != z.f5) = false := bne_eq_false_iff_eq.mpr d5
      have d5d0 : decide (p.f5 = z.f5) = true := decide_eq_true d5
      have D5 := hid d5
      clear d5
      go_quiet (fail)
      go_upto_region 12 with (fail)
      clear d0p0 d0n0 d0d0 d0p1 d0n1 d0d1 d1p0 d1n0 d1d0 d2p0 d2n0 d2d0 d5p0 d5n0 d5d0 g0 g1 g2 g5 m0 m1 m2 m3 m4 m5 n20 n21 n22 f20 f21 f22 n40 n41 n42 f40 f41 f42
      obtain ⟨wq, hwq⟩ : ∃ wq : World, wq = ((wp.drewN nq).setCell ⟨w.heap.size + 1, 0, none⟩ (.int .i64 (wrap64 p.f1))).setCell ⟨w.heap.size + 1, 1, none⟩ (.bool p.f5) := ⟨_, rfl⟩
      rw [← hwq]
      have hne : b6 ≠ w.heap.size + 1 := by have h1 := HZ.out.1; have h2 := HZ.out.2.2.1; omega
      have K4 := hid (show wq.heap[w.heap.size + 1]? = some (.cells #[.int .i64 (wrap64 p.f1), .bool p.f5, .slice Av (FL.texts (l.take i)).length cv] 77 (0, 0)) by rw [hwq]; exact blk_put (cs := #[.int .i64 (wrap64 p.f1), .bool un, .slice Av (FL.texts (l.take i)).length cv]) (blk_put (cs := #[.int .i64 st, .bool un, .slice Av (FL.texts (l.take i)).length cv]) (blk_drewN K4.out _) 0 _ rfl) 1 _ rfl)
      have K2 := hid (show wq.heap[w.heap.size]? = some (.cells #[.int .i64 0, .bool false, .slice none 0 0] 77 (0, 0)) by rw [hwq]; exact blk_far (blk_far (blk_drewN K2.out _) (by simp) _) (by simp) _)
      have m6 : wq.cell? ⟨b6, 6, none⟩ = some (.slice A6 p.f6.length c6) := by
        rw [hwq, World.cell?_setCell_other _ _ _ _ (fun e => hne (congrArg Addr.block e).symm), World.cell?_setCell_other _ _ _ _ (fun e => hne (congrArg Addr.block e).symm)]
        exact m6
      have HO := hid (show (Kd.int .u8).R 5 wq (w.heap.size + 2) (fun _ => True) (.slice Av (FL.texts (l.take i)).length cv) (FL.texts (l.take i)) by rw [hwq]; exact R_far_at (R_far_at (Kd.R_drewN HO.out _) (by simp) _) (by simp) _)
      have HB := hid (show Below w.heap.size w wq by rw [hwq]; exact ((pw_below_drewN HB.out _).setCell (p := ⟨w.heap.size + 1, 0, none⟩) (by simp) _).setCell (p := ⟨w.heap.size + 1, 1, none⟩) (by simp) _)
      have n42 : wq.cell? ⟨w.heap.size + 1, 2, none⟩ = some (.slice Av (FL.texts (l.take i)).length cv) := (cell_of_block K4.out 2).trans rfl
      have zq : w.heap.size + 2 ≤ wq.heap.size := by have := blk_lt K4.out; omega
      have hC6 := hid (Kd.C_below HC6.out HB.out)
      have hs64 := C36.out.2.2.2
      have hts : (FL.texts (l.take i)).length ≤ 64 * i := by
        have := FL.texts_len (l.take i) 64 (fun q hq => by
          obtain ⟨j, hj, rfl⟩ := List.mem_iff_getElem.1 hq
          rw [List.length_take] at hj
          rw [List.getElem_take]
          exact FL.okAt_short (hpre.out j (by omega) (by omega)))
        rw [List.length_take] at this
        omega
      clear hwq
      go_wp2_with (at_builtin; refine wpList_append_src _ rfl _ _ 75 rfl (w.heap.size + 2) 5 i0 (.int .u8 0) 1 Try.underlying75 I5.out.1 I5.out.2.1 I5.out.2.2.1 I5.out.2.2.2 rfl _ _ _ rfl (Kd.own_of_R HO.out) A6 c6 .u8 p.f6 rfl hC6.out ?c1 ?c2 ?c3 ?_)
      case c1 => simp only [maxLen]; omega
      case c2 => omega
      case c3 => exact zq
      intro v' w' hown' hg'
      have hR' : (Kd.int .u8).R 5 w' (w.heap.size + 2) (fun _ => True) v' (FL.texts (l.take (i + 1))) := by
        rw [FL.texts_snoc l i hlt, ← HP.out]
        apply R_of
        rw [List.length_append, List.map_append]
        exact hown'
      obtain ⟨a', c', rfl, hc'⟩ := slice_of_row hown'
      have hN : (FL.texts (l.take (i + 1))).length = (FL.texts (l.take i)).length + p.f6.length := by rw [FL.texts_snoc l i hlt, ← HP.out, List.length_append]
      have hrow : ∀ k, (Value.slice Av (FL.texts (l.take i)).length cv).ownBlock = some k → w.heap.size + 2 ≤ k := fun k hk => Kd.R_base HO.out k hk
      have K4 := hid ((hg'.block (w.heap.size + 1) (by omega) (fun e => by have := hrow _ e.symm; omega)).trans K4.out)
      have K2 := hid ((hg'.block w.heap.size (by omega) (fun e => by have := hrow _ e.symm; omega)).trans K2.out)
      have HB := hid (HB.out.grown hg' HB.out.size (fun k hk => by have := hrow k hk; omega))
      have n42 : w'.cell? ⟨w.heap.size + 1, 2, none⟩ = some (.slice Av (FL.texts (l.take i)).length cv) := (cell_of_block K4.out 2).trans rfl
      have f42 : w'.frozen? ⟨w.heap.size + 1, 2, none⟩ = false := unfrozen_of_block K4.out 2
      rw [← hN] at hR' ⊢
      have HR' := hid hR'
      have HN := hid hN
      clear hR' hN hrow hown' hg' m6 hc'
      go_wp2
      go_roundw
      case rel => exact ⟨i + 1, wrap64 p.f1, p.f5, a', c', by omega, by go_num, hid (fun j hj hji => by
          rcases Nat.lt_or_ge j i with h | h
          · exact hpre.out j hj h
          · obtain rfl : j = i := by omega
            rw [HOK.out]
            unfold FL.okAt
            have c3 := C36.out.1
            have c4 := C36.out.2.1
            rw [HWL.out, show (p.f3 == ((j : Int) == 0)) = true from by simpa using c3, show (p.f4 == ((j : Int) == (l.length : Int) - 1)) = true from by simpa using c4, show withinB (p.f6.length : Int) 1 64 = true from by unfold withinB; rw [decide_eq_true C36.out.2.2.1, decide_eq_true C36.out.2.2.2]; rfl, decide_eq_true D0.out, decide_eq_true D1.out, decide_eq_true D2.out, beq_iff_eq.mpr D5.out]
            rfl), hid (fun _ => ⟨by rw [← HZ0.out, D1.out], by rw [← HZ0.out, D5.out]⟩), hid (blk_far K2.out (by simp) _), hid (blk_put (cs := #[.int .i64 (wrap64 p.f1), .bool p.f5, .slice Av (FL.texts (l.take i)).length cv]) K4.out 2 _ rfl), hid (R_far_at HR'.out (by simp) _), hid (HB.out.setCell (p := ⟨w.heap.size + 1, 2, none⟩) (by simp) _)⟩
      case measure => simp [intOf]; omega
    · obtain rfl : i = l.length := by omega
      rw [List.take_of_length_le (Nat.le_refl _)] at K4 HO
      have n40 : wr.cell? ⟨w.heap.size + 1, 0, none⟩ = some (.int .i64 st) := (cell_of_block K4.out 0).trans rfl
      have n41 : wr.cell? ⟨w.heap.size + 1, 1, none⟩ = some (.bool un) := (cell_of_block K4.out 1).trans rfl
      have n42 : wr.cell? ⟨w.heap.size + 1, 2, none⟩ = some (.slice Av (FL.texts l).length cv) := (cell_of_block K4.out 2).trans rfl
      have hrd := Kd.R_reads' HO.out
      go_wp2_with (go_at_call 41; refine (weftlineref16_Good.calls st un Av cv (FL.texts l) _ _ hrd.2.2 hrd.2.1 (FL.good_ref st un (FL.texts l))).mono ?_)
      intro e w5 he hb5
      subst he
      have K2 := hid (blk_below K2.out hb5)
      have K4 := hid (blk_below K4.out hb5)
      have HO := hid (Kd.R_below HO.out hb5)
      have HB := hid (HB.out.trans (hb5.mono HB.out.size))
      have n40 : w5.cell? ⟨w.heap.size + 1, 0, none⟩ = some (.int .i64 st) := (cell_of_block K4.out 0).trans rfl
      have n41 : w5.cell? ⟨w.heap.size + 1, 1, none⟩ = some (.bool un) := (cell_of_block K4.out 1).trans rfl
      have n42 : w5.cell? ⟨w.heap.size + 1, 2, none⟩ = some (.slice Av (FL.texts l).length cv) := (cell_of_block K4.out 2).trans rfl
      have n20 : w5.cell? ⟨w.heap.size, 0, none⟩ = some (.int .i64 0) := (cell_of_block K2.out 0).trans rfl
      have n21 : w5.cell? ⟨w.heap.size, 1, none⟩ = some (.bool false) := (cell_of_block K2.out 1).trans rfl
      have n22 : w5.cell? ⟨w.heap.size, 2, none⟩ = some (.slice none 0 0) := (cell_of_block K2.out 2).trans rfl
      have f20 : w5.frozen? ⟨w.heap.size, 0, none⟩ = false := unfrozen_of_block K2.out 0
      have f21 : w5.frozen? ⟨w.heap.size, 1, none⟩ = false := unfrozen_of_block K2.out 1
      have f22 : w5.frozen? ⟨w.heap.size, 2, none⟩ = false := unfrozen_of_block K2.out 2
      have hend : Hid (goodB st (FL.texts l).length = true ∧ FL.wholeG l = (st, un, FL.texts l, true) ∨ goodB st (FL.texts l).length = false ∧ FL.wholeG l = (0, false, [], false)) := by
        rcases Nat.eq_zero_or_pos l.length with h0 | h0
        · obtain rfl : l = [] := List.eq_nil_of_length_eq_zero h0
          exact hid (.inr ⟨by unfold goodB; rw [show withinB ((FL.texts []).length : Int) 1 400 = false by decide, Bool.and_false], rfl⟩)
        · obtain ⟨rfl, rfl⟩ := hst.out h0
          have := wholeG_end l h0 (fun j hj => hpre.out j hj hj)
          cases hg : goodB (wrap64 (rd_T93 l 0).f1) (FL.texts l).length with
          | true => exact hid (.inl ⟨rfl, by rw [this, if_pos hg]⟩)
          | false => exact hid (.inr ⟨rfl, by rw [this, if_neg (by rw [hg]; decide)]⟩)
      clear hrd hb5 hst hpre
      rcases hend.out with ⟨hg, hw⟩ | ⟨hg, hw⟩
      · have HW := hid hw
        rw [hg]
        clear hg hw hend
        go_wp2
        refine bodyPost_ret (results_ct rfl _ _ w.heap.size 77 #[.int .i64 st, .bool un, .slice Av (FL.texts l).length cv] (0, 0) _ rfl (by refine blk_put (cs := #[.int .i64 st, .bool un, .slice none 0 0]) ?_ 2 _ rfl; refine blk_put (cs := #[.int .i64 st, .bool false, .slice none 0 0]) ?_ 1 _ rfl; refine blk_put (cs := #[.int .i64 0, .bool false, .slice none 0 0]) ?_ 0 _ rfl; exact K2.out) Try.underlying77 rfl (by kernel_rfl)) rfl ?_
        rw [HW.out]
        exact ⟨.slice Av (FL.texts l).length cv, rfl, Kd.R_lower (R_far_at (R_far_at (R_far_at HO.out (by simp) _) (by simp) _) (by simp) _) (by omega), ((HB.out.setCell (p := ⟨w.heap.size, 0, none⟩) (Nat.le_refl _) _).setCell (p := ⟨w.heap.size, 1, none⟩) (Nat.le_refl _) _).setCell (p := ⟨w.heap.size, 2, none⟩) (Nat.le_refl _) _⟩
      · have HW := hid hw
        rw [hg]
        clear hg hw hend
        go_wp2
        refine bodyPost_ret (results_ct rfl _ _ w.heap.size 77 #[.int .i64 0, .bool false, .slice none 0 0] (0, 0) _ rfl (by refine blk_put (cs := #[.int .i64 0, .bool false, .slice none 0 0]) ?_ 2 _ rfl; refine blk_put (cs := #[.int .i64 0, .bool false, .slice none 0 0]) ?_ 1 _ rfl; refine blk_put (cs := #[.int .i64 0, .bool false, .slice none 0 0]) ?_ 0 _ rfl; exact K2.out) Try.underlying77 rfl (by kernel_rfl)) rfl ?_
        rw [HW.out]
        exact ⟨.slice none 0 0, rfl, R_nil8 _ _, ((HB.out.setCell (p := ⟨w.heap.size, 0, none⟩) (Nat.le_refl _) _).setCell (p := ⟨w.heap.size, 1, none⟩) (Nat.le_refl _) _).setCell (p := ⟨w.heap.size, 2, none⟩) (Nat.le_refl _) _⟩
end Go.Proofs.Ytgbjbmakjilddaa.QFrag
