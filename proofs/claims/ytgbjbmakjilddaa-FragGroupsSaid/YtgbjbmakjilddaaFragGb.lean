import Derived.Test.YtgbjbmakjilddaaFragGa
namespace Go.Proofs.Ytgbjbmakjilddaa.QFrag
open Go.RowKit Go.Proofs.YtgbjbmakjilddaaW.PrintWords Go.Proofs.YtgbjbmakjilddaaW.PrintLast Go.Proofs.YtgbjbmakjilddaaW.PrintMore Go.ChangeShapes Go.WideShapes Go.ChangeAt Go.Shelf
open Base (hid slice_of_row ret_bool cell_new1 cell_old1 froz_new1 froz_old1)
open Go.Joins (cell_of_block unfrozen_of_block)
attribute [local go_sem] Oper.semAt_some
theorem R_otherG {α : Type} {d : Kd α} {e : Nat} {W W' : World} {B : Nat} {ok : Nat → Prop} {v : Value} {xs : List α} {row : Option Nat} (h : Kd.R d e W B ok v xs) (hg : W.grownBy W' row) (hr : ∀ k, row = some k → ∃ o : Obj, W.heap[k]? = some o ∧ o.isCells = false) : Kd.R d e W' B ok v xs :=
  Kd.R_mono (Kd.R_step (Kd.R_bound h) (fun k hk hlt => hg.block k hlt (fun e => by
    obtain ⟨o, ho, hc⟩ := hr k e.symm
    obtain ⟨q, _, cells, hq⟩ := hk.2.2.2
    rw [hq] at ho
    cases ho
    cases hc))) (fun _ h => h.1)
/-- Another row, of other types, was written. -/
theorem R_apartT {α : Type} {d : Kd α} {e t : Nat} {W W' : World} {B : Nat} {ok : Nat → Prop} {v u : Value} {xs : List α} (h : Kd.R d e W B ok v xs) (hu : ∀ k, u.ownBlock = some k → ∃ cells, W.heap[k]? = some (.cells cells t (0, 0))) (ht : ∀ q, q ∈ e :: d.E → q ≠ t) (hg : W.grownBy W' u.ownBlock) : Kd.R d e W' B ok v xs := by
  cases hk : u.ownBlock with
  | none =>
    rw [hk] at hg
    exact Kd.R_grown h hg (fun k _ e => by cases e)
  | some g =>
    rw [hk] at hg
    obtain ⟨cells, hc⟩ := hu g hk
    exact Kd.R_mono (Kd.R_grown (Kd.R_types h hc ht) hg (fun k hk e => by cases e; exact hk.2 rfl)) (fun _ h => h.1)
/-- Of the blocks below n₀ only the four from f on may have changed. -/
structure Sp4 (f n₀ : Nat) (W W' : World) : Prop where
  os : W'.os = W.os
  tape : W'.tape = W.tape
  output : W'.output = W.output
  size : W.heap.size ≤ W'.heap.size
  block : ∀ k, k < n₀ → (k < f ∨ f + 4 ≤ k) → W'.heap[k]? = W.heap[k]?
theorem Sp4.refl (f n₀ : Nat) (W : World) : Sp4 f n₀ W W := ⟨rfl, rfl, rfl, Nat.le_refl _, fun _ _ _ => rfl⟩
theorem Sp4.trans {f n₀ : Nat} {A B C : World} (h : Sp4 f n₀ A B) (k : Sp4 f n₀ B C) : Sp4 f n₀ A C := ⟨k.os.trans h.os, k.tape.trans h.tape, k.output.trans h.output, Nat.le_trans h.size k.size, fun j h1 h2 => (k.block j h1 h2).trans (h.block j h1 h2)⟩
theorem Sp4.of {f n₀ : Nat} {A B : World} {row : Option Nat} (hg : A.grownBy B row) (hn : n₀ ≤ A.heap.size) (hr : ∀ r, row = some r → (f ≤ r ∧ r < f + 4) ∨ n₀ ≤ r) : Sp4 f n₀ A B :=
  ⟨hg.os, hg.tape, hg.output, hg.size, fun k h1 h2 => hg.block k (by omega) (fun e => by have := hr k e.symm; omega)⟩
theorem Sp4.grown {f n₀ : Nat} {W A B : World} {row : Option Nat} (h : Sp4 f n₀ W A) (hg : A.grownBy B row) (hn : n₀ ≤ A.heap.size) (hr : ∀ r, row = some r → (f ≤ r ∧ r < f + 4) ∨ n₀ ≤ r) : Sp4 f n₀ W B := h.trans (Sp4.of hg hn hr)
theorem Sp4.cell {f n₀ : Nat} {W W' : World} (h : Sp4 f n₀ W W') {p : Addr} (h1 : p.block < n₀) (h2 : p.block < f ∨ f + 4 ≤ p.block) : W'.cell? p = W.cell? p := World.cell?_of_block (w := W) (h.block p.block h1 h2)
theorem Sp4.below {f n₀ : Nat} {w W W' : World} (h : Sp4 f n₀ W W') (hb : Below w.heap.size w W) (hf : w.heap.size ≤ f) (hn : w.heap.size ≤ n₀) : Below w.heap.size w W' :=
  ⟨h.os.trans hb.os, h.tape.trans hb.tape, h.output.trans hb.output, Nat.le_trans hb.size h.size, fun k hk => (h.block k (by omega) (.inl (by omega))).trans (hb.block k hk)⟩
theorem Sp4.keep {f n₀ lo : Nat} {W W' : World} (h : Sp4 f n₀ W W') (hlo : f + 4 ≤ lo) : KeepR lo n₀ W W' := ⟨h.size, fun b h1 h2 => h.block b h2 (.inr (by omega))⟩
/-- What the first loop of FragGroups holds. -/
def InvG (f n₀ : Nat) (W0 : World) (pre : List (Value × List S93)) (W : World) : Prop :=
  (∃ v5, W.cell? ⟨f + 1 + 1, 0, none⟩ = some v5 ∧ W.frozen? ⟨f + 1 + 1, 0, none⟩ = false ∧ Kd.R (Kd.int .i64) 3 W f (fun k => k = f ∨ n₀ ≤ k) v5 (pre.map fun x => (x.2.length : Int))) ∧
  (∃ v6, W.cell? ⟨f + 1 + 1 + 1, 0, none⟩ = some v6 ∧ W.frozen? ⟨f + 1 + 1 + 1, 0, none⟩ = false ∧ Kd.R k93 93 W f (fun k => k = f + 1 ∨ n₀ ≤ k) v6 (pre.map (·.2)).flatten) ∧ Sp4 f n₀ W0 W
theorem invG_own (f n₀ : Nat) (W0 : World) (h0 : n₀ ≤ W0.heap.size) (B : Nat) (hB : n₀ ≤ B) : OwnFrom B (InvG f n₀ W0) := by
  rintro pre A W row ⟨⟨v5, h1, h2, h3⟩, ⟨v6, h4, h5, h6⟩, h7⟩ hg hr
  have hr' : ∀ r, row = some r → ∃ o : Obj, A.heap[r]? = some o ∧ o.isCells = false := fun r e => (hr r e).2
  exact ⟨⟨v5, cell_kept h1 hg hr', (frozen_kept h1 hg hr').trans h2, R_otherG h3 hg hr'⟩, ⟨v6, cell_kept h4 hg hr', (frozen_kept h4 hg hr').trans h5, R_otherG h6 hg hr'⟩, h7.grown hg (Nat.le_trans h0 h7.size) (fun r e => .inr (Nat.le_trans hB (hr r e).1))⟩
theorem R_made0 {α : Type} (d : Kd α) (e : Nat) (w : World) {B : Nat} {ok : Nat → Prop} (hB : B ≤ w.heap.size) (hok : ok w.heap.size) : Kd.R d e (w.alloc (.cells #[] e)) B ok (.slice (some ⟨w.heap.size, 0, none⟩) 0 0) [] :=
  ⟨fun k hk => by simp [Value.ownBlock] at hk; rw [← hk]; exact hok, [], World.ownsRow_made w #[] 0 hB (by decide) (by simp), Reps.none _ _⟩
theorem flat_prefix {α : Type} {a b : List (List α)} (h : a <+: b) : a.flatten <+: b.flatten := by
  obtain ⟨c, rfl⟩ := h
  rw [List.flatten_append]
  exact List.prefix_append _ _
theorem grp_le : ∀ (k : Nat) (l : List S93), (grp k l).length ≤ l.length
  | 0, _ => Nat.zero_le _
  | k + 1, l => by
    rw [grp]
    split
    · exact Nat.zero_le _
    · have := firstN_pos l (by omega)
      have h := grp_le k (l.drop (firstN l))
      rw [List.length_drop] at h
      rw [List.length_cons]
      omega
theorem groupsL_le (l : List S93) : (groupsL l).length ≤ l.length := grp_le _ _
theorem grp_pos : ∀ (k : Nat) (l : List S93), ∀ g ∈ grp k l, 0 < g.length
  | 0, _, g, h => by simp [grp] at h
  | k + 1, l, g, h => by
    rw [grp] at h
    split at h
    · simp at h
    · have h1 := firstN_pos l (by omega)
      rcases List.mem_cons.1 h with rfl | h
      · rw [List.length_take]; omega
      · exact grp_pos k _ g h
theorem groupsL_pos (l : List S93) : ∀ g ∈ groupsL l, 0 < g.length := grp_pos _ _
theorem own_some {W : World} {B n : Nat} {e : TypeId} {size : Nat} {v : Value} {xs : List Value} (h : W.ownsRow B e size v n xs) (hn : 0 < n) : ∃ g c, v = .slice (some ⟨g, 0, none⟩) n c ∧ B ≤ g := by
  rcases h.2 with ⟨_, h0⟩ | ⟨g, cap, cur, rfl, hb, _⟩
  · omega
  · exact ⟨g, cap, rfl, hb⟩
theorem stop5 (s : Int) : ∃ st : Nat, 1 ≤ st ∧ st ≤ 5 ∧ wrap64 (1 + wrap64 ((IntKind.u64.wrap s).tmod 5)) = (st : Int) := by
  obtain ⟨x, hx, hx0⟩ : ∃ x, IntKind.u64.wrap s = x ∧ 0 ≤ x := ⟨_, rfl, by simp [IntKind.wrap, IntKind.bits, IntKind.signed]; omega⟩
  rw [hx, Int.tmod_eq_emod_of_nonneg hx0]
  have h1 : 0 ≤ x % 5 := by omega
  have h2 : x % 5 < 5 := by omega
  generalize x % 5 = y at h1 h2
  refine ⟨(1 + y).toNat, by omega, by omega, ?_⟩
  unfold wrap64
  omega
theorem rd_drop (l : List S93) (d : Nat) (j : Int) (hj : 0 ≤ j) : rd_T93 (l.drop d) j = rd_T93 l ((d : Int) + j) := by
  obtain ⟨m, rfl⟩ : ∃ m : Nat, j = m := ⟨j.toNat, by omega⟩
  unfold rd_T93
  rw [show ((d : Int) + (m : Int)).toNat = d + m by omega, Int.toNat_natCast]
  simp [List.getD_eq_getElem?_getD, List.getElem?_drop]
theorem goesOn_drop (l : List S93) (d m : Nat) (hm : 1 ≤ m) : goesOn (l.drop d) m = goesOn l (d + m) := by
  unfold goesOn
  rw [rd_drop l d (m : Int) (by omega), rd_drop l d ((m : Int) - 1) (by omega), show ((d + m : Nat) : Int) = (d : Int) + (m : Int) by omega, show (d : Int) + (m : Int) - 1 = (d : Int) + ((m : Int) - 1) by omega]
/-- One round of the reference's loop. -/
theorem refgroups_step (k : Nat) (l : List S93) (pre : List Int) (m i : Nat) (hi1 : 1 ≤ i) (hi : i < l.length) (hl : l.length ≤ 60) (hp : pre.length ≤ 60) (hm : m ≤ 60) :
    Big.weftlineref16_Groups.l0 (k + 1) l (pre ++ [(m : Int)]) (i : Int) = Big.weftlineref16_Groups.l0 k l (if goesOn l i = true then pre ++ [((m + 1 : Nat) : Int)] else pre ++ [(m : Int)] ++ [1]) ((i + 1 : Nat) : Int) := by
  have hw : wrap64 ((i : Int) - 1) = (i : Int) - 1 := by unfold wrap64; omega
  have hlen : ((pre ++ [(m : Int)]).length : Int) = (pre.length : Int) + 1 := by simp
  have hw2 : wrap64 (((pre.length : Int) + 1) - 1) = (pre.length : Int) := by unfold wrap64; omega
  have hw3 : wrap64 ((m : Int) + 1) = ((m + 1 : Nat) : Int) := by unfold wrap64; omega
  have hrd : rd (pre ++ [(m : Int)]) (pre.length : Int) = (m : Int) := by simp [rd]
  have hset : (pre ++ [(m : Int)]).set (pre.length : Int).toNat ((m + 1 : Nat) : Int) = pre ++ [((m + 1 : Nat) : Int)] := by simp
  have hll : (pre ++ [(m : Int)]).length < 17592186044416 := by simp; omega
  rw [Big.weftlineref16_Groups.l0, if_pos (by omega), if_pos (by omega), if_pos (by omega), hw, if_pos (by omega), if_pos (by omega), FG.wrap_small i (by omega), hlen, hw2, hrd, hw3, hset]
  unfold goesOn
  by_cases h0 : (rd_T93 l (i : Int)).f0 = ((rd_T93 l ((i : Int) - 1)).f0 + 1) % 4294967296
  · rw [if_pos h0, decide_eq_true h0, Bool.true_and]
    cases h3 : (rd_T93 l (i : Int)).f3
    · rw [if_neg (by decide)]
      cases h4 : (rd_T93 l ((i : Int) - 1)).f4
      · rw [if_neg (by decide), if_pos (by omega), if_pos (by omega), if_pos (by rfl)]
      · rw [if_pos rfl, if_pos hll, if_neg (by decide)]
    · rw [if_pos rfl, if_pos hll, if_neg (by simp)]
  · rw [if_neg h0, if_pos hll, decide_eq_false h0, if_neg (by simp)]
theorem refgroups_go (l : List S93) (hl : l.length ≤ 60) : ∀ (k : Nat) (pre : List Int) (d m : Nat), 1 ≤ m → d + m ≤ l.length → l.length - (d + m) < k → pre.length ≤ d → firstN (l.drop d) = runTo (l.drop d) ((l.drop d).length + 1 - m) m →
    Big.weftlineref16_Groups.l0 k l (pre ++ [(m : Int)]) ((d + m : Nat) : Int) = some (pre ++ [(firstN (l.drop d) : Int)] ++ (groupsL (l.drop (d + firstN (l.drop d)))).map fun g => (g.length : Int)) := by
  intro k
  induction k with
  | zero => intro pre d m _ _ h; omega
  | succ k ih =>
    intro pre d m hm hdm hk hp hf
    have hL : (l.drop d).length = l.length - d := List.length_drop
    rcases Nat.lt_or_ge (d + m) l.length with hlt | hge
    · rw [refgroups_step k l pre m (d + m) (by omega) hlt hl (by omega) (by omega)]
      obtain ⟨j, hj⟩ : ∃ j, (l.drop d).length + 1 - m = j + 1 := ⟨(l.drop d).length - m, by omega⟩
      rw [hj, runTo] at hf
      by_cases hg : goesOn l (d + m) = true
      · rw [if_pos hg, show d + m + 1 = d + (m + 1) by omega]
        rw [if_pos ⟨by omega, by rw [goesOn_drop l d m hm]; exact hg⟩] at hf
        exact ih pre d (m + 1) (by omega) (by omega) (by omega) hp (by rw [hf, show (l.drop d).length + 1 - (m + 1) = j by omega])
      · rw [if_neg hg]
        rw [if_neg (fun h => hg (by rw [← goesOn_drop l d m hm]; exact h.2))] at hf
        have hx := ih (pre ++ [(m : Int)]) (d + m) 1 (Nat.le_refl _) (by omega) (by omega) (by simp; omega) (by
          unfold firstN
          rw [if_neg (by rw [List.length_drop]; omega), Nat.add_sub_cancel])
        rw [show ((1 : Nat) : Int) = 1 from rfl] at hx
        rw [hx, hf, groupsL_cons (l.drop (d + m)) (by rw [List.length_drop]; omega), List.drop_drop, List.map_cons, List.length_take, List.length_drop]
        have := (firstN_pos (l.drop (d + m)) (by rw [List.length_drop]; omega)).2
        rw [List.length_drop] at this
        rw [Nat.min_eq_left this]
        simp
    · have hd : d + m = l.length := by omega
      rw [show (l.drop d).length + 1 - m = 0 + 1 by omega, runTo, if_neg (by omega)] at hf
      rw [Big.weftlineref16_Groups.l0, if_neg (by omega), hf, groupsL_nil (l.drop (d + m)) (by rw [List.length_drop]; omega)]
      simp
theorem refgroups_eq (l : List S93) (h : l.length ≤ 60) : Big.weftlineref16_Groups.f 101 l = some ((groupsL l).map fun g => (g.length : Int)) := by
  unfold Big.weftlineref16_Groups.f
  rcases Nat.eq_zero_or_pos l.length with h0 | h0
  · rw [Big.weftlineref16_Groups.l0, if_neg (by omega), groupsL_nil l h0]
    rfl
  · have hx := refgroups_go l h 100 [] 0 1 (Nat.le_refl _) (by omega) (by omega) (by simp) (by
      rw [List.drop_zero]
      unfold firstN
      rw [if_neg (by omega), Nat.add_sub_cancel])
    rw [Big.weftlineref16_Groups.l0, if_pos (by omega), if_neg (by omega), if_pos (by simp)]
    rw [show ([] : List Int) ++ [((1 : Nat) : Int)] = [] ++ [1] from rfl, show ((0 + 1 : Nat) : Int) = wrap64 (0 + 1) by unfold wrap64; omega] at hx
    rw [hx, List.drop_zero, groupsL_cons l h0, List.map_cons, List.length_take, Nat.min_eq_left (firstN_pos l h0).2, Nat.zero_add]
    simp
theorem ints_l0 (l : List Int) (hl : l.length ≤ 60) : ∀ (k i : Nat), i ≤ l.length → l.length - i < k → Big.weftlinenum_Ints.l0 k l l (l.length : Int) (i : Int) = some true := by
  intro k
  induction k with
  | zero => intro i _ h; omega
  | succ k ih =>
    intro i hi hk
    rw [Big.weftlinenum_Ints.l0]
    by_cases h : i < l.length
    · rw [if_pos (by omega), if_pos (by omega), if_pos (by omega), if_pos (by omega), if_pos rfl, FG.wrap_small i (by omega)]
      exact ih (i + 1) (by omega) (by omega)
    · rw [if_neg (by omega)]
theorem ints_self (l : List Int) (hl : l.length ≤ 60) : Big.weftlinenum_Ints.f 101 l l = some true := by
  unfold Big.weftlinenum_Ints.f
  rw [if_pos rfl]
  exact ints_l0 l hl 101 0 (Nat.zero_le _) (by omega)
open It (FW) in
set_option maxRecDepth 100000 in
set_option maxHeartbeats 8000000 in
theorem groups_law (A : Option Addr) (c : Nat) (l : List S93) (s : Int) (w : World) (hr : Kd.C k93 w A l.length l) (hc : l.length ≤ c) (hts : ∀ p ∈ l, p.f6.length ≤ 140737488355328) :
    Calls Try.prog 10 #[.slice A l.length c, .int .i64 s] w fun e w' => e = .returned (.bool true) ∧ Below w.heap.size w w' := by
  obtain ⟨i0, hi, hi0, hi1, hi2⟩ := info_parts info93
  obtain ⟨j0, hj, hj0, hj1, hj2⟩ := info_parts info3
  have f39 : FW.fn 39 := trivial
  have f50 : FW.fn 50 := trivial
  have f73 : FW.fn 73 := trivial
  refine callsIn_wide.1 (show CallsIn FW 9 Try.prog 10 _ w _ from ?_)
  refine callsIn_of_wp_marks Try.func10 rfl trivial ?_ rfl
  simp only [Try.ntmps10, List.size_toArray, List.length_cons, List.length_nil, Nat.reduceAdd, Nat.reduceSub, Array.replicate_succ, Array.replicate_zero, List.push_toArray, List.append_toArray, List.nil_append, List.cons_append]
  have hl63 := hr.2.1
  have HR := hid hr
  have HT := hid hts
  clear hr hts
  by_cases h60 : 60 < l.length
  · gi_wp2_with (gi_at_call 39; refine (callsIn_wide.2 (weftlinelaw16_alive.calls true _ rfl)).mono ?_; rintro e w1 ⟨rfl, hb⟩; have HB := hid hb; clear hb)
    refine ⟨_, results_tmp rfl _ _ _, rfl, ((Below.refl _ w).alloc (Nat.le_refl _) _).trans (HB.out.mono (by simp))⟩
  · have h60' : l.length ≤ 60 := by omega
    clear h60
    have h60 := h60'
    clear h60'
    gi_wp2_with (gi_at_call 39; refine (callsIn_wide.2 (weftlinelaw16_alive.calls true _ rfl)).mono ?_; rintro e w1 ⟨rfl, hb⟩; have HB := hid hb; clear hb)
    obtain ⟨f, hf⟩ : ∃ f, w1.heap.size = f := ⟨_, rfl⟩
    have hwf : w.heap.size + 1 ≤ f := by have := HB.out.size; simp at this; omega
    obtain ⟨W2, hW2⟩ : ∃ W2 : World, W2 = (((w1.alloc (Obj.cells #[] 3)).alloc (Obj.cells #[] 93)).alloc (Obj.cells #[Value.slice (some { block := w1.heap.size, off := 0 }) 0 0] 98)).alloc (Obj.cells #[Value.slice (some { block := w1.heap.size + 1, off := 0 }) 0 0] 80) := ⟨_, rfl⟩
    rw [← hW2]
    rw [hf] at hW2 ⊢
    have z2 : W2.heap.size = f + 4 := by rw [hW2]; simp; omega
    have hB1 : Below w.heap.size w w1 := ((Below.refl _ w).alloc (Nat.le_refl _) _).trans (HB.out.mono (by simp))
    have hB2 : Below w1.heap.size w1 W2 := by
      rw [hW2]
      exact ((((Below.refl _ w1).alloc (Nat.le_refl _) _).alloc (by simp) _).alloc (by simp; omega) _).alloc (by simp; omega) _
    have hB12 : Below w.heap.size w W2 := hB1.trans (hB2.mono (by omega))
    have m3 : W2.cell? ⟨w.heap.size, 0, none⟩ = some (.int .i64 s) := (hB2.cell (p := ⟨w.heap.size, 0, none⟩) (by show w.heap.size < _; omega)).trans ((HB.out.cell (p := ⟨w.heap.size, 0, none⟩) (by simp)).trans (by rw [cell_new1 _ _ _ _ rfl]; rfl))
    have m3f : W2.frozen? ⟨w.heap.size, 0, none⟩ = false := by
      rw [World.frozen?_of_block (hB2.block w.heap.size (by omega)), World.frozen?_of_block (HB.out.block w.heap.size (by simp)), froz_new1 _ _ _ _ rfl]
    have m5 : W2.cell? ⟨f + 1 + 1, 0, none⟩ = some (.slice (some ⟨f, 0, none⟩) 0 0) := by
      rw [hW2, cell_old1 _ _ _ (by simp; omega), cell_new1 _ _ _ _ (by simp; omega)]; rfl
    have m5f : W2.frozen? ⟨f + 1 + 1, 0, none⟩ = false := by
      rw [hW2, froz_old1 _ _ _ (by simp; omega), froz_new1 _ _ _ _ (by simp; omega)]
    have m6 : W2.cell? ⟨f + 1 + 1 + 1, 0, none⟩ = some (.slice (some ⟨f + 1, 0, none⟩) 0 0) := by
      rw [hW2, cell_new1 _ _ _ _ (by simp; omega)]; rfl
    have m6f : W2.frozen? ⟨f + 1 + 1 + 1, 0, none⟩ = false := by
      rw [hW2, froz_new1 _ _ _ _ (by simp; omega)]
    have R5 : ∀ n₀, Kd.R (Kd.int .i64) 3 W2 f (fun k => k = f ∨ n₀ ≤ k) (.slice (some ⟨f, 0, none⟩) 0 0) [] := by
      intro n₀
      rw [hW2]
      refine Kd.R_alloc (Kd.R_alloc (Kd.R_alloc ?_ _) _) _
      have := R_made0 (Kd.int .i64) 3 w1 (B := f) (ok := fun k => k = f ∨ n₀ ≤ k) (by omega) (.inl hf)
      rwa [hf] at this
    have R6 : ∀ n₀, Kd.R k93 93 W2 f (fun k => k = f + 1 ∨ n₀ ≤ k) (.slice (some ⟨f + 1, 0, none⟩) 0 0) [] := by
      intro n₀
      rw [hW2]
      refine Kd.R_alloc (Kd.R_alloc ?_ _) _
      have := R_made0 k93 93 (w1.alloc (.cells #[] 3)) (B := f) (ok := fun k => k = f + 1 ∨ n₀ ≤ k) (by simp; omega) (.inl (by simp; omega))
      rwa [show (w1.alloc (.cells #[] 3)).heap.size = f + 1 by simp; omega] at this
    have hC2 : Kd.C k93 W2 A l.length l := Kd.C_below HR.out hB12
    clear hW2 hB1 hB2
    refine (callsIn_wide.2 (groups_calls A l.length c l rfl W2 hC2 hc (by omega) HT.out)).mono ?_
    rintro e W3 ⟨bo, A', c', rfl, hbo, hbo', hbc, hc', hC3, hB3⟩
    have HB12 := hid hB12
    have HI : InvG f W3.heap.size W3 [] W3 := ⟨⟨_, (hB3.cell (p := ⟨f + 1 + 1, 0, none⟩) (by show f + 1 + 1 < _; omega)).trans m5, (World.frozen?_of_block (hB3.block (f + 1 + 1) (by omega))).trans m5f, Kd.R_below (R5 _) hB3⟩,
      ⟨_, (hB3.cell (p := ⟨f + 1 + 1 + 1, 0, none⟩) (by show f + 1 + 1 + 1 < _; omega)).trans m6, (World.frozen?_of_block (hB3.block (f + 1 + 1 + 1) (by omega))).trans m6f, Kd.R_below (R6 _) hB3⟩, Sp4.refl _ _ _⟩
    have n3 : W3.cell? ⟨w.heap.size, 0, none⟩ = some (.int .i64 s) := (hB3.cell (p := ⟨w.heap.size, 0, none⟩) (by show w.heap.size < _; omega)).trans m3
    have n3f : W3.frozen? ⟨w.heap.size, 0, none⟩ = false := (World.frozen?_of_block (hB3.block w.heap.size (by omega))).trans m3f
    have hB13 := hid (hB12.trans (hB3.mono (by omega)))
    have HC3 := hid hC3
    have HII := hid HI
    have z3 : f + 4 ≤ W3.heap.size := by have := hB3.size; omega
    clear m3 m3f m5 m5f m6 m6f R5 R6 hC2 hB12 hB3 hC3 HI HB12
    gi_wp2
    refine range_pre_law (F := FW) rfl (by decide) (gf := 73) (lb := #[.pointer (some ⟨bo, 0, none⟩)]) rfl f73 (enters_of Try.func73 (by kernel_rfl) rfl)
      (seq73 8 (by decide) bo W2.heap.size A' l c' (by omega) HT.out W3 hbo hbo' hbc hc' HC3.out) yielded_put KeepR.trans (keepR_b (Nat.le_refl _)) (Below.refl _ _) (fun _ => rfl)
      (InvG f W3.heap.size W3) (fun _ _ => False) (invG_own f _ W3 (Nat.le_refl _) _ (Nat.le_refl _)) (fun _ _ _ _ h _ _ => h) HII.out ?a1 ?asg ?body
      (fun W => ∃ pre : List (Value × List S93), pre.map (·.2) = groupsL l ∧ InvG f W3.heap.size W3 pre W) ?hd (fun _ _ _ h => h.elim) ?hend
    case asg =>
      intro lp x W K hK
      gi_wp2
      exact hK
    case hd =>
      rintro ys W hys h
      exact ⟨ys, hys, h⟩
    case body =>
      rintro lp pre ⟨xv, xl⟩ V W ⟨⟨v5, C5, F5, R5⟩, ⟨v6, C6, F6, R6⟩, h7⟩ hVW hlp hlo ⟨hx, hpx⟩
      dsimp only at hx hpx ⊢
      have hro : ∀ r, some lp = some r → ∃ o : Obj, V.heap[r]? = some o ∧ o.isCells = false := by rintro r e; cases e; exact hlo
      have c5 := cell_kept C5 hVW hro
      have f5 := (frozen_kept C5 hVW hro).trans F5
      have c6 := cell_kept C6 hVW hro
      have f6 := (frozen_kept C6 hVW hro).trans F6
      have hnV : W3.heap.size ≤ V.heap.size := h7.size
      have hnW : V.heap.size ≤ W.heap.size := hVW.size
      have hsum : (pre.map (·.2)).flatten.length + xl.length ≤ l.length := by
        have h1 := List.Sublist.length_le (List.IsPrefix.sublist (flat_prefix hpx))
        rw [groupsL_flat] at h1
        simpa using h1
      have hlenp : pre.length ≤ l.length := by
        have h1 := List.IsPrefix.length_le hpx
        have h2 := groupsL_le l
        simp at h1
        omega
      have hxl : 0 < xl.length := groupsL_pos l xl (hpx.subset (by simp))
      have hsp := hid (h7.grown hVW hnV (fun r e => by cases e; exact .inr hlp))
      have hu5 : ∀ k, v5.ownBlock = some k → k < V.heap.size ∧ (k = f ∨ W3.heap.size ≤ k) := fun k hk => ⟨((Kd.R_bound R5).1 k hk).2.2.1, R5.1 k hk⟩
      have hu6 : ∀ k, v6.ownBlock = some k → k < V.heap.size ∧ (k = f + 1 ∨ W3.heap.size ≤ k) := fun k hk => ⟨((Kd.R_bound R6).1 k hk).2.2.1, R6.1 k hk⟩
      have hR5 := hid (R_otherG R5 hVW hro)
      have hR6 := hid (R_otherG R6 hVW hro)
      have HX := hid hx
      have HXo := hx
      obtain ⟨_, in5, o5, r5⟩ := hR5.out
      obtain ⟨_, in6, o6, r6⟩ := hR6.out
      obtain ⟨_, xin, xo, xr⟩ := HXo
      obtain ⟨g, cx, rfl, hgV⟩ := own_some xo hxl
      obtain ⟨A5, d5, rfl, hd5⟩ := slice_of_row o5
      obtain ⟨A6, d6, rfl, hd6⟩ := slice_of_row o6
      obtain ⟨LN, hLN⟩ : ∃ LN : List Int, (pre.map fun x => (x.2.length : Int)) = LN := ⟨_, rfl⟩
      obtain ⟨FF, hFF⟩ : ∃ FF : List S93, (pre.map (·.2)).flatten = FF := ⟨_, rfl⟩
      have hLl : LN.length = pre.length := by rw [← hLN, List.length_map]
      rw [hLN] at o5 c5 r5 hR5 hd5 hu5
      rw [hFF] at o6 c6 r6 hR6 hd6 hsum hu6
      have HO5 : Hid (W.ownsRow f 3 1 (.slice A5 LN.length d5) LN.length in5) := hid o5
      have HO6 : Hid (W.ownsRow f 93 7 (.slice A6 FF.length d6) FF.length in6) := hid o6
      have HXO : Hid (W.ownsRow V.heap.size 93 7 (.slice (some ⟨g, 0, none⟩) xl.length cx) xl.length xin) := hid xo
      have H5 := hid r5
      have H6 := hid r6
      have U5 := hid hu5
      have U6 := hid hu6
      have HV := hid hVW
      have HLL := hid hLl
      have HLN := hid hLN
      have HFF := hid hFF
      have HSUM := hid hsum
      have hLN60 : LN.length ≤ 60 := by omega
      have hFF60 : FF.length + xl.length ≤ 60 := by omega
      have b5 : f + 1 + 1 < W.heap.size := by omega
      have b6 : f + 1 + 1 + 1 < W.heap.size := by omega
      clear C5 C6 F5 F6 R5 R6 h7 hVW hx xo xr o5 o6 r5 r6 hu5 hu6 hro hlo hLl hLN hFF hsum
      gi_wp2_with (gi_at_builtin; refine wpListIn_append_own_at _ rfl _ _ 98 rfl f 3 j0 (.int .i64 0) 1 8 Try.underlying98 hj hj0 hj1 hj2 rfl (by decide) _ LN.length in5 rfl ?ho5 ⟨W.heap.size, 0, none⟩ 1 1 [.int .i64 (xl.length : Int)] rfl rfl ?news5 ?one5 ?c35 ?c45 ?c55 ?_)
      case ho5 => exact Base.ownsRow_later HO5.out (below_alloc (Below.refl _ _) _)
      case one5 => simp [Value.oneCell']
      case c35 => unfold maxLen; omega
      case c45 => omega
      case c55 => first | omega | (simp; omega)
      intro v5' W1 own5 hg5 hat5
      obtain ⟨A5', d5', rfl, _⟩ := slice_of_row own5
      obtain ⟨Wa, hWa⟩ : ∃ Wa, Wa = W.alloc (.cells #[.int .i64 (xl.length : Int)] 3) := ⟨_, rfl⟩
      have hBa : Below W.heap.size W Wa := by rw [hWa]; exact below_alloc (Below.refl _ _) _
      have hza : Wa.heap.size = W.heap.size + 1 := by rw [hWa]; simp
      rw [← hWa] at hg5
      have hsz1 := hg5.size
      have a5 := U5.out
      have a6 := U6.out
      have hnV' : W3.heap.size ≤ W.heap.size := by omega
      have ne5 : some (f + 1 + 1) ≠ (Value.slice A5 LN.length d5).ownBlock := fun e => by have := (a5 _ e.symm).2; omega
      have ne6 : some (f + 1 + 1 + 1) ≠ (Value.slice A5 LN.length d5).ownBlock := fun e => by have := (a5 _ e.symm).2; omega
      have c5' : W1.cell? ⟨f + 1 + 1, 0, none⟩ = some (.slice A5 LN.length d5) := (World.cell?_of_block (w := Wa) (hg5.block _ (by show f + 1 + 1 < _; omega) ne5)).trans ((hBa.cell (p := ⟨f + 1 + 1, 0, none⟩) b5).trans c5)
      have f5' : W1.frozen? ⟨f + 1 + 1, 0, none⟩ = false := (World.frozen?_of_block (hg5.block _ (by show f + 1 + 1 < _; omega) ne5)).trans ((World.frozen?_of_block (hBa.block _ b5)).trans f5)
      have c6' : W1.cell? ⟨f + 1 + 1 + 1, 0, none⟩ = some (.slice A6 FF.length d6) := (World.cell?_of_block (w := Wa) (hg5.block _ (by show f + 1 + 1 + 1 < _; omega) ne6)).trans ((hBa.cell (p := ⟨f + 1 + 1 + 1, 0, none⟩) b6).trans c6)
      have f6' : W1.frozen? ⟨f + 1 + 1 + 1, 0, none⟩ = false := (World.frozen?_of_block (hg5.block _ (by show f + 1 + 1 + 1 < _; omega) ne6)).trans ((World.frozen?_of_block (hBa.block _ b6)).trans f6)
      have R5a : Kd.R (Kd.int .i64) 3 W1 f (fun k => k = f ∨ W3.heap.size ≤ k) (.slice A5' (LN.length + 1) d5') (LN ++ [(xl.length : Int)]) :=
        Kd.R_appended (d := Kd.int .i64) (okp := fun _ => False) hR5.out.1 (H5.out.imp_ (fun _ _ hp => Kd.M_below hp hBa)) rfl (fun _ h => h.elim) (fun k hk => .inr (by omega)) own5 hg5 (hat5.imp id fun h => ⟨_, h, by omega⟩)
      have R6a : Kd.R k93 93 W1 f (fun k => k = f + 1 ∨ W3.heap.size ≤ k) (.slice A6 FF.length d6) FF :=
        R_apartT (Kd.R_below hR6.out hBa) (fun k hk => by obtain ⟨cs, h⟩ := Kd.R_typed (Kd.R_below hR5.out hBa) k hk; exact ⟨cs, h⟩) (by decide) hg5
      have RXa : Kd.R k93 93 W1 V.heap.size (fun _ => True) (.slice (some ⟨g, 0, none⟩) xl.length cx) xl :=
        Kd.R_mono (Kd.R_grown (Kd.R_bound (Kd.R_below HX.out hBa)) hg5 (fun k hk e => by have := (a5 k e.symm).1; have := hk.2.1; omega)) (fun _ _ => trivial)
      obtain ⟨Wb, hWb⟩ : ∃ Wb, Wb = W1.setCell ⟨f + 1 + 1, 0, none⟩ (.slice A5' (LN.length + 1) d5') := ⟨_, rfl⟩
      have hzb : Wb.heap.size = W1.heap.size := by rw [hWb]; simp
      have hgb : W1.grownBy Wb (some (f + 1 + 1)) := by rw [hWb]; exact Base_grown _ _ _
      have R5b : Kd.R (Kd.int .i64) 3 Wb f (fun k => k = f ∨ W3.heap.size ≤ k) (.slice A5' (LN.length + 1) d5') (LN ++ [(xl.length : Int)]) := Kd.R_grown R5a hgb (fun k hk e => by cases e; omega)
      have R6b : Kd.R k93 93 Wb f (fun k => k = f + 1 ∨ W3.heap.size ≤ k) (.slice A6 FF.length d6) FF := Kd.R_grown R6a hgb (fun k hk e => by cases e; omega)
      have RXb : Kd.R k93 93 Wb V.heap.size (fun _ => True) (.slice (some ⟨g, 0, none⟩) xl.length cx) xl := Kd.R_mono (Kd.R_grown (Kd.R_bound RXa) hgb (fun k hk e => by cases e; have := hk.2.1; omega)) (fun _ _ => trivial)
      have c5b : Wb.cell? ⟨f + 1 + 1, 0, none⟩ = some (.slice A5' (LN.length + 1) d5') := by rw [hWb]; exact World.cell?_setCell_same' _ _ _ (by rw [c5']; rfl)
      have f5b : Wb.frozen? ⟨f + 1 + 1, 0, none⟩ = false := by rw [hWb, World.frozen?_setCell]; exact f5'
      have c6b : Wb.cell? ⟨f + 1 + 1 + 1, 0, none⟩ = some (.slice A6 FF.length d6) := by rw [hWb, World.cell?_setCell_far _ _ _ _ (show f + 1 + 1 ≠ f + 1 + 1 + 1 by omega)]; exact c6'
      have f6b : Wb.frozen? ⟨f + 1 + 1 + 1, 0, none⟩ = false := by rw [hWb, World.frozen?_setCell]; exact f6'
      obtain ⟨_, jn6, p6, q6⟩ := R6b
      obtain ⟨_, xn, po, pr⟩ := RXb
      have hk1 : KeepsOthers W Wb := ((keeps_below hBa).trans (KeepsOthers.of_grownBy hg5 (fun j o e h => own_cells (Base.ownsRow_later HO5.out hBa) j o e h))).trans (by rw [hWb]; exact KeepsOthers.setCell _ _ _)
      have hs1 : Sp4 f W3.heap.size W Wb := ((Sp4.of (below_grown0 hBa) (by omega) (fun r e => by cases e)).grown hg5 (by omega) (fun r e => by have := a5 r e; omega)).grown hgb (by omega) (fun r e => by cases e; omega)
      have P6 : Hid (Wb.ownsRow f 93 7 (.slice A6 FF.length d6) FF.length jn6) := hid p6
      have PX : Hid (Wb.ownsRow V.heap.size 93 7 (.slice (some ⟨g, 0, none⟩) xl.length cx) xl.length xn) := hid po
      have hxn : xn.length = xl.length * 7 := pr.1
      have PXR := hid pr
      have Q6 := hid q6
      have E1 := hid (And.intro R5b (And.intro R6a (And.intro c5b (And.intro f5b (And.intro c6b (And.intro f6b (And.intro hk1 hs1)))))))
      have HGB := hid hgb
      have HG5 := hid hg5
      have HWB := hid hWb
      clear R5a R6a RXa R5b c5b f5b c6b f6b hk1 hs1 hgb hg5 hat5 own5 q6 p6 po pr hWa hBa ne5 ne6
      gi_wp2_with (gi_at_builtin; rw [← HWB.out]; refine wpListIn_append_own_at _ rfl _ _ 80 rfl f 93 i0 (.agg #[(.int .u32 0), (.int .u16 0), (.int .u16 0), (.bool false), (.bool false), (.bool false), (.slice none 0 0)]) 7 40 Try.underlying80 hi hi0 hi1 hi2 rfl (by decide) _ FF.length jn6 rfl ?ho6 ⟨g, 0, none⟩ xl.length cx xn rfl ?hn6 ?news6 ?one6 ?c36 ?c46 ?c56 ?_)
      case ho6 => rw [← HWB.out]; exact P6.out
      case news6 =>
        intro j u hj
        have h := PX.out.cells (g := g) rfl j u hj
        rw [show (⟨g, 0, none⟩ : Addr).add j = ⟨g, j, none⟩ from add_plain _ _ _ |>.trans (by simp), HWB.out, World.cell?_setCell_far _ _ _ _ (show f + 1 + 1 ≠ g by omega)] at h
        exact h
      case one6 => exact Kd.reps_one PXR.out (by decide) (fun p c hp => k93.K_one (k93.K_of_M hp))
      case c36 => unfold maxLen; omega
      case c46 => omega
      case c56 => first | omega | (simp; omega)
      intro v6' W4 own6 hg6 hat6
      obtain ⟨A6', d6', rfl, _⟩ := slice_of_row own6
      rw [← HWB.out] at hg6
      obtain ⟨R5b, R6a, c5b, f5b, c6b, f6b, hk1, hs1⟩ := E1.out
      have hsz6 := hg6.size
      have k6 : some (f + 1 + 1) ≠ (Value.slice A6 FF.length d6).ownBlock := fun e => by have := (a6 _ e.symm).2; omega
      have k7 : some (f + 1 + 1 + 1) ≠ (Value.slice A6 FF.length d6).ownBlock := fun e => by have := (a6 _ e.symm).2; omega
      have c5d : W4.cell? ⟨f + 1 + 1, 0, none⟩ = some (.slice A5' (LN.length + 1) d5') := (World.cell?_of_block (w := Wb) (hg6.block _ (by show f + 1 + 1 < _; omega) k6)).trans c5b
      have f5d : W4.frozen? ⟨f + 1 + 1, 0, none⟩ = false := (World.frozen?_of_block (hg6.block _ (by show f + 1 + 1 < _; omega) k6)).trans f5b
      have c6d : W4.cell? ⟨f + 1 + 1 + 1, 0, none⟩ = some (.slice A6 FF.length d6) := (World.cell?_of_block (w := Wb) (hg6.block _ (by show f + 1 + 1 + 1 < _; omega) k7)).trans c6b
      have f6d : W4.frozen? ⟨f + 1 + 1 + 1, 0, none⟩ = false := (World.frozen?_of_block (hg6.block _ (by show f + 1 + 1 + 1 < _; omega) k7)).trans f6b
      have R6b : Kd.R k93 93 Wb f (fun k => k = f + 1 ∨ W3.heap.size ≤ k) (.slice A6 FF.length d6) FF := Kd.R_grown R6a HGB.out (fun k hk e => by cases e; omega)
      have R6c : Kd.R k93 93 W4 f (fun k => k = f + 1 ∨ W3.heap.size ≤ k) (.slice A6' (FF.length + xl.length) d6') (FF ++ xl) :=
        R_appended_rows (d := k93) (okp := fun k => V.heap.size ≤ k) R6b.1 Q6.out (PXR.out.imp_ (fun p c hp => k93.M_lower (show f ≤ V.heap.size by omega) (k93.M_mono (fun k hk => hk.2.1) (k93.M_bound hp)))) (fun k hk hlt => ⟨.inr (by omega), fun e => by have := (a6 k e.symm).1; omega⟩) (fun k hk => .inr (by omega)) own6 hg6 (hat6.imp id fun h => ⟨_, h, by omega⟩)
      obtain ⟨Wd, hWd⟩ : ∃ Wd, Wd = W4.setCell ⟨f + 1 + 1 + 1, 0, none⟩ (.slice A6' (FF.length + xl.length) d6') := ⟨_, rfl⟩
      have hgd : W4.grownBy Wd (some (f + 1 + 1 + 1)) := by rw [hWd]; exact Base_grown _ _ _
      have R5c : Kd.R (Kd.int .i64) 3 W4 f (fun k => k = f ∨ W3.heap.size ≤ k) (.slice A5' (LN.length + 1) d5') (LN ++ [(xl.length : Int)]) :=
        R_apartT R5b (Kd.R_typed R6b) (by decide) hg6
      have R5d : Kd.R (Kd.int .i64) 3 Wd f (fun k => k = f ∨ W3.heap.size ≤ k) (.slice A5' (LN.length + 1) d5') (LN ++ [(xl.length : Int)]) := Kd.R_grown R5c hgd (fun k hk e => by cases e; omega)
      have R6d : Kd.R k93 93 Wd f (fun k => k = f + 1 ∨ W3.heap.size ≤ k) (.slice A6' (FF.length + xl.length) d6') (FF ++ xl) := Kd.R_grown R6c hgd (fun k hk e => by cases e; omega)
      have c5e : Wd.cell? ⟨f + 1 + 1, 0, none⟩ = some (.slice A5' (LN.length + 1) d5') := by rw [hWd, World.cell?_setCell_far _ _ _ _ (show f + 1 + 1 + 1 ≠ f + 1 + 1 by omega)]; exact c5d
      have f5e : Wd.frozen? ⟨f + 1 + 1, 0, none⟩ = false := by rw [hWd, World.frozen?_setCell]; exact f5d
      have c6e : Wd.cell? ⟨f + 1 + 1 + 1, 0, none⟩ = some (.slice A6' (FF.length + xl.length) d6') := by rw [hWd]; exact World.cell?_setCell_same' _ _ _ (by rw [c6d]; rfl)
      have f6e : Wd.frozen? ⟨f + 1 + 1 + 1, 0, none⟩ = false := by rw [hWd, World.frozen?_setCell]; exact f6d
      have hk2 : KeepsOthers W Wd := (hk1.trans (KeepsOthers.of_grownBy hg6 (fun j o e h => own_cells P6.out j o e h))).trans (by rw [hWd]; exact KeepsOthers.setCell _ _ _)
      have hs2 : Sp4 f W3.heap.size W Wd := (hs1.grown hg6 (by omega) (fun r e => by have := a6 r e; omega)).grown hgd (by omega) (fun r e => by cases e; omega)
      have FIN : Hid (KeepsOthers W Wd ∧ KeepR W2.heap.size W3.heap.size W Wd ∧ InvG f W3.heap.size W3 (pre ++ [(.slice (some ⟨g, 0, none⟩) xl.length cx, xl)]) Wd) := hid ⟨hk2, hs2.keep (by omega), ⟨_, c5e, f5e, by rw [List.map_append, HLN.out]; exact R5d⟩, ⟨_, c6e, f6e, by rw [List.map_append, List.flatten_append, HFF.out]; simpa using R6d⟩, hsp.out.trans hs2⟩
      rw [hWd] at FIN
      clear hWd hgd R5c R5d R6d c5e f5e c6e f6e hk2 hs2 R6c R6b R5b R6a c5b f5b c6b f6b hk1 hs1 k6 k7 hg6 hat6 own6 f5d c5d
      gi_wp2
      exact FIN.out
    case hend =>
      rintro D W hD ⟨pre, hpre, hI⟩ hK
      have hsp := hI.2.2
      have zW : W3.heap.size ≤ W.heap.size := hsp.size
      have p3 : W.cell? ⟨w.heap.size, 0, none⟩ = some (.int .i64 s) := (hsp.cell (p := ⟨w.heap.size, 0, none⟩) (by show w.heap.size < _; omega) (.inl (by show w.heap.size < _; omega))).trans n3
      have p3f : W.frozen? ⟨w.heap.size, 0, none⟩ = false := (World.frozen?_of_block (hsp.block w.heap.size (by omega) (.inl (by omega)))).trans n3f
      have p3b : w.heap.size < W.heap.size := by omega
      have HI := hid hI
      have HK := hid hK
      have HPRE := hid hpre
      clear hI hK hpre hsp n3 n3f hbc
      obtain ⟨st, hst1, hst5, hse⟩ := stop5 s
      gi_wp2
      rw [hse]
      obtain ⟨Wq, hWq⟩ : ∃ Wq : World, Wq = (W.setCell ⟨w.heap.size, 0, none⟩ (.int .i64 (st : Int))).alloc (.cells #[.int .i64 0] 3) := ⟨_, rfl⟩
      rw [← hWq]
      have zq : Wq.heap.size = W.heap.size + 1 := by rw [hWq]; simp
      have hBW : Below w.heap.size w W := HI.out.2.2.below hB13.out (by omega) (by omega)
      have hBq : Below w.heap.size w Wq := by
        rw [hWq]
        exact (hBW.grown (Base_grown W ⟨w.heap.size, 0, none⟩ (.int .i64 (st : Int))) hBW.size (fun k e => by cases e; exact Nat.le_refl _)).alloc (by simp; omega) _
      have q3 : Wq.cell? ⟨w.heap.size, 0, none⟩ = some (.int .i64 (st : Int)) := by
        rw [hWq, cell_old1 _ _ _ (by simp; omega)]
        exact World.cell?_setCell_same' _ _ _ (by rw [p3]; rfl)
      have q8 : Wq.cell? ⟨W.heap.size, 0, none⟩ = some (.int .i64 0) := by
        rw [hWq, cell_new1 _ _ _ _ (by simp)]; rfl
      have q8f : Wq.frozen? ⟨W.heap.size, 0, none⟩ = false := by
        rw [hWq, froz_new1 _ _ _ _ (by simp)]
      have hblk : ∀ k, k < W.heap.size → k ≠ w.heap.size → Wq.heap[k]? = W.heap[k]? := by
        intro k h1 h2
        rw [hWq, Below.heap_alloc _ _ _ (by simp; omega)]
        exact Below.heap_setCell _ _ _ _ h2
      clear hWq
      refine (callsIn_wide.2 (groups_calls A l.length c l rfl Wq (Kd.C_below HR.out hBq) hc (by omega) HT.out)).mono ?_
      rintro e W5 ⟨bo2, A2, c2, rfl, hbo2, hbo2', hbc2, hc2', hC5, hB5⟩
      have r3 : W5.cell? ⟨w.heap.size, 0, none⟩ = some (.int .i64 (st : Int)) := (hB5.cell (p := ⟨w.heap.size, 0, none⟩) (by show w.heap.size < _; omega)).trans q3
      have r8 : W5.cell? ⟨W.heap.size, 0, none⟩ = some (.int .i64 0) := (hB5.cell (p := ⟨W.heap.size, 0, none⟩) (by show W.heap.size < _; omega)).trans q8
      have r8f : W5.frozen? ⟨W.heap.size, 0, none⟩ = false := (World.frozen?_of_block (hB5.block W.heap.size (by omega))).trans q8f
      have hblk5 : ∀ k, k < W.heap.size → k ≠ w.heap.size → W5.heap[k]? = W.heap[k]? := fun k h1 h2 => (hB5.block k (by omega)).trans (hblk k h1 h2)
      have HBL := hid hblk5
      have HC5 := hid hC5
      have hB15 := hid (hBq.trans (hB5.mono hBq.size))
      have z5 : Wq.heap.size ≤ W5.heap.size := hB5.size
      have zww : w.heap.size < W.heap.size := by omega
      clear q3 q8 q8f hblk hblk5 hC5 hBq hB5 hse p3 p3f hBW
      gi_wp2
      refine range_pre_law (F := FW) rfl (by decide) (gf := 73) (lb := #[.pointer (some ⟨bo2, 0, none⟩)]) rfl f73 (enters_of Try.func73 (by kernel_rfl) rfl)
        (seq73 8 (by decide) bo2 Wq.heap.size A2 l c2 (by omega) HT.out W5 hbo2 hbo2' hbc2 hc2' HC5.out) yielded_put KeepR.trans (keepR_b (Nat.le_refl _)) (Below.refl _ _) (fun _ => rfl)
        (fun pre V => ((V.cell? ⟨W.heap.size, 0, none⟩ = some (.int .i64 (pre.length : Nat)) ∧ V.frozen? ⟨W.heap.size, 0, none⟩ = false) ∧ pre.length < st) ∧ W5.grownBy V (some W.heap.size))
        (fun pre V => ((V.cell? ⟨W.heap.size, 0, none⟩ = some (.int .i64 (pre.length : Nat)) ∧ V.frozen? ⟨W.heap.size, 0, none⟩ = false) ∧ pre.length = st) ∧ W5.grownBy V (some W.heap.size))
        (OwnFrom.and (Own.from (fun s A B row hs hg hr => ⟨⟨cell_kept hs.1.1 hg hr, (frozen_kept hs.1.1 hg hr).trans hs.1.2⟩, hs.2⟩) _) (Left.ownFrom_grown _ _ _ (Nat.le_refl _)))
        (OwnFrom.and (Own.from (fun s A B row hs hg hr => ⟨⟨cell_kept hs.1.1 hg hr, (frozen_kept hs.1.1 hg hr).trans hs.1.2⟩, hs.2⟩) _) (Left.ownFrom_grown _ _ _ (Nat.le_refl _)))
        ⟨⟨⟨r8, r8f⟩, by simp; omega⟩, ⟨rfl, rfl, rfl, Nat.le_refl _, fun _ _ _ => rfl⟩⟩ ?a12 ?asg2 ?body2 (fun V => V.cell? ⟨W.heap.size, 0, none⟩ = some (.int .i64 ((min st (groupsL l).length : Nat) : Int)) ∧ W5.grownBy V (some W.heap.size)) ?hd2 ?hs2 ?hend2
      case asg2 =>
        intro lp x V K hK
        gi_wp2
        exact hK
      case hd2 =>
        rintro ys V hys ⟨⟨⟨h1, h2⟩, h3⟩, h4⟩
        have : ys.length = (groupsL l).length := by rw [← hys, List.length_map]
        exact ⟨by rw [h1, show min st (groupsL l).length = ys.length by omega], h4⟩
      case hs2 =>
        rintro ys V hys ⟨⟨⟨h1, h2⟩, h3⟩, h4⟩
        have := hys.length_le
        rw [List.length_map] at this
        exact ⟨by rw [h1, show min st (groupsL l).length = ys.length by omega], h4⟩
      case body2 =>
        rintro lp pre ⟨xv, xl⟩ V0 V ⟨⟨⟨h1', h2'⟩, h3⟩, h4'⟩ hVW hlp hlo -
        have hro : ∀ r, some lp = some r → ∃ o : Obj, V0.heap[r]? = some o ∧ o.isCells = false := by rintro r e; cases e; exact hlo
        have h1 := cell_kept h1' hVW hro
        have h2 := (frozen_kept h1' hVW hro).trans h2'
        have h4 : W5.grownBy V (some W.heap.size) := Left.ownFrom_grown W5 W.heap.size W5.heap.size (Nat.le_refl _) () V0 V (some lp) h4' hVW (fun r e => by cases e; exact ⟨hlp, hlo⟩)
        have hz := h4.size
        have hst : V.cell? ⟨w.heap.size, 0, none⟩ = some (.int .i64 (st : Int)) := h4.cell (a := ⟨w.heap.size, 0, none⟩) r3 (by simp; omega)
        have H4 := hid h4
        clear h4 h4' h1' h2' hVW hlp hlo hro r3 r8 r8f
        by_cases hb : pre.length + 1 = st
        · have hbb : (((pre.length : Nat) : Int) + 1 == (st : Int)) = true := by simpa using (by omega : ((pre.length : Nat) : Int) + 1 = (st : Int))
          have HB := hid hb
          clear hb
          gi_wp2
          exact ⟨KeepsOthers.setCell _ _ _, rfl, ⟨Left.cnt_step h1 h2, by have := HB.out; simp; omega⟩, Left.grown_set H4.out _⟩
        · have hbb : (((pre.length : Nat) : Int) + 1 == (st : Int)) = false := by simpa using (by omega : ¬ ((pre.length : Nat) : Int) + 1 = (st : Int))
          have HB := hid hb
          clear hb
          gi_wp2
          exact ⟨KeepsOthers.setCell _ _ _, ⟨by simp, fun b hb1 hb2 => Below.heap_setCell _ _ _ _ (by show b ≠ W.heap.size; omega)⟩, ⟨Left.cnt_step h1 h2, by have := HB.out; simp; omega⟩, Left.grown_set H4.out _⟩
      case hend2 =>
        rintro D2 V hD2 ⟨v1, hg⟩ hK2
        have zV := hg.size
        have hblk : ∀ k, k < W.heap.size → k ≠ w.heap.size → V.heap[k]? = W.heap[k]? := fun k h1 h2 => (hg.block k (by omega) (by simp; omega)).trans (HBL.out k h1 h2)
        obtain ⟨⟨v5, c5, f5, R5⟩, ⟨v6, c6, f6, R6⟩, hsp⟩ := HI.out
        have R5V : Kd.R (Kd.int .i64) 3 V f (fun k => k = f ∨ W3.heap.size ≤ k) v5 (pre.map fun x => (x.2.length : Int)) := Kd.R_step R5 (fun k hk hlt => hblk k hlt (by omega))
        have R6V : Kd.R k93 93 V f (fun k => k = f + 1 ∨ W3.heap.size ≤ k) v6 (pre.map (·.2)).flatten := Kd.R_step R6 (fun k hk hlt => hblk k hlt (by omega))
        have k5 : V.cell? ⟨f + 1 + 1, 0, none⟩ = some v5 := (World.cell?_of_block (w := W) (hblk (f + 1 + 1) (by omega) (by omega))).trans c5
        have k6 : V.cell? ⟨f + 1 + 1 + 1, 0, none⟩ = some v6 := (World.cell?_of_block (w := W) (hblk (f + 1 + 1 + 1) (by omega) (by omega))).trans c6
        have k3 : V.cell? ⟨w.heap.size, 0, none⟩ = some (.int .i64 (st : Int)) := hg.cell (a := ⟨w.heap.size, 0, none⟩) r3 (by simp; omega)
        have kD : V.heap[D]? = some (.deferred (some [])) := (hblk D (Array.getElem?_eq_some_iff.1 HK.out).1 (by omega)).trans HK.out
        have hBV : Below w.heap.size w V := hB15.out.trans (Left.grown_below hg (B := w.heap.size) (by omega) (by omega))
        have hLN : (pre.map fun x => (x.2.length : Int)) = (groupsL l).map fun g => (g.length : Int) := by rw [← HPRE.out, List.map_map]; rfl
        have hFF : (pre.map (·.2)).flatten = l := by rw [HPRE.out, groupsL_flat]
        rw [hLN] at R5V
        rw [hFF] at R6V
        obtain ⟨A5, d5, rfl, hd5, C5⟩ := Kd.R_reads R5V
        obtain ⟨A6, d6, rfl, hd6, C6⟩ := Kd.R_reads R6V
        have CA : Kd.C k93 V A l.length l := Kd.C_below HR.out hBV
        obtain ⟨LN, hLN'⟩ : ∃ LN : List Int, ((groupsL l).map fun g => (g.length : Int)) = LN := ⟨_, rfl⟩
        have hGL : (groupsL l).length = LN.length := by rw [← hLN', List.length_map]
        rw [hLN'] at k5 C5 hd5
        rw [hGL] at v1
        have hRef := hid (refgroups_eq l h60)
        rw [hLN'] at hRef
        have H5 := hid C5
        have H6 := hid C6
        have HA := hid CA
        have HBV := hid hBV
        have HKD := hid kD
        have HKD2 := hid hK2
        have hDD : D < D2 := by have := (Array.getElem?_eq_some_iff.1 HK.out).1; omega
        have hV5 : f + 1 + 1 < V.heap.size := by omega
        have hV6 : f + 1 + 1 + 1 < V.heap.size := by omega
        have hV8 : W.heap.size < V.heap.size := by omega
        have hVw : w.heap.size < V.heap.size := by omega
        have hLl : LN.length ≤ 60 := by rw [← hGL]; exact Nat.le_trans (groupsL_le l) h60
        have HMIN : Hid (((min st LN.length : Nat) : Int) = min (st : Int) (LN.length : Int)) := hid (by omega)
        clear hg hblk c5 f5 R5 c6 f6 R6 hsp R5V R6V r3 r8 r8f C5 C6 CA hBV kD hK2 hLN hFF hLN' hGL hbc2 HI HBL
        gi_wp2
        refine wpIn_wide.2 ?_
        have HS : Hid (∀ w' : World, Hid (Below V.heap.size V w') → w'.cell? ⟨f + 1 + 1, 0, none⟩ = some (.slice A5 LN.length d5) ∧ w'.cell? ⟨f + 1 + 1 + 1, 0, none⟩ = some (.slice A6 l.length d6) ∧ w'.cell? ⟨W.heap.size, 0, none⟩ = some (.int .i64 ((min st LN.length : Nat) : Int)) ∧ w'.cell? ⟨w.heap.size, 0, none⟩ = some (.int .i64 (st : Int)) ∧ Hid (Below V.heap.size V w')) := hid fun w' h =>
          ⟨(h.out.cell (p := ⟨f + 1 + 1, 0, none⟩) hV5).trans k5, (h.out.cell (p := ⟨f + 1 + 1 + 1, 0, none⟩) hV6).trans k6, (h.out.cell (p := ⟨W.heap.size, 0, none⟩) hV8).trans v1, (h.out.cell (p := ⟨w.heap.size, 0, none⟩) hVw).trans k3, h⟩
        go_region_held3 (fun w' => w'.cell? ⟨f + 1 + 1, 0, none⟩ = some (.slice A5 LN.length d5) ∧ w'.cell? ⟨f + 1 + 1 + 1, 0, none⟩ = some (.slice A6 l.length d6) ∧ w'.cell? ⟨W.heap.size, 0, none⟩ = some (.int .i64 ((min st LN.length : Nat) : Int)) ∧ w'.cell? ⟨w.heap.size, 0, none⟩ = some (.int .i64 (st : Int)) ∧ Hid (Below V.heap.size V w'))
          (first | exact HS.out _ (by assumption) | exact HS.out _ (hid (below_drew (Below.refl _ _))))
          (first
            | (go_at_call 52; refine (Big.weftlineref16_Groups.calls 101 A c l LN _ (Kd.C_below HA.out (below_drew (Below.refl _ _))) hc hRef.out).mono ?_; rintro e w7 ⟨v7, rfl, hR7, hb7⟩; obtain ⟨A7, d7, rfl, hd7, C7⟩ := Kd.R_reads hR7; have hb7' : Hid (Below V.heap.size V w7) := hid ((below_drew (Below.refl _ _)).trans hb7); have C7' := hid C7; clear C7 hR7 hb7)
            | (go_at_call 51; refine (Big.weftlinenum_Ints.calls 101 A5 d5 LN A7 d7 LN true _ (Kd.C_below H5.out hb7'.out) hd5 C7'.out hd7 (ints_self LN (by omega))).mono ?_; rintro e w8 ⟨rfl, hD8⟩; have hb8' : Hid (Below V.heap.size V w8) := hid (hb7'.out.trans (hD8.below.mono hb7'.out.size)); clear hD8)
            | (go_at_call 44; refine (weftlinenum_Pieces.calls 101 A6 d6 l A c l true _ (Kd.C_below H6.out hb8'.out) hd6 (Kd.C_below HA.out hb8'.out) hc (FG.pieces_self 101 l (by omega) (by omega))).mono ?_; rintro e w9 ⟨rfl, hD9⟩; have hb9' : Hid (Below V.heap.size V w9) := hid (hb8'.out.trans (hD9.mono hb8'.out.size)); clear hD9))
        have hres : (((min st LN.length : Nat) : Int) == if LN.length < st then (LN.length : Int) else (st : Int)) = true := by
          split <;> simp <;> omega
        rw [hres]
        have hVs : w.heap.size ≤ V.heap.size := by omega
        have e2 : w9.heap[D2]? = some (.deferred (some [])) := (hb9'.out.block D2 (Array.getElem?_eq_some_iff.1 HKD2.out).1).trans HKD2.out
        have e0 : w9.heap[D]? = some (.deferred (some [])) := (hb9'.out.block D (Array.getElem?_eq_some_iff.1 HKD.out).1).trans HKD.out
        have e1 : (w9.putObj D2 (.deferred none)).heap[D]? = some (.deferred (some [])) := by
          rw [(grownBy_putObj' w9 D2 (.deferred none)).block D (Array.getElem?_eq_some_iff.1 e0).1 (by simp; omega)]; exact e0
        have hb9 : Below w.heap.size w w9 := HBV.out.trans (hb9'.out.mono hVs)
        have hend := hid ((hb9.trans (belowK_b (w := w) (Nat.le_refl _) w9 D2 _ (.deferred none) (by omega) e2 rfl rfl)).trans (belowK_b (w := w) (Nat.le_refl _) _ D _ (.deferred none) (by omega) e1 rfl rfl))
        have E1 := hid e1
        have E2 := hid e2
        clear e1 e2 e0 hb9 hres HS
        gi_wp2
        all_goals
          refine ⟨by simp, .inl ⟨_, _, rfl, run_takeDeferred E2.out, ?_⟩⟩
          refine ⟨by simp, .inl ⟨_, _, rfl, run_takeDeferred E1.out, ?_⟩⟩
          exact ⟨_, results_tmp rfl _ _ _, rfl, hend.out⟩
end Go.Proofs.Ytgbjbmakjilddaa.QFrag
