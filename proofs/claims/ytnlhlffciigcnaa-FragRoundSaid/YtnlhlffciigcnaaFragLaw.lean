import Derived.Test.YtnlhlffciigcnaaQFragx1
import Derived.Test.YtnlhlffciigcnaaQFragx4
import Derived.Test.YtnlhlffciigcnaaQFragx5
import Derived.Test.YtnlhlffciigcnaaLeftWalk
import Derived.Lib.SmallJoins
namespace Go.Proofs.Ytnlhlffciigcnaa.QFrag
open Go.RowKit Go.Proofs.YtnlhlffciigcnaaW.PrintWords Go.Proofs.YtnlhlffciigcnaaW.PrintLast Go.Proofs.YtnlhlffciigcnaaW.PrintMore Go.ChangeShapes Go.WideShapes Go.ChangeAt Go.Shelf
open Base (hid slice_of_row ret_bool cell_new1 cell_old1 froz_new1 froz_old1)
open Go.Joins (cell_of_block unfrozen_of_block)
attribute [local go_sem] Oper.semAt_some
set_option linter.unusedVariables false
namespace FL
theorem wrap_small (i : Nat) (h : i ≤ 100000) : wrap64 ((i : Int) + 1) = ((i + 1 : Nat) : Int) := by unfold wrap64; omega
theorem rd_nat93 (l : List S93) (i : Nat) (h : i < l.length) : rd_T93 l (i : Int) = l[i] := by simp [rd_T93, h]
theorem good_ref (st : Int) (un : Bool) (l : List Int) : weftlineref16_Good.f st un l = some (goodB st l.length) := by
  unfold weftlineref16_Good.f goodB withinB
  by_cases h1 : st ≥ 0
  · rw [if_pos h1]
    by_cases h2 : st < 8
    · rw [if_pos h2]
      by_cases h3 : (l.length : Int) ≥ 1
      · rw [if_pos h3, decide_eq_true (show (0 : Int) ≤ st from h1), decide_eq_true (show st ≤ 7 by omega), decide_eq_true (show (1 : Int) ≤ l.length from h3)]; rfl
      · rw [if_neg h3, decide_eq_false (show ¬ (1 : Int) ≤ l.length from h3)]; simp
    · rw [if_neg h2, decide_eq_false (show ¬ st ≤ 7 by omega)]; simp
  · rw [if_neg h1, decide_eq_false (show ¬ (0 : Int) ≤ st from h1)]; simp
theorem within_eq (a b c : Int) : frag_within.f a b c = some (withinB a b c) := by
  unfold frag_within.f withinB
  by_cases h : a ≥ b
  · rw [if_pos h, decide_eq_true (show b ≤ a from h)]; rfl
  · rw [if_neg h, decide_eq_false (show ¬ b ≤ a from h)]; rfl
theorem good_frag (st : Int) (un : Bool) (l : List Int) : frag_Good.f st un l = some (goodB st l.length) := by
  unfold frag_Good.f goodB
  rw [within_eq, Option.bind_some]
  cases withinB st 0 7
  · rfl
  · rw [if_pos rfl, within_eq]; rfl
theorem many_eq (n z : Nat) (h : withinB (n : Int) 1 400 = true) (hz : withinB (z : Int) 1 64 = true) : frag_Many.f n z = some (parts n z : Int) := by
  have h1 : 1 ≤ n ∧ n ≤ 400 := by unfold withinB at h; simp only [Bool.and_eq_true, decide_eq_true_eq] at h; omega
  have h2 : 1 ≤ z ∧ z ≤ 64 := by unfold withinB at hz; simp only [Bool.and_eq_true, decide_eq_true_eq] at hz; omega
  unfold frag_Many.f
  rw [within_eq, Option.bind_some, if_pos h, within_eq, Option.bind_some, if_pos hz, if_neg (by omega)]
  have e1 : wrap64 ((wrap64 ((n : Int) + z)) - 1) = ((n + z - 1 : Nat) : Int) := by unfold wrap64; omega
  rw [e1, ← Int.ofNat_tdiv]
  have e2 : (n + z - 1) / z ≤ n + z - 1 := Nat.div_le_self _ _
  unfold parts
  generalize (n + z - 1) / z = q at *
  congr 1
  unfold wrap64
  omega
theorem many_no (n s : Int) (h : withinB s 1 64 = false) : frag_Many.f n s = some 0 := by
  unfold frag_Many.f
  rw [within_eq, Option.bind_some]
  split
  · rw [within_eq, Option.bind_some, if_neg (by rw [h]; decide)]
  · rfl
/-! the pieces -/
def onePiece (st : Int) (un : Bool) (l : List Int) (tsn seq : Int) (z N j : Nat) : S93 := { piece st un l tsn seq z j j with f3 := j == 0, f4 := j + 1 == N }
def cutL (st : Int) (un : Bool) (l : List Int) (tsn seq : Int) (z : Nat) : List S93 := (List.range (parts l.length z)).map (onePiece st un l tsn seq z (parts l.length z))
theorem pcs_at (st : Int) (un : Bool) (l : List Int) (tsn seq : Int) (z N j : Nat) (h : j < (pcs st un l tsn seq z (List.range N)).length) : (pcs st un l tsn seq z (List.range N))[j] = piece st un l tsn seq z j j := by
  have hj : j < N := by rw [pcs_len, List.length_range] at h; exact h
  have h' : (pcs st un l tsn seq z (List.range N))[j]? = some (piece st un l tsn seq z j j) := by
    unfold pcs
    simp [hj]
  exact Option.some.inj ((List.getElem?_eq_getElem h).symm.trans h')
theorem marked_eq (st : Int) (un : Bool) (l : List Int) (tsn seq : Int) (z : Nat) (hN : 0 < parts l.length z) : marked (pcs st un l tsn seq z (List.range (parts l.length z))) = cutL st un l tsn seq z := by
  unfold cutL marked
  generalize parts l.length z = N at *
  have hlen : (pcs st un l tsn seq z (List.range N)).length = N := by rw [pcs_len, List.length_range]
  dsimp only
  apply List.ext_getElem
  · simp [hlen]
  · intro j h1 h2
    have hj : j < N := by simpa using h2
    rw [List.getElem_map, List.getElem_range]
    simp only [List.length_set, hlen]
    rw [List.getElem_set]
    by_cases e : N - 1 = j
    · rw [if_pos e]
      subst e
      rw [List.getD_eq_getElem?_getD, List.getElem?_eq_getElem (by simp [hlen]; omega), Option.getD_some, List.getElem_set]
      by_cases e0 : 0 = N - 1
      · rw [if_pos e0, List.getD_eq_getElem?_getD, List.getElem?_eq_getElem (by rw [hlen]; omega), Option.getD_some, pcs_at]
        have hN1 : N = 1 := by omega
        subst hN1
        rfl
      · rw [if_neg e0, pcs_at]
        unfold onePiece piece
        simp
        omega
    · rw [if_neg e, List.getElem_set]
      by_cases e0 : 0 = j
      · rw [if_pos e0]
        subst e0
        rw [List.getD_eq_getElem?_getD, List.getElem?_eq_getElem (by rw [hlen]; omega), Option.getD_some, pcs_at]
        unfold onePiece piece
        simp
        omega
      · rw [if_neg e0, pcs_at]
        unfold onePiece piece
        simp
        omega
/-! ref Cut -/
theorem cutL_len (st : Int) (un : Bool) (l : List Int) (tsn seq : Int) (z : Nat) : (cutL st un l tsn seq z).length = parts l.length z := by simp [cutL]
theorem cutL_at (st : Int) (un : Bool) (l : List Int) (tsn seq : Int) (z j : Nat) (h : j < (cutL st un l tsn seq z).length) : (cutL st un l tsn seq z)[j] = onePiece st un l tsn seq z (parts l.length z) j := by simp [cutL]
theorem cutL_snoc (st : Int) (un : Bool) (l : List Int) (tsn seq : Int) (z j : Nat) (hj : j < parts l.length z) : (cutL st un l tsn seq z).take j ++ [onePiece st un l tsn seq z (parts l.length z) j] = (cutL st un l tsn seq z).take (j + 1) := by
  rw [List.take_succ_eq_append_getElem (by rw [cutL_len]; exact hj), cutL_at]
theorem wrap_id (j : Nat) (h : j ≤ 1000) : wrap64 (j : Int) = (j : Int) := by unfold wrap64; omega
theorem last_iff {N j p z n : Nat} (h1 : j + 1 < N ↔ p + z < n) (hj : j < N) : j + 1 = N ↔ n ≤ p + z := by omega
theorem end_iff {E p z n : Nat} (hE : E = min (p + z) n) : (E : Int) = (n : Int) ↔ n ≤ p + z := by omega
theorem refcut_elem (st tsn seq : Int) (un : Bool) (l : List Int) (z N j : Nat) (hz1 : 1 ≤ z) (hl : l.length ≤ 1000) (hN : N = parts l.length z) (hj : j < N) (sq : Int) (hsq : sq = if un then 0 else seq)
    (E : Nat) (hE : E = min (j * z + z) l.length) : (⟨(tsn + (wrap64 (Int.tdiv ((j * z : Nat) : Int) (z : Int)) % 4294967296)) % 4294967296, IntKind.u16.wrap st, sq, (((j * z : Nat) : Int) == 0), ((E : Int) == (l.length : Int)), un, ([] : List Int) ++ (l.take (E : Int).toNat).drop ((j * z : Nat) : Int).toNat⟩ : S93) = onePiece st un l tsn seq z N j := by
  have hjz : j * z < l.length := (parts_lt hz1).1 (hN ▸ hj)
  have hdiv : Int.tdiv ((j * z : Nat) : Int) (z : Int) = (j : Int) := by
    rw [← Int.ofNat_tdiv, Nat.mul_div_cancel _ hz1]
  have hjl : j ≤ 1000 := by
    have : j * 1 ≤ j * z := Nat.mul_le_mul_left _ hz1
    rw [Nat.mul_one] at this
    exact Nat.le_trans this (Nat.le_trans (Nat.le_of_lt hjz) hl)
  have hw : wrap64 (j : Int) = (j : Int) := wrap_id j hjl
  have hlast : (j + 1 = N) ↔ l.length ≤ j * z + z := by
    have h1 : j + 1 < N ↔ (j + 1) * z < l.length := by rw [hN]; exact parts_lt hz1
    rw [Nat.succ_mul] at h1
    exact last_iff h1 hj
  unfold onePiece piece
  simp only [S93.mk.injEq, hdiv, hw, Int.toNat_natCast, List.nil_append, true_and]
  refine ⟨hsq, ?_, ?_, ?_⟩
  · rw [Bool.eq_iff_iff, beq_iff_eq, beq_iff_eq]
    constructor
    · intro h
      rcases Nat.mul_eq_zero.1 (Int.natCast_eq_zero.1 h) with h1 | h1
      · exact h1
      · exact absurd hz1 (by rw [h1]; decide)
    · rintro rfl
      rw [Nat.zero_mul]
      rfl
  · rw [Bool.eq_iff_iff, beq_iff_eq, beq_iff_eq, hlast]
    exact end_iff hE
  · rw [List.drop_take]
    rcases Nat.le_total (j * z + z) l.length with h | h
    · rw [hE, Nat.min_eq_left h, Nat.add_sub_cancel_left]
    · rw [hE, Nat.min_eq_right h, List.take_of_length_le (by rw [List.length_drop]; exact Nat.le_refl _), List.take_of_length_le (by rw [List.length_drop]; exact Nat.sub_le_iff_le_add'.2 h)]
/-! the same pieces -/
theorem piece_self (p : S93) : weftlinenum_Piece.f p.f0 p.f1 p.f2 p.f3 p.f4 p.f5 p.f6 p.f0 p.f1 p.f2 p.f3 p.f4 p.f5 p.f6 = some true := by
  unfold weftlinenum_Piece.f
  simp
theorem pieces_l0 (l : List S93) (hl : l.length ≤ 100000) : ∀ (k i : Nat), i ≤ l.length → l.length - i < k → weftlinenum_Pieces.l0 k l l (l.length : Int) (i : Int) = some true := by
  intro k
  induction k with
  | zero => intro i _ h; omega
  | succ k ih =>
    intro i hi hk
    rw [weftlinenum_Pieces.l0]
    by_cases h : i < l.length
    · rw [if_pos (by omega), if_pos (by omega), if_pos (by omega), if_pos (by omega), piece_self, Option.bind_some, if_pos rfl, wrap_small i (by omega)]
      exact ih (i + 1) (by omega) (by omega)
    · rw [if_neg (by omega)]
theorem pieces_self (k : Nat) (l : List S93) (hl : l.length ≤ 100000) (hk : l.length < k) : weftlinenum_Pieces.f k l l = some true := by
  have := pieces_l0 l hl k 0 (Nat.zero_le _) (by omega)
  simpa [weftlinenum_Pieces.f] using this
/-! joined, and the message -/
def okAt (l : List S93) (p0 : S93) (i : Nat) (p : S93) : Bool :=
  (p.f3 == ((i : Int) == 0)) && (p.f4 == ((i : Int) == wrap64 ((l.length : Int) - 1))) && withinB (p.f6.length : Int) 1 64 && decide (p.f0 = (p0.f0 + (i : Int) % 4294967296) % 4294967296) && decide (p.f1 = p0.f1) && decide (p.f2 = p0.f2) && (p.f5 == p0.f5)
def joinedB (l : List S93) : Bool := decide (0 < l.length) && decide (∀ j (h : j < l.length), okAt l (rd_T93 l 0) j l[j] = true)
theorem okAt_follow (l : List S93) (p0 p q : S93) (i : Nat) (hi : i + 1 ≤ 100000) (hq : okAt l p0 i q = true) (h3 : (p.f3 == (((i + 1 : Nat) : Int) == 0)) = true) (h4 : (p.f4 == (((i + 1 : Nat) : Int) == wrap64 ((l.length : Int) - 1))) = true) (hw : withinB (p.f6.length : Int) 1 64 = true) :
    frag_follows.f p.f0 p.f1 p.f2 p.f3 p.f4 p.f5 p.f6 q.f0 q.f1 q.f2 q.f3 q.f4 q.f5 q.f6 = some (okAt l p0 (i + 1) p) := by
  unfold okAt at hq ⊢
  simp only [Bool.and_eq_true, decide_eq_true_eq, beq_iff_eq] at hq
  obtain ⟨⟨⟨⟨⟨⟨_, _⟩, _⟩, q0⟩, q1⟩, q2⟩, q5⟩ := hq
  rw [h3, h4, hw]
  unfold frag_follows.f serial_Step_uint32.f
  rw [Option.bind_some]
  have e0 : (q.f0 + (1 : Int) % 4294967296) % 4294967296 = (p0.f0 + ((i + 1 : Nat) : Int) % 4294967296) % 4294967296 := by rw [q0]; omega
  rw [e0, q1, q2, q5]
  by_cases a0 : p.f0 = (p0.f0 + ((i + 1 : Nat) : Int) % 4294967296) % 4294967296
  · rw [if_pos a0]
    by_cases a1 : p.f1 = p0.f1
    · rw [if_pos a1]
      by_cases a2 : p.f2 = p0.f2
      · rw [if_pos a2]
        simp [a0, a1, a2]
      · rw [if_neg a2, decide_eq_false a2]
        simp
    · rw [if_neg a1, decide_eq_false a1]
      simp
  · rw [if_neg a0, decide_eq_false a0]
    rfl
theorem joined_step (l : List S93) (p0 : S93) (i : Nat) (hi : i < l.length) : (decide (∀ j (h : j < l.length), i ≤ j → okAt l p0 j l[j] = true)) = (okAt l p0 i l[i] && decide (∀ j (h : j < l.length), i + 1 ≤ j → okAt l p0 j l[j] = true)) := by
  rw [Bool.eq_iff_iff, Bool.and_eq_true, decide_eq_true_iff, decide_eq_true_iff]
  constructor
  · intro h
    exact ⟨h i hi (Nat.le_refl _), fun j hj hij => h j hj (by omega)⟩
  · rintro ⟨h1, h2⟩ j hj hij
    rcases Nat.lt_or_ge i j with hlt | hge
    · exact h2 j hj hlt
    · obtain rfl : j = i := by omega
      exact h1
theorem joined_l0 (l : List S93) (hl : l.length ≤ 1000) (hr : 0 ≤ (rd_T93 l 0).f0 ∧ (rd_T93 l 0).f0 < 4294967296) (hn : 0 < l.length) : ∀ (k i : Nat), i ≤ l.length → l.length - i < k → (∀ j (h : j < l.length), j < i → okAt l (rd_T93 l 0) j l[j] = true) →
    frag_joined.l0 k l l (l.length : Int) (i : Int) = some (decide (∀ j (h : j < l.length), i ≤ j → okAt l (rd_T93 l 0) j l[j] = true)) := by
  intro k
  induction k with
  | zero => intro i _ h; omega
  | succ k ih =>
    intro i hi hk hpre
    rw [frag_joined.l0]
    by_cases h : i < l.length
    · have hrd := rd_nat93 l i h
      rw [joined_step l _ i h]
      rw [if_pos (by omega), if_pos (by omega), if_pos (by omega), hrd, wrap_small i (by omega), within_eq, Option.bind_some]
      by_cases h3 : (l[i].f3 == ((i : Int) == 0)) = true
      · rw [if_neg (by simp only [bne, h3]; decide)]
        by_cases h4 : (l[i].f4 == ((i : Int) == wrap64 ((l.length : Int) - 1))) = true
        · rw [if_neg (by simp only [bne, h4]; decide)]
          by_cases hw : withinB (l[i].f6.length : Int) 1 64 = true
          · rw [if_pos hw]
            have hnext : ∀ (_ : okAt l (rd_T93 l 0) i l[i] = true), frag_joined.l0 k l l (l.length : Int) ((i + 1 : Nat) : Int) = some (decide (∀ j (h : j < l.length), i + 1 ≤ j → okAt l (rd_T93 l 0) j l[j] = true)) := by
              intro hok
              refine ih (i + 1) (by omega) (by omega) fun j hj hji => ?_
              rcases Nat.lt_or_ge j i with hlt | hge
              · exact hpre j hj hlt
              · obtain rfl : j = i := by omega
                exact hok
            by_cases h0 : i = 0
            · subst h0
              have hok : okAt l (rd_T93 l 0) 0 l[0] = true := by
                have e0 : rd_T93 l 0 = l[0] := rd_nat93 l 0 h
                unfold okAt
                rw [h3, h4, hw, e0]
                rw [e0] at hr
                rw [decide_eq_true (show l[0].f0 = (l[0].f0 + ((0 : Nat) : Int) % 4294967296) % 4294967296 by omega)]
                simp
              rw [if_neg (by omega), hok, hnext hok]
              rfl
            · obtain ⟨m, rfl⟩ : ∃ m, i = m + 1 := ⟨i - 1, by omega⟩
              have hwm : wrap64 (((m + 1 : Nat) : Int) - 1) = (m : Int) := by unfold wrap64; omega
              rw [if_pos (by omega), hwm, if_pos (by omega), if_pos (by omega), rd_nat93 l m (by omega), okAt_follow l (rd_T93 l 0) _ _ m (by omega) (hpre m (by omega) (by omega)) h3 h4 hw, Option.bind_some]
              by_cases hok : okAt l (rd_T93 l 0) (m + 1) l[m + 1] = true
              · rw [if_pos hok, hok, hnext hok]
                rfl
              · rw [if_neg hok, eq_false_of_ne_true hok]
                rfl
          · rw [if_neg hw]
            have : okAt l (rd_T93 l 0) i l[i] = false := by unfold okAt; rw [eq_false_of_ne_true hw]; simp
            rw [this]
            rfl
        · rw [if_pos (by simp only [bne, eq_false_of_ne_true h4]; decide)]
          have : okAt l (rd_T93 l 0) i l[i] = false := by unfold okAt; rw [eq_false_of_ne_true h4]; simp
          rw [this]
          rfl
      · rw [if_pos (by simp only [bne, eq_false_of_ne_true h3]; decide)]
        have : okAt l (rd_T93 l 0) i l[i] = false := by unfold okAt; rw [eq_false_of_ne_true h3]; simp
        rw [this]
        rfl
    · rw [if_neg (by omega)]
      congr 1
      rw [decide_eq_true (show (l.length : Int) > 0 by omega), eq_comm, decide_eq_true_iff]
      intro j hj hij
      omega
theorem joined_eq (k : Nat) (l : List S93) (hl : l.length ≤ 1000) (hr : 0 < l.length → 0 ≤ (rd_T93 l 0).f0 ∧ (rd_T93 l 0).f0 < 4294967296) (hk : l.length < k) : frag_joined.f k l = some (joinedB l) := by
  unfold frag_joined.f joinedB
  by_cases hn : 0 < l.length
  · have := joined_l0 l hl (hr hn) hn k 0 (Nat.zero_le _) (by omega) (fun j _ h => by omega)
    rw [Int.natCast_zero] at this
    rw [this, decide_eq_true hn, Bool.true_and]
    congr 1
    rw [decide_eq_decide]
    exact ⟨fun h j hj => h j hj (Nat.zero_le _), fun h j hj _ => h j hj⟩
  · obtain ⟨k, rfl⟩ : ∃ m, k = m + 1 := ⟨k - 1, by omega⟩
    obtain rfl : l = [] := by cases l with | nil => rfl | cons a b => simp at hn
    rfl
/-! the message of pieces -/
def texts (l : List S93) : List Int := (l.map (·.f6)).flatten
theorem texts_snoc (l : List S93) (i : Nat) (h : i < l.length) : texts (l.take (i + 1)) = texts (l.take i) ++ l[i].f6 := by
  unfold texts
  rw [List.take_succ_eq_append_getElem h, List.map_append, List.flatten_append]
  simp
theorem texts_len (l : List S93) (B : Nat) (h : ∀ p ∈ l, p.f6.length ≤ B) : (texts l).length ≤ B * l.length := by
  induction l with
  | nil => simp [texts]
  | cons p ps ih =>
    have h1 := h p List.mem_cons_self
    have h2 := ih fun q hq => h q (List.mem_cons_of_mem _ hq)
    unfold texts at h2 ⊢
    rw [List.map_cons, List.flatten_cons, List.length_append, List.length_cons, Nat.mul_succ]
    omega
def wholeR (l : List S93) : Option (Int × Bool × List Int) :=
  if joinedB l && goodB (wrap64 (rd_T93 l 0).f1) (texts l).length then some (wrap64 (rd_T93 l 0).f1, (rd_T93 l 0).f5, texts l) else none
def wholeF (l : List S93) : Int × Bool × List Int × Option Int := match wholeR l with | some (a, b, c) => (a, b, c, none) | none => (0, false, [], some 2)
def wholeG (l : List S93) : Int × Bool × List Int × Bool := match wholeR l with | some (a, b, c) => (a, b, c, true) | none => (0, false, [], false)
theorem okAt_short {l : List S93} {p0 p : S93} {i : Nat} (h : okAt l p0 i p = true) : p.f6.length ≤ 64 := by
  unfold okAt withinB at h
  simp only [Bool.and_eq_true, decide_eq_true_eq] at h
  omega
theorem joined_short {l : List S93} (h : joinedB l = true) : ∀ p ∈ l, p.f6.length ≤ 64 := by
  intro p hp
  obtain ⟨j, hj, rfl⟩ := List.mem_iff_getElem.1 hp
  unfold joinedB at h
  rw [Bool.and_eq_true, decide_eq_true_iff, decide_eq_true_iff] at h
  exact okAt_short (h.2 j hj)
theorem whole_l0 (l : List S93) (hl : l.length ≤ 1000) (hs : ∀ p ∈ l, p.f6.length ≤ 64) (st : Int) (un : Bool) : ∀ (k i : Nat), i ≤ l.length → l.length - i < k →
    frag_Whole.l0 k l (l.length : Int) (i : Int) st un (texts (l.take i)) = if goodB st (texts l).length = true then some (st, un, texts l, none) else some (0, false, [], some 2) := by
  intro k
  induction k with
  | zero => intro i _ h; omega
  | succ k ih =>
    intro i hi hk
    rw [frag_Whole.l0]
    by_cases h : i < l.length
    · have h1 := texts_len (l.take i) 64 fun p hp => hs p (List.mem_of_mem_take hp)
      have h2 := hs l[i] (List.getElem_mem h)
      rw [List.length_take] at h1
      rw [if_pos (by omega), if_pos (by omega), if_pos (by omega), rd_nat93 l i h, if_pos (by omega), wrap_small i (by omega), ← texts_snoc l i h]
      exact ih (i + 1) (by omega) (by omega)
    · rw [if_neg (by omega), good_frag, Option.bind_some, List.take_of_length_le (by omega)]
theorem whole_eq (k : Nat) (l : List S93) (hl : l.length ≤ 1000) (hr : 0 < l.length → 0 ≤ (rd_T93 l 0).f0 ∧ (rd_T93 l 0).f0 < 4294967296) (hk : l.length < k) : frag_Whole.f k l = some (wholeF l) := by
  unfold frag_Whole.f
  rw [joined_eq k l hl hr hk, Option.bind_some]
  unfold wholeF wholeR
  by_cases hj : joinedB l = true
  · have hn : 0 < l.length := by
      have := hj
      unfold joinedB at this
      rw [Bool.and_eq_true, decide_eq_true_iff] at this
      exact this.1
    rw [if_pos hj, if_pos (by omega), hj]
    have := whole_l0 l hl (joined_short hj) (wrap64 (rd_T93 l 0).f1) (rd_T93 l 0).f5 k 0 (Nat.zero_le _) (by omega)
    rw [Int.natCast_zero, List.take_zero, show texts [] = ([] : List Int) from rfl] at this
    rw [this, Bool.true_and]
    split
    · rfl
    · rfl
  · rw [if_neg hj, eq_false_of_ne_true hj]
    rfl
/-! the pieces of a message make it -/
theorem texts_cut (st : Int) (un : Bool) (l : List Int) (tsn seq : Int) (z N : Nat) : ∀ n : Nat, texts ((List.range n).map (onePiece st un l tsn seq z N)) = l.take (n * z) := by
  intro n
  induction n with
  | zero => simp [texts]
  | succ n ih =>
    rw [List.range_succ, List.map_append]
    unfold texts at ih ⊢
    rw [List.map_append, List.flatten_append, ih]
    simp only [List.map_cons, List.map_nil, List.flatten_cons, List.flatten_nil, List.append_nil]
    rw [Nat.succ_mul, List.take_add]
    rfl
theorem cut_texts (st : Int) (un : Bool) (l : List Int) (tsn seq : Int) (z : Nat) (hz : 1 ≤ z) : texts (cutL st un l tsn seq z) = l := by
  unfold cutL
  rw [texts_cut]
  apply List.take_of_length_le
  have : ¬ parts l.length z < parts l.length z := by omega
  rw [parts_lt (by omega)] at this
  omega
theorem cut_joined (st : Int) (un : Bool) (l : List Int) (tsn seq : Int) (z : Nat) (hz1 : 1 ≤ z) (hz2 : z ≤ 64) (hl1 : 1 ≤ l.length) (hl : l.length ≤ 1000) : joinedB (cutL st un l tsn seq z) = true := by
  have hN : 0 < parts l.length z := (parts_lt (by omega)).2 (by omega)
  have hN2 : parts l.length z ≤ l.length := parts_le _ _ (by omega)
  have h0 : rd_T93 (cutL st un l tsn seq z) 0 = onePiece st un l tsn seq z (parts l.length z) 0 := by
    have := rd_nat93 (cutL st un l tsn seq z) 0 (by rw [cutL_len]; exact hN)
    rw [Int.natCast_zero] at this
    rw [this, cutL_at]
  unfold joinedB
  rw [h0, decide_eq_true (show 0 < (cutL st un l tsn seq z).length by rw [cutL_len]; exact hN), Bool.true_and, decide_eq_true_iff]
  intro j hj
  rw [cutL_at]
  rw [cutL_len] at hj
  have hjl : j * z < l.length := (parts_lt (by omega)).1 hj
  unfold okAt onePiece piece
  rw [cutL_len]
  have hw : wrap64 ((parts l.length z : Int) - 1) = ((parts l.length z - 1 : Nat) : Int) := by unfold wrap64; omega
  have e3 : (j == 0) = ((j : Int) == 0) := by rw [Bool.eq_iff_iff, beq_iff_eq, beq_iff_eq]; omega
  have e4 : (j + 1 == parts l.length z) = ((j : Int) == ((parts l.length z - 1 : Nat) : Int)) := by rw [Bool.eq_iff_iff, beq_iff_eq, beq_iff_eq]; omega
  have hlen : ((l.drop (j * z)).take z).length = min z (l.length - j * z) := by rw [List.length_take, List.length_drop]
  have e6 : withinB (((l.drop (j * z)).take z).length : Int) 1 64 = true := by
    unfold withinB
    rw [hlen, decide_eq_true (by omega), decide_eq_true (by omega)]
    rfl
  have e0 : (tsn + (j : Int) % 4294967296) % 4294967296 = ((tsn + ((0 : Nat) : Int) % 4294967296) % 4294967296 + (j : Int) % 4294967296) % 4294967296 := by omega
  dsimp only
  rw [hw, e3, e4, e6, ← e0]
  simp
theorem cut_whole (st : Int) (un : Bool) (l : List Int) (tsn seq : Int) (z : Nat) (hz1 : 1 ≤ z) (hz2 : z ≤ 64) (hg : goodB st l.length = true) : wholeF (cutL st un l tsn seq z) = (st, un, l, none) := by
  have hg' := hg
  unfold goodB withinB at hg'
  simp only [Bool.and_eq_true, decide_eq_true_eq] at hg'
  have hj := cut_joined st un l tsn seq z hz1 hz2 (by omega) (by omega)
  have hN : 0 < parts l.length z := (parts_lt (by omega)).2 (by omega)
  have h0 : rd_T93 (cutL st un l tsn seq z) 0 = onePiece st un l tsn seq z (parts l.length z) 0 := by
    have := rd_nat93 (cutL st un l tsn seq z) 0 (by rw [cutL_len]; exact hN)
    rw [Int.natCast_zero] at this
    rw [this, cutL_at]
  have hs : wrap64 (rd_T93 (cutL st un l tsn seq z) 0).f1 = st := by
    rw [h0]
    show wrap64 (IntKind.u16.wrap st) = st
    have : IntKind.u16.wrap st = st := by
      have : IntKind.u16.wrap st = st % 65536 := by simp [IntKind.wrap, IntKind.bits, IntKind.signed]
      omega
    rw [this]
    unfold wrap64
    omega
  have h5 : (rd_T93 (cutL st un l tsn seq z) 0).f5 = un := by rw [h0]; rfl
  unfold wholeF wholeR
  rw [hj, hs, h5, cut_texts _ _ _ _ _ _ hz1, hg]
  rfl
theorem cut_first (st : Int) (un : Bool) (l : List Int) (tsn seq : Int) (z : Nat) : 0 < (cutL st un l tsn seq z).length → 0 ≤ (rd_T93 (cutL st un l tsn seq z) 0).f0 ∧ (rd_T93 (cutL st un l tsn seq z) 0).f0 < 4294967296 := by
  intro h
  have := rd_nat93 (cutL st un l tsn seq z) 0 h
  rw [Int.natCast_zero] at this
  rw [this, cutL_at]
  unfold onePiece piece
  dsimp only
  omega
end FL
end Go.Proofs.Ytnlhlffciigcnaa.QFrag
