import Derived.Test.YtgbjbmakjilddaaQRebindPlansx2
import Derived.Test.YtgbjbmakjilddaaQRebindPlansx3
import Derived.Test.YtgbjbmakjilddaaQRebindPlansx4
import Derived.Test.YtgbjbmakjilddaaQRebindPlansx5
namespace Go.Proofs.Ytgbjbmakjilddaa.QRebindPlans
open Go.RowKit Go.Proofs.YtgbjbmakjilddaaW.PrintWords Go.Proofs.YtgbjbmakjilddaaW.PrintLast Go.Proofs.YtgbjbmakjilddaaW.PrintMore
namespace Law
theorem wrap_small (i : Nat) (h : i ≤ 1000) : wrap64 ((i : Int) + 1) = ((i + 1 : Nat) : Int) := by unfold wrap64; omega
theorem rd_nat (l : List Int) (i : Nat) (h : i < l.length) : rd l (i : Int) = l[i] := by simp [rd, h]
/-- The first place of x. -/
def ixd : List Int → Int → Int → Int
  | [], _, _ => -1
  | y :: ys, x, i => if x = y then i else ixd ys x (i + 1)
theorem index_l0 (l : List Int) (x : Int) (hl : l.length ≤ 100) : ∀ (k i : Nat), i ≤ l.length → l.length - i < k → api_Addr_63.l0 k l x (l.length : Int) (i : Int) = some (ixd (l.drop i) x i) := by
  intro k
  induction k with
  | zero => intro i _ h; omega
  | succ k ih =>
    intro i hi hk
    rw [api_Addr_63.l0]
    by_cases h : i < l.length
    · rw [if_pos (by omega), if_pos (by omega), if_pos (by omega), rd_nat l i h, wrap_small i (by omega), List.drop_eq_getElem_cons h, ixd]
      split
      · rfl
      · rw [ih (i + 1) (by omega) (by omega)]
        rfl
    · rw [if_neg (by omega), List.drop_eq_nil_of_le (by omega), ixd]
theorem index_eq (l : List Int) (x : Int) (hl : l.length ≤ 100) (k : Nat) (hk : l.length < k) : api_Addr_63.f k l x = some (ixd l x 0) := by
  have := index_l0 l x hl k 0 (Nat.zero_le _) (by omega)
  simpa [api_Addr_63.f] using this
theorem ixd_ge (l : List Int) (x : Int) : ∀ i : Int, (ixd l x i = -1 ∧ x ∉ l) ∨ ∃ j : Nat, ixd l x i = i + j ∧ l[j]? = some x ∧ x ∉ l.take j := by
  induction l with
  | nil => intro i; exact .inl ⟨rfl, by simp⟩
  | cons y ys ih =>
    intro i
    unfold ixd
    split
    · rename_i h
      exact .inr ⟨0, by simp, by simp [h], by simp⟩
    · rename_i h
      rcases ih (i + 1) with ⟨h1, h2⟩ | ⟨j, h1, h2, h3⟩
      · exact .inl ⟨h1, by simp [h, h2]⟩
      · exact .inr ⟨j + 1, by rw [h1]; omega, by simpa using h2, by simp [h, h3]⟩
/-- x is at i first: just if its first place is i. -/
theorem ixd_at (l : List Int) (i : Nat) (h : i < l.length) : ixd l l[i] 0 = i ↔ l[i] ∉ l.take i := by
  rcases ixd_ge l l[i] 0 with ⟨_, h2⟩ | ⟨j, h1, h2, h3⟩
  · exact absurd (List.getElem_mem h) h2
  · rw [h1]
    constructor
    · intro e
      obtain rfl : j = i := by omega
      exact h3
    · intro hn
      have hj : j < l.length := (List.getElem?_eq_some_iff.1 h2).1
      rcases Nat.lt_trichotomy j i with hlt | rfl | hlt
      · exfalso
        apply hn
        rw [List.mem_iff_getElem]
        refine ⟨j, by simp; omega, ?_⟩
        rw [List.getElem_take]
        exact (List.getElem?_eq_some_iff.1 h2).2
      · omega
      · exfalso
        apply h3
        rw [List.mem_iff_getElem]
        exact ⟨i, by simp; omega, by rw [List.getElem_take]⟩
/-! Right -/
def okAt (c : List Int) (i : Nat) : Bool := addrB (rd c i) && !hasB c i (rd c i)
theorem right_l0 (c : List Int) (hl : c.length ≤ 20) : ∀ (k i : Nat), i ≤ c.length → c.length - i + 25 < k → rebind_Right.l0 k c c (c.length : Int) (i : Int) = some (decide (∀ j, j < c.length → i ≤ j → okAt c j = true)) := by
  intro k
  induction k with
  | zero => intro i _ h; omega
  | succ k ih =>
    intro i hi hk
    rw [rebind_Right.l0]
    by_cases h : i < c.length
    · rw [if_pos (by omega), if_pos (by omega), if_pos (by omega), rd_nat c i h, wrap_small i (by omega), index_eq c _ (by omega) k (by omega), ih (i + 1) (by omega) (by omega)]
      have hrd := rd_nat c i h
      have hat := ixd_at c i h
      by_cases h1 : c[i] < 1
      · rw [if_pos h1]
        congr 1
        symm
        rw [decide_eq_false_iff_not]
        intro hall
        have := hall i h (Nat.le_refl _)
        simp [okAt, addrB, hrd] at this
        omega
      · rw [if_neg h1]
        by_cases h2 : c[i] > 2147483647
        · rw [if_pos h2]
          congr 1
          symm
          rw [decide_eq_false_iff_not]
          intro hall
          have := hall i h (Nat.le_refl _)
          simp [okAt, addrB, hrd] at this
          omega
        · rw [if_neg h2, Option.bind_some]
          by_cases h3 : ixd c c[i] 0 = (i : Int)
          · rw [if_pos h3]
            congr 1
            rw [decide_eq_decide]
            constructor
            · intro hall j hjl hj
              rcases Nat.lt_or_ge i j with hlt | hge
              · exact hall j hjl (by omega)
              · obtain rfl : j = i := by omega
                have := hat.1 h3
                simp [okAt, addrB, hasB, hrd, this]
                omega
            · intro hall j hjl hj
              exact hall j hjl (by omega)
          · rw [if_neg h3]
            congr 1
            symm
            rw [decide_eq_false_iff_not]
            intro hall
            have := hall i h (Nat.le_refl _)
            simp [okAt, hasB, hrd] at this
            exact h3 (hat.2 this.2)
    · rw [if_neg (by omega)]
      congr 1
      symm
      rw [decide_eq_true_iff]
      intro j hjl hj
      omega
theorem rd_left (a b : List Int) (i : Nat) (h : i < a.length) : rd (a ++ b) i = rd a i := by
  rw [rd_nat _ _ (by rw [List.length_append]; omega), rd_nat _ _ h, List.getElem_append_left h]
theorem rd_right (a b : List Int) (i : Nat) (h : i < b.length) : rd (a ++ b) ((a.length + i : Nat) : Int) = rd b i := by
  rw [rd_nat _ _ (by rw [List.length_append]; omega), rd_nat _ _ h, List.getElem_append_right (by omega)]
  congr 1
  omega
theorem right_all (a b : List Int) (hab : b.length = a.length) : (∀ j, j < (a ++ b).length → 0 ≤ j → okAt (a ++ b) j = true) ↔ ∀ i, i < a.length → oneB a b i = true := by
  constructor
  · intro h i hi
    have h1 := h i (by rw [List.length_append]; omega) (Nat.zero_le _)
    have h2 := h (a.length + i) (by rw [List.length_append]; omega) (Nat.zero_le _)
    unfold okAt at h1 h2
    rw [rd_left a b i hi] at h1
    rw [rd_right a b i (by omega)] at h2
    unfold oneB
    simp only [Bool.and_eq_true, Bool.not_eq_true', hasB, decide_eq_false_iff_not] at h1 h2 ⊢
    rw [List.take_append_of_le_length (by omega)] at h1
    rw [List.take_length_add_append, List.mem_append, not_or] at h2
    rw [List.take_length]
    exact ⟨h1.1, h2.1, h1.2, h2.2.2, h2.2.1⟩
  · intro h j hj _
    rw [List.length_append] at hj
    rcases Nat.lt_or_ge j a.length with hlt | hge
    · have h1 := h j hlt
      unfold okAt
      rw [rd_left a b j hlt]
      unfold oneB at h1
      simp only [Bool.and_eq_true, Bool.not_eq_true', hasB, decide_eq_false_iff_not] at h1 ⊢
      rw [List.take_append_of_le_length (by omega)]
      exact ⟨h1.1, h1.2.2.1⟩
    · obtain ⟨i, rfl⟩ : ∃ i, j = a.length + i := ⟨j - a.length, by omega⟩
      have h1 := h i (by omega)
      unfold okAt
      rw [rd_right a b i (by omega)]
      unfold oneB at h1
      simp only [Bool.and_eq_true, Bool.not_eq_true', hasB, decide_eq_false_iff_not] at h1 ⊢
      rw [List.take_length_add_append, List.mem_append, not_or]
      rw [List.take_length] at h1
      exact ⟨h1.2.1, h1.2.2.2.2, h1.2.2.2.1⟩
theorem right_eq (a b : List Int) (ha : a.length ≤ 10) (hb : b.length ≤ 10) (k : Nat) (hk : 60 < k) : rebind_Right.f k a b = some (rightB a b) := by
  obtain ⟨k, rfl⟩ : ∃ n, k = n + 1 := ⟨k - 1, by omega⟩
  have hc : api_Addr_62.f [a, b] = some (a ++ b) := by simp only [api_Addr_62.f]; rw [if_pos (by omega)]
  have hl := right_l0 (a ++ b) (by rw [List.length_append]; omega) k 0 (Nat.zero_le _) (by rw [List.length_append]; omega)
  unfold rebind_Right.f rightB
  rw [hc, Option.bind_some]
  by_cases h1 : b.length = a.length
  · rw [if_pos (by omega)]
    by_cases h2 : 1 ≤ a.length
    · rw [if_neg (by omega), rebind_Right.j0]
      by_cases h3 : a.length ≤ 4
      · rw [if_neg (by simp; omega)]
        refine hl.trans ?_
        rw [decide_eq_true h1, decide_eq_true h2, decide_eq_true h3]
        simp only [Bool.true_and, Option.some.injEq]
        rw [decide_eq_decide]
        exact right_all a b h1
      · rw [if_pos (by simp; omega), decide_eq_false h3]
        simp
    · rw [if_pos (by omega), rebind_Right.j0, if_pos rfl, decide_eq_false h2]
      rfl
  · rw [if_neg (by omega), rebind_Right.j0, if_pos rfl, decide_eq_false h1]
    simp
theorem ref_right (a b : List Int) : weftlineref28_Right.f a b = some (rightB a b) := rfl
theorem right_len {a b : List Int} (h : rightB a b = true) : 1 ≤ a.length ∧ a.length ≤ 4 ∧ b.length = a.length := by
  unfold rightB at h
  simp only [Bool.and_eq_true, decide_eq_true_eq] at h
  exact ⟨h.1, h.2.1, h.2.2.1⟩
/-! Of -/
theorem of_l0 (a b : List Int) (x : Int) (hr : rightB a b = true) : ∀ (k i : Nat), i ≤ a.length → 2 * (a.length - i) + 3 < k →
    weftlineref28_Of.l0 k x (i : Int) a b = some (if 0 ≤ ixd (a.drop i) x i then rd b (ixd (a.drop i) x i) else x) := by
  obtain ⟨q1, q2, q3⟩ := right_len hr
  intro k
  induction k using Nat.strongRecOn with
  | _ k ih =>
    intro i hi hk
    obtain ⟨k, rfl⟩ : ∃ n, k = n + 2 := ⟨k - 2, by omega⟩
    rw [weftlineref28_Of.l0]
    by_cases h : i < a.length
    · rw [if_pos (by omega), ref_right, Option.bind_some, hr, weftlineref28_Of.j1, if_pos rfl, if_pos (by omega), if_pos (by omega), rd_nat a i h, wrap_small i (by omega), List.drop_eq_getElem_cons h, ixd]
      by_cases e : a[i] = x
      · rw [if_pos e, if_pos (by omega), if_pos e.symm, if_pos (by omega)]
      · rw [if_neg e, ih k (by omega) (i + 1) (by omega) (by omega)]
        have e' : ¬ x = a[i] := fun h => e h.symm
        simp only [if_neg e']
        rfl
    · rw [if_neg (by omega), weftlineref28_Of.j1, if_neg (by decide), List.drop_eq_nil_of_le (by omega), ixd]
      rfl
theorem of_eq (a b : List Int) (x : Int) (ha : a.length ≤ 10) (hb : b.length ≤ 10) (k : Nat) (hk : 60 < k) :
    ∃ r, rebind_Plan_Of.f k a b x = some r ∧ weftlineref28_Of.f k a b x = some r := by
  unfold rebind_Plan_Of.f weftlineref28_Of.f
  rw [index_eq a x (by omega) k (by omega), Option.bind_some, right_eq a b ha hb k hk]
  rcases Bool.eq_false_or_eq_true (rightB a b) with hr | hr
  · obtain ⟨q1, q2, q3⟩ := right_len hr
    have := of_l0 a b x hr k 0 (Nat.zero_le _) (by omega)
    simp only [List.drop_zero, Int.ofNat_zero] at this
    have this : weftlineref28_Of.l0 k x 0 a b = some (if 0 ≤ ixd a x 0 then rd b (ixd a x 0) else x) := this
    rw [this, hr]
    refine ⟨_, ?_, rfl⟩
    by_cases h0 : 0 ≤ ixd a x 0
    · rw [if_pos h0, if_pos h0, Option.bind_some, if_pos rfl, if_pos h0]
      rcases ixd_ge a x 0 with ⟨h1, _⟩ | ⟨j, h1, h2, _⟩
      · omega
      · have := (List.getElem?_eq_some_iff.1 h2).1
        rw [if_pos (by omega)]
    · rw [if_neg h0, if_neg (by omega)]
  · obtain ⟨k, rfl⟩ : ∃ n, k = n + 2 := ⟨k - 2, by omega⟩
    refine ⟨x, ?_, ?_⟩
    · rw [hr]
      split
      · rfl
      · rfl
    · rw [weftlineref28_Of.l0]
      split
      · rw [ref_right, hr, Option.bind_some, weftlineref28_Of.j1]; rfl
      · rw [weftlineref28_Of.j1]; rfl
theorem same_l0 (l : List Int) (hl : l.length ≤ 100) : ∀ (k i : Nat), i ≤ l.length → l.length - i < k → weftlinelaw28_same.l0 k l l (l.length : Int) (i : Int) = some true := by
  intro k
  induction k with
  | zero => intro i _ h; omega
  | succ k ih =>
    intro i hi hk
    rw [weftlinelaw28_same.l0]
    by_cases h : i < l.length
    · rw [if_pos (by omega), if_pos (by omega), if_pos (by omega), if_pos (by omega), if_pos rfl, wrap_small i (by omega)]
      exact ih (i + 1) (by omega) (by omega)
    · rw [if_neg (by omega)]
theorem same_eq (l : List Int) (hl : l.length ≤ 100) (k : Nat) (hk : l.length < k) : weftlinelaw28_same.f k l l = some true := by
  unfold weftlinelaw28_same.f
  rw [if_pos rfl]
  exact same_l0 l hl k 0 (Nat.zero_le _) (by omega)
/-! Ops -/
def ops (a b : List Int) (n : Nat) : List (Int × Int) := (List.range n).flatMap fun i : Nat => [(1, rd b (i : Int)), (2, rd a (i : Int))]
theorem ops_succ (a b : List Int) (n : Nat) : ops a b (n + 1) = ops a b n ++ [(1, rd b n), (2, rd a n)] := by
  unfold ops
  rw [List.range_succ, List.flatMap_append]
  simp
theorem ops_len (a b : List Int) (n : Nat) : (ops a b n).length = 2 * n := by
  induction n with
  | zero => rfl
  | succ n ih => rw [ops_succ, List.length_append, ih]; simp; omega
def mk73 (p : Int × Int) : S73 := ⟨p.1, p.2⟩
def mk72 (p : Int × Int) : S72 := ⟨p.1, p.2⟩
theorem ops_l0 (a b : List Int) (q1 : 1 ≤ a.length) (q2 : a.length ≤ 4) (q3 : b.length = a.length) : ∀ (k i : Nat), i ≤ b.length → b.length - i < k →
    rebind_Ops.l0 k ((ops a b i).map mk73) b (b.length : Int) (i : Int) a b = some ((ops a b b.length ++ [(4, rd b 0)]).map mk73, none) := by
  intro k
  induction k with
  | zero => intro i _ h; omega
  | succ k ih =>
    intro i hi hk
    have hlen := ops_len a b i
    rw [rebind_Ops.l0]
    by_cases h : i < b.length
    · rw [if_pos (by omega), if_pos (by omega), if_pos (by omega), if_pos (by omega), Option.bind_some, if_pos (by simp [hlen]; omega), wrap_small i (by omega)]
      have := ih (i + 1) (by omega) (by omega)
      rw [ops_succ, List.map_append] at this
      exact this
    · obtain rfl : i = b.length := by omega
      rw [if_neg (by omega), if_pos (by omega), if_pos (by simp [hlen]; omega)]
      simp [mk73]
theorem rops_l0 (a b : List Int) (q1 : 1 ≤ a.length) (q2 : a.length ≤ 4) (q3 : b.length = a.length) : ∀ (k i : Nat), i ≤ a.length → a.length - i < k →
    weftlineref28_Ops.l0 k ((ops a b i).map mk72) (i : Int) a b = some ((ops a b b.length ++ [(4, rd b 0)]).map mk72) := by
  intro k
  induction k with
  | zero => intro i _ h; omega
  | succ k ih =>
    intro i hi hk
    have hlen := ops_len a b i
    rw [weftlineref28_Ops.l0]
    by_cases h : i < a.length
    · rw [if_pos (by omega), if_pos (by omega), if_pos (by omega), Option.bind_some, if_pos (by simp [hlen]; omega), wrap_small i (by omega)]
      have := ih (i + 1) (by omega) (by omega)
      rw [ops_succ, List.map_append] at this
      exact this
    · obtain rfl : i = a.length := by omega
      rw [if_neg (by omega), if_pos (by omega), if_pos (by simp [hlen]; omega), q3]
      simp [mk72]
theorem ops_eq (a b : List Int) (ha : a.length ≤ 10) (hb : b.length ≤ 10) (k : Nat) (hk : 60 < k) :
    rebind_Ops.f k a b = some (if rightB a b = true then ((ops a b b.length ++ [(4, rd b 0)]).map mk73, none) else ([], some 2)) := by
  unfold rebind_Ops.f
  rw [right_eq a b ha hb k hk, Option.bind_some]
  by_cases hr : rightB a b = true
  · obtain ⟨q1, q2, q3⟩ := right_len hr
    rw [if_pos hr, if_pos hr]
    exact ops_l0 a b q1 q2 q3 k 0 (Nat.zero_le _) (by omega)
  · rw [if_neg hr, if_neg hr]
theorem rops_eq (a b : List Int) (hr : rightB a b = true) (k : Nat) (hk : 60 < k) : weftlineref28_Ops.f k a b = some ((ops a b b.length ++ [(4, rd b 0)]).map mk72) := by
  obtain ⟨q1, q2, q3⟩ := right_len hr
  exact rops_l0 a b q1 q2 q3 k 0 (Nat.zero_le _) (by omega)
theorem alive_eq (k : Nat) (hk : 60 < k) : weftlinelaw28_alive.f k = some true := by
  unfold weftlinelaw28_alive.f
  rw [ops_eq [1] [9] (by decide) (by decide) k hk, if_pos (by decide)]
  rfl
theorem back_eq (a b : List Int) (ha : a.length ≤ 10) (hb : b.length ≤ 10) (k : Nat) (hk : 60 < k) : rebind_Plan_Back.f k a b = some (if rightB a b = true then (b, a) else ([], [])) := by
  unfold rebind_Plan_Back.f
  rw [right_eq a b ha hb k hk, Option.bind_some]
  split
  · unfold api_Addr_61.f
    rw [if_pos (by omega), Option.bind_some, if_pos (by omega)]
    rfl
  · rfl
theorem program_eq (a b : List Int) (ha : a.length ≤ 10) (hb : b.length ≤ 10) : weftlinelaw28_Program.f a b = some (a, b) := by
  unfold weftlinelaw28_Program.f
  rw [Option.bind_some, if_pos (by simp; omega), Option.bind_some, if_pos (by simp; omega)]
  rfl
theorem law_eq (a b : List Int) (x : Int) (k : Nat) (hk : 100 < k) : weftlinelaw28_RebindPlans.f k a b x = some true := by
  unfold weftlinelaw28_RebindPlans.f
  rw [alive_eq k (by omega), Option.bind_some, if_pos rfl]
  obtain ⟨k, rfl⟩ : ∃ n, k = n + 4 := ⟨k - 4, by omega⟩
  by_cases h1 : (a.length : Int) > 10
  · rw [if_pos h1, weftlinelaw28_RebindPlans.j0, if_pos rfl]
  rw [if_neg h1]
  by_cases h2 : (b.length : Int) > 10
  · rw [decide_eq_true h2, weftlinelaw28_RebindPlans.j0, if_pos rfl]
  have ha : a.length ≤ 10 := by omega
  have hb : b.length ≤ 10 := by omega
  obtain ⟨r, e1, e2⟩ := of_eq a b x ha hb (k + 3) (by omega)
  rw [decide_eq_false h2, weftlinelaw28_RebindPlans.j0, if_neg (by decide), program_eq a b ha hb]
  simp only [Option.bind_some]
  rw [ops_eq a b ha hb (k + 3) (by omega)]
  simp only [Option.bind_some]
  rw [back_eq a b ha hb (k + 3) (by omega)]
  simp only [Option.bind_some]
  rw [right_eq a b ha hb (k + 3) (by omega), ref_right]
  simp only [Option.bind_some]
  rw [if_neg (by simp), e1, e2]
  simp only [Option.bind_some]
  rw [if_pos trivial, same_eq a (by omega) (k + 3) (by omega), same_eq b (by omega) (k + 3) (by omega)]
  simp only [Option.bind_some, if_true, Bool.not_true]
  rw [weftlinelaw28_RebindPlans.j1, if_neg (by decide), ref_right]
  simp only [Option.bind_some]
  by_cases hr : rightB a b = true
  · rw [if_pos hr, rops_eq a b hr (k + 2) (by omega)]
    simp only [Option.bind_some, if_pos hr]
    rw [if_pos (show (none : Option Int).isNone = true from rfl), if_pos (by simp), same_eq b (by omega) (k + 2) (by omega), same_eq a (by omega) (k + 2) (by omega)]
    simp only [Option.bind_some, if_true, Bool.not_true]
    rw [weftlinelaw28_RebindPlans.j2, if_neg (by decide)]
    generalize hO : ops a b b.length ++ [(4, rd b 0)] = L
    have hL : L.length ≤ 21 := by rw [← hO, List.length_append, ops_len]; simp; omega
    have key : ∀ (k i : Nat), i ≤ L.length → L.length - i < k → weftlinelaw28_RebindPlans.l0 k (L.map mk73) (L.map mk72) ((L.map mk73).length : Int) (i : Int) = some true := by
      intro k
      induction k with
      | zero => intro i _ h; omega
      | succ k ih =>
        intro i hi hk
        rw [weftlinelaw28_RebindPlans.l0]
        by_cases h : i < L.length
        · rw [if_pos (by simpa using h), if_pos (by omega), if_pos (by simpa using h), if_pos (by simpa using h), if_neg, wrap_small i (by omega)]
          · exact ih (i + 1) (by omega) (by omega)
          · simp [rd_T73, rd_T72, h, mk73, mk72]
        · rw [if_neg (by simpa using h)]
    exact key (k + 1) 0 (Nat.zero_le _) (by omega)
  · rw [if_neg hr]
    simp only [if_neg hr]
    rw [show weftlinenum_Is.f (some 2) 2 = some true by decide]
    simp [wrap64]
end Law
end Go.Proofs.Ytgbjbmakjilddaa.QRebindPlans
