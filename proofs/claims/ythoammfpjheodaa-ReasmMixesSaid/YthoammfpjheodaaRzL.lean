import Derived.WalkKit
namespace Go.Proofs.Ythoammfpjheodaa.Sl
def U (x : Int) : Prop := 0 ≤ x ∧ x < 4294967296
def far (f x : Int) : Int := (x - f) % 4294967296
theorem far_inj {f x y : Int} (hx : U x) (hy : U y) (h : far f x = far f y) : x = y := by unfold far at h; unfold U at *; omega
theorem far_range (f x : Int) : 0 ≤ far f x ∧ far f x < 4294967296 := by unfold far; omega
/-- Sorted strictly. -/
def Str (f : Int) (l : List Int) : Prop := l.Pairwise fun x y => far f x < far f y
theorem str_eq {f : Int} {a b : List Int} (ha : Str f a) (hb : Str f b) (h : ∀ x, x ∈ a ↔ x ∈ b) : a = b := by
  have na : a.Nodup := ha.imp fun h e => by subst e; omega
  have nb : b.Nodup := hb.imp fun h e => by subst e; omega
  exact ((List.perm_ext_iff_of_nodup na nb).2 h).eq_of_pairwise (le := fun x y => far f x < far f y) (fun x y _ _ h1 h2 => by omega) ha hb
/-- Compact: of neighbours that are the same the first. -/
def cpt : Int → List Int → List Int
  | _, [] => []
  | p, y :: l => if y = p then cpt y l else y :: cpt y l
def cp : List Int → List Int
  | [] => []
  | x :: l => x :: cpt x l
def lst : Int → List Int → Int
  | p, [] => p
  | _, y :: l => lst y l
theorem lst_eq : ∀ (l : List Int) (p : Int), lst p l = (p :: l)[l.length]'(by simp)
  | [], p => rfl
  | y :: l, p => by
    rw [lst, lst_eq l y]
    rfl
theorem cpt_snoc (z : Int) : ∀ (l : List Int) (p : Int), cpt p (l ++ [z]) = cpt p l ++ (if z = lst p l then [] else [z])
  | [], p => by
    rw [List.nil_append, cpt, cpt, cpt, lst]
    by_cases e : z = p
    · rw [if_pos e]
      rfl
    · rw [if_neg e]
      rfl
  | y :: l, p => by
    rw [List.cons_append, cpt, cpt, cpt_snoc z l y, lst]
    by_cases e : y = p
    · rw [if_pos e, if_pos e]
    · rw [if_neg e, if_neg e]
      rfl
theorem cp_take (l : List Int) (j : Nat) (h0 : 1 ≤ j) (h : j < l.length) : cp (l.take (j + 1)) = if l[j] = l[j - 1] then cp (l.take j) else cp (l.take j) ++ [l[j]] := by
  rw [List.take_succ_eq_append_getElem h]
  cases hl : l.take j with
  | nil =>
    have := congrArg List.length hl
    rw [List.length_take, List.length_nil] at this
    omega
  | cons x r =>
    have hr : r.length + 1 = j := by
      have := congrArg List.length hl
      rw [List.length_take, List.length_cons] at this
      omega
    have hg : lst x r = l[j - 1] := by
      rw [lst_eq]
      have h1 : (l.take j)[r.length]? = (x :: r)[r.length]? := by rw [hl]
      rw [List.getElem?_take_of_lt (by omega), List.getElem?_eq_getElem (by omega), List.getElem?_eq_getElem (by simp)] at h1
      have h2 : l[r.length]'(by omega) = (x :: r)[r.length]'(by simp) := by simpa using h1
      rw [← h2]
      congr 1
      omega
    rw [List.cons_append, cp, cp, cpt_snoc, hg]
    by_cases e : l[j] = l[j - 1]
    · rw [if_pos e, if_pos e, List.append_nil]
    · rw [if_neg e, if_neg e]
      rfl
theorem cpt_str (f : Int) : ∀ (l : List Int) (p : Int), (∀ x ∈ p :: l, U x) → (p :: l).Pairwise (fun x y => far f x ≤ far f y) → Str f (p :: cpt p l) ∧ ∀ x, x ∈ p :: cpt p l ↔ x ∈ p :: l
  | [], p, _, _ => ⟨List.pairwise_singleton _ _, fun x => Iff.rfl⟩
  | y :: l, p, hu, h => by
    obtain ⟨h1, h2⟩ := cpt_str f l y (fun x hx => hu x (List.mem_cons_of_mem _ hx)) (List.pairwise_cons.1 h).2
    rw [cpt]
    by_cases e : y = p
    · rw [if_pos e]
      subst e
      refine ⟨h1, fun x => (h2 x).trans ?_⟩
      simp
    · rw [if_neg e]
      have hp : ∀ x ∈ y :: cpt y l, far f p < far f x := by
        intro x hx
        have hx' := (h2 x).1 hx
        have h3 := (List.pairwise_cons.1 h).1 x hx'
        rcases List.mem_cons.1 hx' with rfl | hx''
        · have : far f p ≠ far f x := fun e' => e (far_inj (hu _ (by simp)) (hu _ (by simp)) e').symm
          omega
        · have h4 := (List.pairwise_cons.1 h).1 y (by simp)
          have h5 := (List.pairwise_cons.1 (List.pairwise_cons.1 h).2).1 x hx''
          have : far f p ≠ far f y := fun e' => e (far_inj (hu _ (by simp)) (hu _ (by simp)) e').symm
          omega
      refine ⟨List.pairwise_cons.2 ⟨hp, h1⟩, fun x => ?_⟩
      rw [List.mem_cons, h2 x]
      simp
theorem cp_str (f : Int) (l : List Int) (hu : ∀ x ∈ l, U x) (h : l.Pairwise (fun x y => far f x ≤ far f y)) : Str f (cp l) ∧ ∀ x, x ∈ cp l ↔ x ∈ l := by
  cases l with
  | nil => exact ⟨List.Pairwise.nil, fun x => Iff.rfl⟩
  | cons p l => exact cpt_str f l p hu h
/-- One round of the document's sorting. -/
def rstep (f x : Int) (s : Bool × List Int) (y : Int) : Bool × List Int :=
  let s' := if !s.1 && decide (far f x ≤ far f y) then (true, s.2 ++ [x]) else s
  if y ≠ x then (s'.1, s'.2 ++ [y]) else s'
def rfold (f x : Int) (out : List Int) : Bool × List Int := out.foldl (rstep f x) (false, [])
def rone (f x : Int) (out : List Int) : List Int := if (rfold f x out).1 then (rfold f x out).2 else (rfold f x out).2 ++ [x]
def rsort (f : Int) (l : List Int) : List Int := l.foldl (fun out x => rone f x out) []
theorem rfold_snoc (f x : Int) (out : List Int) (y : Int) : rfold f x (out ++ [y]) = rstep f x (rfold f x out) y := by simp [rfold]
/-- How the round stands behind the numbers pre. -/
def RI (f x : Int) (pre : List Int) (s : Bool × List Int) : Prop :=
  (s.1 = false → s.2 = pre ∧ ∀ y ∈ pre, far f y < far f x) ∧
  (s.1 = true → Str f s.2 ∧ (∀ z, z ∈ s.2 ↔ z = x ∨ z ∈ pre) ∧ ∃ y ∈ pre, far f x ≤ far f y)
theorem ri_fold (f x : Int) (hx : U x) : ∀ (n : Nat) (out : List Int), out.length = n → (∀ y ∈ out, U y) → Str f out → RI f x out (rfold f x out)
  | 0, out, hn, _, _ => by
    obtain rfl := List.eq_nil_of_length_eq_zero hn
    exact ⟨fun _ => ⟨rfl, fun y h => by simp at h⟩, fun h => by simp [rfold] at h⟩
  | n + 1, out, hn, hu, hs => by
    obtain ⟨pre, y, rfl⟩ : ∃ pre y, out = pre ++ [y] := ⟨out.dropLast, out.getLast (by intro e; simp [e] at hn), (List.dropLast_concat_getLast _).symm⟩
    have hs' := List.pairwise_append.1 hs
    have ih := ri_fold f x hx n pre (by simpa using hn) (fun z hz => hu z (by simp [hz])) hs'.1
    have hpy : ∀ z ∈ pre, far f z < far f y := fun z hz => hs'.2.2 z hz y (by simp)
    have huy : U y := hu y (by simp)
    rw [rfold_snoc]
    generalize rfold f x pre = s at *
    obtain ⟨b, acc⟩ := s
    cases b with
    | false =>
      obtain ⟨he, hlt⟩ := ih.1 rfl
      dsimp only at he
      subst he
      unfold rstep
      by_cases hd : far f x ≤ far f y
      · simp only [Bool.not_false, Bool.true_and, decide_eq_true hd, if_true]
        refine ⟨fun h => ?_, fun _ => ?_⟩
        · split at h <;> cases h
        · by_cases e : y = x
          · subst e
            simp only [ne_eq, not_true, if_false]
            exact ⟨hs, fun z => by simp [or_comm], y, by simp, Int.le_refl _⟩
          · have hne : far f x ≠ far f y := fun e' => e (far_inj huy hx e'.symm)
            rw [if_pos e]
            refine ⟨?_, fun z => by simp [or_comm, or_assoc], y, by simp, hd⟩
            refine List.pairwise_append.2 ⟨List.pairwise_append.2 ⟨hs'.1, List.pairwise_singleton _ _, fun z hz w hw => ?_⟩, List.pairwise_singleton _ _, fun z hz w hw => ?_⟩
            · rw [List.mem_singleton.1 hw]
              exact hlt z hz
            · rw [List.mem_singleton.1 hw]
              rcases List.mem_append.1 hz with hz | hz
              · exact hpy z hz
              · rw [List.mem_singleton.1 hz]
                omega
      · have e : y ≠ x := by rintro rfl; omega
        simp only [Bool.not_false, Bool.true_and, decide_eq_false hd, if_pos e]
        refine ⟨fun _ => ⟨rfl, fun z hz => ?_⟩, fun h => by cases h⟩
        rcases List.mem_append.1 hz with hz | hz
        · exact hlt z hz
        · rw [List.mem_singleton.1 hz]
          omega
    | true =>
      obtain ⟨h1, h2, y0, hy0, hle⟩ := ih.2 rfl
      dsimp only at h1 h2
      have hxy : far f x < far f y := by
        have := hpy y0 hy0
        omega
      have e : y ≠ x := by rintro rfl; omega
      unfold rstep
      simp only [Bool.not_true, Bool.false_and, if_pos e]
      refine ⟨(fun h => by cases h), fun _ => ⟨?_, fun z => by simp [h2 z, or_assoc], y0, by simp [hy0], hle⟩⟩
      refine List.pairwise_append.2 ⟨h1, List.pairwise_singleton _ _, fun z hz w hw => ?_⟩
      rw [List.mem_singleton.1 hw]
      rcases (h2 z).1 hz with rfl | hz
      · exact hxy
      · exact hpy z hz
theorem rone_str (f x : Int) (hx : U x) (out : List Int) (hu : ∀ y ∈ out, U y) (hs : Str f out) : Str f (rone f x out) ∧ ∀ z, z ∈ rone f x out ↔ z = x ∨ z ∈ out := by
  have h := ri_fold f x hx _ out rfl hu hs
  unfold rone
  generalize rfold f x out = s at *
  obtain ⟨b, acc⟩ := s
  cases b with
  | false =>
    obtain ⟨he, hlt⟩ := h.1 rfl
    dsimp only at he
    subst he
    dsimp only
    rw [if_neg (by simp)]
    refine ⟨List.pairwise_append.2 ⟨hs, List.pairwise_singleton _ _, fun z hz w hw => ?_⟩, fun z => by simp [or_comm]⟩
    rw [List.mem_singleton.1 hw]
    exact hlt z hz
  | true =>
    obtain ⟨h1, h2, _⟩ := h.2 rfl
    dsimp only
    rw [if_pos rfl]
    exact ⟨h1, h2⟩
theorem rsort_snoc (f : Int) (l : List Int) (x : Int) : rsort f (l ++ [x]) = rone f x (rsort f l) := by simp [rsort]
theorem rsort_str (f : Int) : ∀ (n : Nat) (l : List Int), l.length = n → (∀ y ∈ l, U y) → Str f (rsort f l) ∧ ∀ z, z ∈ rsort f l ↔ z ∈ l
  | 0, l, hn, _ => by
    obtain rfl := List.eq_nil_of_length_eq_zero hn
    exact ⟨List.Pairwise.nil, fun z => Iff.rfl⟩
  | n + 1, l, hn, hu => by
    obtain ⟨pre, y, rfl⟩ : ∃ pre y, l = pre ++ [y] := ⟨l.dropLast, l.getLast (by intro e; simp [e] at hn), (List.dropLast_concat_getLast _).symm⟩
    obtain ⟨h1, h2⟩ := rsort_str f n pre (by simpa using hn) (fun z hz => hu z (by simp [hz]))
    rw [rsort_snoc]
    obtain ⟨h3, h4⟩ := rone_str f y (hu y (by simp)) _ (fun z hz => hu z (by simp [(h2 z).1 hz])) h1
    exact ⟨h3, fun z => by rw [h4, h2]; simp [or_comm]⟩
/-- Both sort alike. -/
theorem sorts (f : Int) (l s : List Int) (hu : ∀ y ∈ l, U y) (hp : s.Perm l) (hs : s.Pairwise (fun x y => far f x ≤ far f y)) : cp s = rsort f l := by
  obtain ⟨h1, h2⟩ := cp_str f s (fun x hx => hu x (hp.mem_iff.1 hx)) hs
  obtain ⟨h3, h4⟩ := rsort_str f _ l rfl hu
  exact str_eq h1 h3 fun x => by rw [h2, h4, hp.mem_iff]
end Go.Proofs.Ythoammfpjheodaa.Sl
