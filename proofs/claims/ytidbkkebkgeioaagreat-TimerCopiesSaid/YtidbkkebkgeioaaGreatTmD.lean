import Derived.Test.YtidbkkebkgeioaaGreatTmLaw
namespace Go.Proofs.YtidbkkebkgeioaaGreat.Tm
theorem lk_of_look {m : M} {k v : Int} (h : look m k = some v) : lk m k = v := congrArg (fun o : Option Int => o.getD 0) h
/-- Two of what is due. -/
theorem due_pair {m : M} (h : Ok m) (now : Int) (i j : Nat) (hi : i < (due m now).length) (hj : j < (due m now).length) (hij : i < j) :
    lk m (due m now)[i] < lk m (due m now)[j] ∨ lk m (due m now)[i] = lk m (due m now)[j] ∧ (due m now)[i] < (due m now)[j] := by
  have h1 := List.pairwise_iff_getElem.1 ((order_sorted m).sublist (List.takeWhile_sublist (fun k => decide (lk m k ≤ now)))) i j hi hj hij
  have h2 := List.pairwise_iff_getElem.1 (List.nodup_iff_pairwise_ne.1 (due_nodup h now)) i j hi hj hij
  rw [le_iff] at h1
  have h3 : (due m now)[i] ≠ (due m now)[j] := h2
  have h4 : lk m (due m now)[i] < lk m (due m now)[j] ∨ lk m (due m now)[i] = lk m (due m now)[j] ∧ (due m now)[i] ≤ (due m now)[j] := h1
  omega
theorem due_one {m : M} (now : Int) (i : Nat) (hi : i < (due m now).length) : (look m (due m now)[i]).isSome = true ∧ lk m (due m now)[i] ≤ now := due_mem.1 (List.getElem_mem hi)
theorem due_rest (m : M) (now : Int) : due (rest m now) now = [] := by
  cases h : due (rest m now) now with
  | nil => rfl
  | cons k r =>
    have h1 := due_mem.1 (by rw [h]; exact List.mem_cons_self : k ∈ due (rest m now) now)
    obtain ⟨v, hv⟩ := Option.isSome_iff_exists.1 h1.1
    have h2 := lk_of_look hv
    rw [look_rest] at hv
    split at hv
    · cases hv
    · have h3 := lk_of_look hv
      omega
theorem rest_after {m : M} {now k : Int} (h : (look (rest m now) k).isSome = true) : now < lk (rest m now) k := by
  obtain ⟨v, hv⟩ := Option.isSome_iff_exists.1 h
  have h2 := lk_of_look hv
  rw [look_rest] at hv
  split at hv
  · cases hv
  · have h3 := lk_of_look hv
    omega
theorem due_all {m : M} (now : Int) (h : ∀ k ∈ order m, lk m k ≤ now) : due m now = order m := by
  unfold due
  generalize order m = l at *
  induction l with
  | nil => rfl
  | cons k r ih =>
    rw [List.takeWhile_cons_of_pos (p := fun k => decide (lk m k ≤ now)) (decide_eq_true (h k List.mem_cons_self)), ih fun x hx => h x (List.mem_cons_of_mem _ hx)]
/-- Who stops the first has the rest. -/
theorem order_del {m : M} {k : Int} {r : List Int} (ho : Ok m) (h : order m = k :: r) : order (del m k) = r := by
  have hn := order_nodup ho
  have hs := order_sorted m
  rw [h] at hn hs
  have hk := (List.nodup_cons.1 hn).1
  have hp : r.Perm ((del m k).map (·.1)) := by
    refine (List.perm_ext_iff_of_nodup (List.nodup_cons.1 hn).2 (keys_nodup (del_ok ho k))).2 fun x => ?_
    rw [← look_isSome, look_del]
    have hx : x ∈ k :: r ↔ (look m x).isSome = true := by rw [← h, order_mem]
    rw [List.mem_cons] at hx
    by_cases e : x = k
    · subst e
      rw [if_pos rfl]
      simp [hk]
    · rw [if_neg e, ← hx]
      simp [e]
  rw [← order_of_perm _ r hp]
  have hlk : ∀ x ∈ r, lk (del m k) x = lk m x := fun x hx => by
    unfold lk
    rw [look_del, if_neg (fun e : x = k => hk (e ▸ hx))]
  refine List.mergeSort_of_pairwise ((List.pairwise_cons.1 hs).2.imp_of_mem fun {a b} ha hb hab => ?_)
  rw [le_iff] at hab ⊢
  rw [hlk a ha, hlk b hb]
  exact hab
end Go.Proofs.YtidbkkebkgeioaaGreat.Tm
