/- The plain law of tables. -/
import Init
namespace Go.Proofs.Ytidbkkebkgeioaa.Tm
/-- A table: keys with ticks, the keys rising. -/
abbrev M := List (Int × Int)
def Ok (m : M) : Prop := m.Pairwise (fun p q => p.1 < q.1)
def look (m : M) (k : Int) : Option Int := (m.find? (fun p => p.1 == k)).map (·.2)
def lk (m : M) (k : Int) : Int := (look m k).getD 0
def del (m : M) (k : Int) : M := m.filter (fun p => p.1 != k)
def ins (m : M) (k v : Int) : M :=
  match m with
  | [] => [(k, v)]
  | p :: r => if p.1 < k then p :: ins r k v else (k, v) :: p :: r
def put (m : M) (k v : Int) : M := ins (del m k) k v
theorem look_nil (k : Int) : look [] k = none := rfl
theorem look_cons (p : Int × Int) (m : M) (k : Int) : look (p :: m) k = if p.1 = k then some p.2 else look m k := by
  unfold look
  by_cases h : p.1 = k
  · simp [h]
  · simp [h]
theorem look_some_mem {m : M} {k v : Int} (h : look m k = some v) : (k, v) ∈ m := by
  induction m with
  | nil => simp [look_nil] at h
  | cons p m ih =>
    rw [look_cons] at h
    by_cases e : p.1 = k
    · rw [if_pos e] at h
      cases h
      rw [← e]
      exact List.mem_cons_self
    · rw [if_neg e] at h
      exact List.mem_cons_of_mem _ (ih h)
theorem look_of_mem {m : M} (ho : Ok m) {k v : Int} (h : (k, v) ∈ m) : look m k = some v := by
  induction m with
  | nil => simp at h
  | cons p m ih =>
    rw [look_cons]
    have hp := List.pairwise_cons.1 ho
    rcases List.mem_cons.1 h with h | h
    · rw [if_pos (by rw [← h])]
      rw [← h]
    · have := hp.1 _ h
      rw [if_neg (by simp at this; omega)]
      exact ih hp.2 h
theorem look_isSome {m : M} {k : Int} : (look m k).isSome = true ↔ k ∈ m.map (·.1) := by
  induction m with
  | nil => simp [look_nil]
  | cons p m ih =>
    rw [look_cons, List.map_cons, List.mem_cons]
    by_cases e : p.1 = k
    · rw [if_pos e]
      simp [e]
    · rw [if_neg e, ih]
      constructor
      · exact fun h => .inr h
      · rintro (h | h)
        · exact absurd h.symm e
        · exact h
theorem look_none {m : M} {k : Int} : look m k = none ↔ k ∉ m.map (·.1) := by
  rw [← look_isSome]
  cases look m k <;> simp
theorem del_ok {m : M} (h : Ok m) (k : Int) : Ok (del m k) := List.Pairwise.filter _ h
theorem look_del (m : M) (k x : Int) : look (del m k) x = if x = k then none else look m x := by
  induction m with
  | nil => simp [del, look_nil]
  | cons p m ih =>
    unfold del at ih ⊢
    by_cases e : p.1 = k
    · rw [List.filter_cons_of_neg (by simp [e]), ih, look_cons]
      by_cases hx : x = k
      · rw [if_pos hx, if_pos hx]
      · rw [if_neg hx, if_neg hx, if_neg (by omega)]
    · rw [List.filter_cons_of_pos (by simpa using e), look_cons, look_cons, ih]
      by_cases hx : x = k
      · rw [if_pos hx, if_pos hx, if_neg (by omega)]
      · rw [if_neg hx, if_neg hx]
theorem look_ins (m : M) (k v x : Int) (hk : look m k = none) : look (ins m k v) x = if x = k then some v else look m x := by
  induction m with
  | nil =>
    rw [ins, look_cons, look_nil]
    by_cases h : x = k
    · rw [if_pos h, if_pos h.symm]
    · rw [if_neg h, if_neg (fun e => h e.symm)]
  | cons p m ih =>
    rw [look_cons] at hk
    have hpk : p.1 ≠ k := by
      intro e
      rw [if_pos e] at hk
      cases hk
    rw [if_neg hpk] at hk
    rw [ins]
    by_cases hlt : p.1 < k
    · rw [if_pos hlt, look_cons, look_cons, ih hk]
      by_cases h : x = k
      · rw [if_pos h, if_pos h, if_neg (by omega)]
      · rw [if_neg h, if_neg h]
    · rw [if_neg hlt, look_cons]
      by_cases h : x = k
      · rw [if_pos h, if_pos h.symm]
      · rw [if_neg h, if_neg (fun e => h e.symm)]
theorem ins_mem {m : M} {k v : Int} {p : Int × Int} (h : p ∈ ins m k v) : p = (k, v) ∨ p ∈ m := by
  induction m with
  | nil => exact .inl (by simpa [ins] using h)
  | cons q m ih =>
    rw [ins] at h
    split at h
    · rcases List.mem_cons.1 h with h | h
      · exact .inr (h ▸ List.mem_cons_self)
      · exact (ih h).imp id (List.mem_cons_of_mem _)
    · rcases List.mem_cons.1 h with h | h
      · exact .inl h
      · exact .inr h
theorem ins_ok {m : M} (h : Ok m) (k v : Int) (hk : look m k = none) : Ok (ins m k v) := by
  induction m with
  | nil => exact List.pairwise_singleton _ _
  | cons p m ih =>
    have hp := List.pairwise_cons.1 h
    rw [look_cons] at hk
    have hpk : p.1 ≠ k := by
      intro e
      rw [if_pos e] at hk
      cases hk
    rw [if_neg hpk] at hk
    rw [ins]
    split
    · rename_i hlt
      refine List.pairwise_cons.2 ⟨fun q hq => ?_, ih hp.2 hk⟩
      rcases ins_mem hq with rfl | hq
      · exact hlt
      · exact hp.1 q hq
    · rename_i hge
      refine List.pairwise_cons.2 ⟨fun q hq => ?_, h⟩
      rcases List.mem_cons.1 hq with rfl | hq
      · show k < q.1
        omega
      · have := hp.1 q hq
        show k < q.1
        omega
theorem put_ok {m : M} (h : Ok m) (k v : Int) : Ok (put m k v) := ins_ok (del_ok h k) k v (by rw [look_del, if_pos rfl])
theorem look_put (m : M) (k v x : Int) : look (put m k v) x = if x = k then some v else look m x := by
  unfold put
  rw [look_ins _ _ _ _ (by rw [look_del, if_pos rfl]), look_del]
  by_cases h : x = k
  · rw [if_pos h, if_pos h]
  · rw [if_neg h, if_neg h, if_neg h]
/-- Two tables that answer alike are the same. -/
theorem ext : ∀ {m m' : M}, Ok m → Ok m' → (∀ k, look m k = look m' k) → m = m'
  | [], [], _, _, _ => rfl
  | [], p :: m', _, _, h => by have := h p.1; rw [look_nil, look_cons, if_pos rfl] at this; cases this
  | p :: m, [], _, _, h => by have := h p.1; rw [look_nil, look_cons, if_pos rfl] at this; cases this
  | p :: m, q :: m', ho, ho', h => by
    have hp := List.pairwise_cons.1 ho
    have hq := List.pairwise_cons.1 ho'
    have nm : look m p.1 = none := by
      rw [look_none]
      intro hm
      obtain ⟨x, hx, e⟩ := List.mem_map.1 hm
      have := hp.1 x hx
      omega
    have nm' : look m' q.1 = none := by
      rw [look_none]
      intro hm
      obtain ⟨x, hx, e⟩ := List.mem_map.1 hm
      have := hq.1 x hx
      omega
    have e1 : p.1 = q.1 := by
      rcases Int.lt_trichotomy p.1 q.1 with hl | he | hl
      · exfalso
        have h1 := h p.1
        rw [look_cons, if_pos rfl, look_cons, if_neg (by omega)] at h1
        obtain ⟨x, hx, e⟩ := List.mem_map.1 (look_isSome.1 (by rw [← h1]; rfl))
        have := hq.1 x hx
        omega
      · exact he
      · exfalso
        have h1 := h q.1
        rw [look_cons, if_neg (by omega), look_cons, if_pos rfl] at h1
        obtain ⟨x, hx, e⟩ := List.mem_map.1 (look_isSome.1 (by rw [h1]; rfl))
        have := hp.1 x hx
        omega
    have e2 : p.2 = q.2 := by
      have h1 := h p.1
      rw [look_cons, if_pos rfl, look_cons, if_pos e1.symm] at h1
      exact Option.some.inj h1
    have hpq : p = q := by
      cases p; cases q
      simp at e1 e2
      rw [e1, e2]
    subst hpq
    have : m = m' := ext hp.2 hq.2 fun k => by
      have h1 := h k
      rw [look_cons, look_cons] at h1
      by_cases e : p.1 = k
      · rw [← e, nm, nm']
      · rwa [if_neg e, if_neg e] at h1
    rw [this]
theorem length_del {m : M} (h : Ok m) (k : Int) : (del m k).length + (if (look m k).isSome then 1 else 0) = m.length := by
  induction m with
  | nil => simp [del, look_nil]
  | cons p m ih =>
    have hp := List.pairwise_cons.1 h
    have := ih hp.2
    unfold del at this ⊢
    rw [look_cons]
    by_cases e : p.1 = k
    · have hn : look m k = none := by
        rw [look_none]
        intro hm
        obtain ⟨x, hx, e'⟩ := List.mem_map.1 hm
        have := hp.1 x hx
        omega
      rw [hn] at this
      rw [List.filter_cons_of_neg (by simp [e]), if_pos e]
      simpa using this
    · rw [List.filter_cons_of_pos (by simpa using e), if_neg e, List.length_cons, List.length_cons]
      omega
theorem length_ins (m : M) (k v : Int) : (ins m k v).length = m.length + 1 := by
  induction m with
  | nil => rfl
  | cons p m ih =>
    rw [ins]
    split
    · rw [List.length_cons, List.length_cons, ih]
    · rfl
theorem length_put {m : M} (h : Ok m) (k v : Int) : (put m k v).length = if (look m k).isSome then m.length else m.length + 1 := by
  unfold put
  rw [length_ins]
  have := length_del h k
  split
  · rename_i hs
    rw [if_pos hs] at this
    exact this
  · rename_i hs
    rw [if_neg hs] at this
    omega
theorem keys_nodup {m : M} (h : Ok m) : (m.map (·.1)).Nodup := by
  rw [List.nodup_iff_pairwise_ne]
  refine (List.pairwise_map.2 (h.imp ?_))
  intro a b hab
  omega
/-! the order of the ticks -/
def lt (m : M) (x y : Int) : Bool := decide (lk m x < lk m y) || (decide (lk m x = lk m y) && decide (x < y))
def le (m : M) (x y : Int) : Bool := !lt m y x
theorem lt_iff (m : M) (x y : Int) : lt m x y = true ↔ lk m x < lk m y ∨ lk m x = lk m y ∧ x < y := by unfold lt; simp
theorem le_iff (m : M) (x y : Int) : le m x y = true ↔ lk m x < lk m y ∨ lk m x = lk m y ∧ x ≤ y := by
  unfold le
  rw [Bool.not_eq_true', ← Bool.not_eq_true, lt_iff]
  omega
theorem le_trans (m : M) (a b c : Int) (h1 : le m a b = true) (h2 : le m b c = true) : le m a c = true := by
  rw [le_iff] at *
  omega
theorem le_total (m : M) (a b : Int) : (le m a b || le m b a) = true := by
  rw [Bool.or_eq_true, le_iff, le_iff]
  omega
theorem le_antisymm (m : M) (a b : Int) (h1 : le m a b = true) (h2 : le m b a = true) : a = b := by
  rw [le_iff] at *
  omega
/-- The keys by their ticks. -/
def order (m : M) : List Int := (m.map (·.1)).mergeSort (le m)
theorem order_perm (m : M) : (order m).Perm (m.map (·.1)) := List.mergeSort_perm _ _
theorem order_sorted (m : M) : (order m).Pairwise (fun a b => le m a b = true) := List.pairwise_mergeSort (le_trans m) (le_total m) _
theorem order_of_perm (m : M) (ss : List Int) (h : ss.Perm (m.map (·.1))) : ss.mergeSort (le m) = order m :=
  List.Perm.eq_of_pairwise (fun a b _ _ h1 h2 => le_antisymm m a b h1 h2) (List.pairwise_mergeSort (le_trans m) (le_total m) _) (order_sorted m) ((List.mergeSort_perm _ _).trans (h.trans (order_perm m).symm))
theorem order_mem {m : M} {k : Int} : k ∈ order m ↔ (look m k).isSome = true := by rw [(order_perm m).mem_iff, look_isSome]
theorem order_len (m : M) : (order m).length = m.length := by rw [(order_perm m).length_eq, List.length_map]
theorem order_nodup {m : M} (h : Ok m) : (order m).Nodup := (order_perm m).nodup_iff.2 (keys_nodup h)
/-! what is due -/
def delAll (m : M) (ks : List Int) : M := ks.foldl del m
theorem delAll_snoc (m : M) (ks : List Int) (k : Int) : delAll m (ks ++ [k]) = del (delAll m ks) k := by simp [delAll]
theorem look_delAll (ks : List Int) : ∀ (m : M) (x : Int), look (delAll m ks) x = if x ∈ ks then none else look m x := by
  induction ks with
  | nil => intro m x; simp [delAll]
  | cons k ks ih =>
    intro m x
    have := ih (del m k) x
    unfold delAll at this ⊢
    rw [List.foldl_cons, this, look_del]
    by_cases h : x ∈ ks
    · rw [if_pos h, if_pos (List.mem_cons_of_mem _ h)]
    · rw [if_neg h]
      by_cases e : x = k
      · rw [if_pos e, if_pos (e ▸ List.mem_cons_self)]
      · rw [if_neg e, if_neg (fun hh => (List.mem_cons.1 hh).elim e h)]
theorem delAll_ok {m : M} (h : Ok m) (ks : List Int) : Ok (delAll m ks) := by
  induction ks generalizing m with
  | nil => exact h
  | cons k ks ih => exact ih (del_ok h k)
def due (m : M) (now : Int) : List Int := (order m).takeWhile fun k => decide (lk m k ≤ now)
def rest (m : M) (now : Int) : M := delAll m (due m now)
theorem rest_ok {m : M} (h : Ok m) (now : Int) : Ok (rest m now) := delAll_ok h _
theorem mem_takeWhile {α : Type} {f : α → Bool} : ∀ {l : List α} {x : α}, x ∈ l.takeWhile f → f x = true
  | [], _, h => by simp at h
  | a :: l, x, h => by
    by_cases ha : f a = true
    · rw [List.takeWhile_cons_of_pos ha] at h
      rcases List.mem_cons.1 h with rfl | h
      · exact ha
      · exact mem_takeWhile h
    · rw [List.takeWhile_cons_of_neg ha] at h
      simp at h
theorem due_mem {m : M} {now k : Int} : k ∈ due m now ↔ (look m k).isSome = true ∧ lk m k ≤ now := by
  unfold due
  constructor
  · intro h
    have h1 := mem_takeWhile h
    exact ⟨order_mem.1 ((List.takeWhile_sublist _).subset h), by simpa using h1⟩
  · rintro ⟨h1, h2⟩
    obtain ⟨l1, l2, he⟩ := List.append_of_mem (order_mem.2 h1)
    have hs := order_sorted m
    rw [he] at hs ⊢
    have hall : ∀ x ∈ l1, decide (lk m x ≤ now) = true := by
      intro x hx
      have := (List.pairwise_append.1 hs).2.2 x hx k List.mem_cons_self
      rw [le_iff] at this
      rw [decide_eq_true_iff]
      omega
    rw [List.takeWhile_append_of_pos hall, List.takeWhile_cons_of_pos (by simpa using h2)]
    simp
theorem look_rest (m : M) (now k : Int) : look (rest m now) k = if lk m k ≤ now then none else look m k := by
  unfold rest
  rw [look_delAll]
  by_cases h : lk m k ≤ now
  · rw [if_pos h]
    cases hs : look m k with
    | none => split <;> rfl
    | some v => rw [if_pos (due_mem.2 ⟨by rw [hs]; rfl, h⟩)]
  · rw [if_neg h, if_neg (fun hh => h (due_mem.1 hh).2)]
theorem mem_rest {m : M} (ho : Ok m) {now : Int} {p : Int × Int} (hp : p ∈ rest m now) : now < p.2 ∧ look m p.1 = some p.2 := by
  have h1 := look_of_mem (rest_ok ho now) hp
  rw [look_rest] at h1
  split at h1
  · cases h1
  · rename_i h
    refine ⟨?_, h1⟩
    unfold lk at h
    rw [h1] at h
    simp at h
    exact h
/-- The first by tick and key. -/
theorem order_head {m : M} {k : Int} {r : List Int} (h : order m = k :: r) : (look m k).isSome = true ∧ ∀ x, (look m x).isSome = true → le m k x = true := by
  refine ⟨order_mem.1 (by rw [h]; exact List.mem_cons_self), fun x hx => ?_⟩
  have hm := order_mem.2 hx
  have hs := order_sorted m
  rw [h] at hm hs
  rcases List.mem_cons.1 hm with rfl | hm
  · rw [le_iff]
    omega
  · exact (List.pairwise_cons.1 hs).1 x hm
theorem length_delAll {m : M} (h : Ok m) (ks : List Int) (hn : ks.Nodup) (hk : ∀ k ∈ ks, (look m k).isSome = true) : (delAll m ks).length + ks.length = m.length := by
  induction ks generalizing m with
  | nil => rfl
  | cons k ks ih =>
    have hc := List.nodup_cons.1 hn
    have := ih (del_ok h k) hc.2 fun x hx => by
      rw [look_del, if_neg (by rintro rfl; exact hc.1 hx)]
      exact hk x (List.mem_cons_of_mem _ hx)
    have h1 := length_del h k
    rw [hk k List.mem_cons_self, if_pos rfl] at h1
    show (delAll (del m k) ks).length + (ks.length + 1) = m.length
    omega
theorem due_nodup {m : M} (h : Ok m) (now : Int) : (due m now).Nodup := (order_nodup h).sublist (List.takeWhile_sublist _)
theorem length_rest {m : M} (h : Ok m) (now : Int) : (rest m now).length + (due m now).length = m.length :=
  length_delAll h _ (due_nodup h now) fun _ hk => (due_mem.1 hk).1
end Go.Proofs.Ytidbkkebkgeioaa.Tm
