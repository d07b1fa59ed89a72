import Derived.Test.YthoammfpjheodaaRmCut
namespace Go.Proofs.Ythoammfpjheodaa.Rz
open Go
set_option linter.unusedVariables false
set_option linter.unusedSimpArgs false
/-! mixes: all messages' pieces, in plain words -/
/-- A message. -/
structure Mg where
  s : Int
  u : Bool
  A : Option Addr
  x : List Int
  c : Nat
/-- All pieces, each with its message's place. -/
def remOf (gs : List (List Pm)) : List (Pm × Nat) := gs.zipIdx.flatMap fun c => c.1.map fun p => (p, c.2)
theorem remOf_nil : remOf [] = [] := rfl
theorem remOf_snoc (gs : List (List Pm)) (g : List Pm) : remOf (gs ++ [g]) = remOf gs ++ g.map fun p => (p, gs.length) := by
  unfold remOf
  rw [List.zipIdx_append, List.flatMap_append]
  simp
theorem remOf_mem {gs : List (List Pm)} {p : Pm} {i : Nat} : (p, i) ∈ remOf gs ↔ ∃ hi : i < gs.length, p ∈ gs[i] := by
  unfold remOf
  rw [List.mem_flatMap]
  constructor
  · rintro ⟨⟨g, j⟩, hg, hp⟩
    obtain ⟨q, hq, e⟩ := List.mem_map.1 hp
    obtain ⟨rfl, rfl⟩ := Prod.mk.inj e
    have := List.mem_zipIdx_iff_getElem?.1 hg
    obtain ⟨hj, e⟩ := List.getElem?_eq_some_iff.1 this
    exact ⟨hj, by show q ∈ gs[(g, j).2]; rw [e]; exact hq⟩
  · rintro ⟨hi, hp⟩
    exact ⟨(gs[i], i), List.mem_zipIdx_iff_getElem?.2 (List.getElem?_eq_getElem hi), List.mem_map.2 ⟨p, hp, rfl⟩⟩
theorem remOf_fst (gs : List (List Pm)) : (remOf gs).map (·.1) = gs.flatten := by
  suffices h : ∀ (gs : List (List Pm)) (n : Nat), ((gs.zipIdx n).flatMap fun c => c.1.map fun p => (p, c.2)).map (·.1) = gs.flatten from h gs 0
  intro gs
  induction gs with
  | nil => intro n; rfl
  | cons g gs ih =>
    intro n
    rw [List.zipIdx_cons, List.flatMap_cons, List.map_append, ih, List.flatten_cons, List.map_map]
    congr 1
    exact List.map_id' g
theorem remOf_len (gs : List (List Pm)) : (remOf gs).length = gs.flatten.length := by rw [← remOf_fst, List.length_map]
/-- How many are left of a message. -/
def leftN (rem : List (Pm × Nat)) (i : Nat) : Nat := rem.countP fun c => decide (c.2 = i)
theorem leftN_app (a b : List (Pm × Nat)) (i : Nat) : leftN (a ++ b) i = leftN a i + leftN b i := List.countP_append
theorem leftN_zero {rem : List (Pm × Nat)} {i : Nat} : leftN rem i = 0 ↔ ∀ p, (p, i) ∉ rem := by
  unfold leftN
  rw [List.countP_eq_zero]
  constructor
  · intro h p hp
    exact h _ hp (by simp)
  · rintro h ⟨p, j⟩ hc hj
    simp at hj
    subst hj
    exact h p hc
theorem leftN_map (g : List Pm) (n i : Nat) : leftN (g.map fun p => (p, n)) i = if n = i then g.length else 0 := by
  unfold leftN
  rw [List.countP_map]
  by_cases h : n = i
  · rw [if_pos h, List.countP_eq_length]
    intro p hp
    simp [h]
  · rw [if_neg h, List.countP_eq_zero]
    intro p hp
    simp [h]
theorem leftN_remOf (gs : List (List Pm)) : ∀ i (hi : i < gs.length), leftN (remOf gs) i = gs[i].length := by
  suffices h : ∀ n (hn : n ≤ gs.length), ∀ i (hi : i < gs.length), i < n → leftN (remOf (gs.take n)) i = gs[i].length by
    intro i hi
    have := h gs.length (Nat.le_refl _) i hi hi
    rwa [List.take_length] at this
  intro n
  induction n with
  | zero => exact fun _ i _ h => absurd h (Nat.not_lt_zero _)
  | succ n ih =>
    intro hn i hi hin
    rw [List.take_succ_eq_append_getElem (by omega), remOf_snoc, leftN_app, leftN_map, List.length_take, Nat.min_eq_left (by omega)]
    by_cases h : n = i
    · subst h
      rw [if_pos rfl, leftN_zero.2 (fun p hp => by
        obtain ⟨hi', _⟩ := remOf_mem.1 hp
        rw [List.length_take] at hi'
        omega)]
      omega
    · rw [if_neg h, ih (by omega) i hi (by omega)]
      omega
/-- One taken out. -/
def rid {α : Type} (l : List α) (n : Nat) : List α := l.take n ++ l.drop (n + 1)
theorem rid_map {α β : Type} (f : α → β) (l : List α) (n : Nat) : (rid l n).map f = rid (l.map f) n := by
  unfold rid
  rw [List.map_append, List.map_take, List.map_drop]
theorem rid_len {α : Type} (l : List α) (n : Nat) (h : n < l.length) : (rid l n).length + 1 = l.length := by
  unfold rid
  rw [List.length_append, List.length_take, List.length_drop]
  omega
theorem rid_split {α : Type} (l : List α) (n : Nat) (h : n < l.length) : l = l.take n ++ l[n] :: l.drop (n + 1) := by
  rw [← List.drop_eq_getElem_cons h, List.take_append_drop]
theorem rid_mem {α : Type} {l : List α} {n : Nat} (hn : l.Nodup) (h : n < l.length) (c : α) : c ∈ rid l n ↔ c ∈ l ∧ c ≠ l[n] := by
  have hs := rid_split l n h
  generalize l[n] = a at hs ⊢
  rw [hs, List.nodup_append] at hn
  obtain ⟨_, h2, h3⟩ := hn
  rw [List.nodup_cons] at h2
  unfold rid
  constructor
  · intro hc
    refine ⟨?_, ?_⟩
    · rw [hs]
      rcases List.mem_append.1 hc with h' | h'
      · exact List.mem_append_left _ h'
      · exact List.mem_append_right _ (List.mem_cons_of_mem _ h')
    · rintro rfl
      rcases List.mem_append.1 hc with h' | h'
      · exact h3 _ h' _ List.mem_cons_self rfl
      · exact h2.1 h'
  · rintro ⟨hc, hne⟩
    rw [hs] at hc
    rcases List.mem_append.1 hc with h' | h'
    · exact List.mem_append_left _ h'
    · rcases List.mem_cons.1 h' with h' | h'
      · exact absurd h' hne
      · exact List.mem_append_right _ h'
theorem rid_nodup {α : Type} {l : List α} {n : Nat} (hn : l.Nodup) : (rid l n).Nodup := by
  unfold rid
  have : (l.take n ++ l.drop (n + 1)).Sublist l := by
    conv => rhs; rw [← List.take_append_drop n l]
    exact List.Sublist.append (List.Sublist.refl _) (by rw [← List.drop_drop]; exact List.drop_sublist _ _)
  exact hn.sublist this
theorem leftN_rid {rem : List (Pm × Nat)} {n : Nat} (h : n < rem.length) (i : Nat) : leftN (rid rem n) i + (if rem[n].2 = i then 1 else 0) = leftN rem i := by
  have hs := rid_split rem n h
  conv => rhs; rw [hs]
  unfold rid
  rw [leftN_app, leftN_app]
  unfold leftN
  rw [List.countP_cons]
  simp only [decide_eq_true_eq]
  omega
/-- The messages cut one behind the other. -/
structure Chain (l : List Mg) (tsn : Int) (z : Nat) (gs : List (List Pm)) : Prop where
  len : gs.length ≤ l.length
  cut : ∀ i (h : i < gs.length) (h' : i < l.length), ∃ seq, Cuts l[i].s l[i].u l[i].x (step tsn ((gs.take i).flatten.length : Nat)) seq z gs[i]
theorem Chain.nil (l : List Mg) (tsn : Int) (z : Nat) : Chain l tsn z [] := ⟨Nat.zero_le _, fun i h => absurd h (Nat.not_lt_zero _)⟩
theorem Chain.snoc {l : List Mg} {tsn : Int} {z : Nat} {gs : List (List Pm)} {g : List Pm} (h : Chain l tsn z gs) (hl : gs.length < l.length) {seq : Int} (hg : Cuts l[gs.length].s l[gs.length].u l[gs.length].x (step tsn (gs.flatten.length : Nat)) seq z g) : Chain l tsn z (gs ++ [g]) := by
  refine ⟨by simp; omega, fun i hi hi' => ?_⟩
  rw [List.length_append, List.length_singleton] at hi
  rcases Nat.lt_or_ge i gs.length with h1 | h1
  · obtain ⟨seq', hs⟩ := h.cut i h1 hi'
    refine ⟨seq', ?_⟩
    rw [List.getElem_append_left h1, List.take_append_of_le_length (by omega)]
    exact hs
  · obtain rfl : i = gs.length := by omega
    refine ⟨seq, ?_⟩
    rw [List.getElem_append_right (Nat.le_refl _), List.take_append_of_le_length (Nat.le_refl _), List.take_length]
    simpa using hg
theorem Chain.keys {l : List Mg} {tsn : Int} {z : Nat} {gs : List (List Pm)} (h : Chain l tsn z gs) (hu : U32 tsn) : Rz.keys gs.flatten = (List.range gs.flatten.length).map fun k => step tsn (k : Nat) := by
  suffices hh : ∀ n, n ≤ gs.length → Rz.keys (gs.take n).flatten = (List.range (gs.take n).flatten.length).map fun k => step tsn (k : Nat) by
    have := hh gs.length (Nat.le_refl _)
    rwa [List.take_length] at this
  intro n
  induction n with
  | zero => intro _; rfl
  | succ n ih =>
    intro hn
    have hl := h.len
    obtain ⟨seq, hc⟩ := h.cut n (by omega) (by omega)
    rw [List.take_succ_eq_append_getElem (by omega), List.flatten_append, List.flatten_singleton]
    unfold Rz.keys at ih ⊢
    rw [List.map_append, List.length_append, List.range_add, List.map_append, ih (by omega)]
    congr 1
    apply List.ext_getElem
    · simp
    · intro k h1 h2
      have hk : k < gs[n].length := by simpa using h1
      simp only [List.getElem_map, List.getElem_range]
      rw [(hc.flds k hk).1, step_step]
      congr 1
theorem Chain.bound {l : List Mg} {tsn : Int} {z : Nat} {gs : List (List Pm)} (h : Chain l tsn z gs) : gs.flatten.length ≤ gs.length * 400 ∧ held gs.flatten ≤ gs.length * 400 := by
  suffices hh : ∀ n, n ≤ gs.length → (gs.take n).flatten.length ≤ n * 400 ∧ held (gs.take n).flatten ≤ n * 400 by
    have := hh gs.length (Nat.le_refl _)
    rwa [List.take_length] at this
  intro n
  induction n with
  | zero => intro _; exact ⟨Nat.le_refl _, Nat.le_refl _⟩
  | succ n ih =>
    intro hn
    have hl := h.len
    obtain ⟨seq, hc⟩ := h.cut n (by omega) (by omega)
    obtain ⟨i1, i2⟩ := ih (by omega)
    rw [List.take_succ_eq_append_getElem (by omega), List.flatten_append, List.flatten_singleton, List.length_append]
    have h1 := hc.pos.2
    have h2 := hc.held
    have h3 := hc.hx.2
    have h4 : held ((gs.take n).flatten ++ gs[n]) = held (gs.take n).flatten + held gs[n] := by
      unfold held
      rw [List.map_append, List.sum_append]
    omega
theorem held_snoc (gs : List (List Pm)) (g : List Pm) : held (gs ++ [g]).flatten = held gs.flatten + held g := by
  rw [List.flatten_append, List.flatten_singleton]
  unfold held
  rw [List.map_append, List.sum_append]
theorem Chain.ok {l : List Mg} {tsn : Int} {z : Nat} {gs : List (List Pm)} (h : Chain l tsn z gs) (hu : U32 tsn) (hh : held gs.flatten ≤ 2000) (hn : gs.flatten.length ≤ 300) : MixOk gs := by
  have hl := h.len
  have at_ : ∀ g ∈ gs, ∃ (m : Mg) (t seq : Int), Cuts m.s m.u m.x t seq z g := fun g hg => by
    obtain ⟨i, hi, rfl⟩ := List.getElem_of_mem hg
    obtain ⟨seq, hc⟩ := h.cut i hi (by omega)
    exact ⟨_, _, _, hc⟩
  refine ⟨fun g hg => ?_, ?_, fun p hp => ?_, hh, by omega, fun g hg => ?_⟩
  · obtain ⟨m, t, seq, hc⟩ := at_ g hg
    exact hc.grp
  · rw [h.keys hu, List.nodup_iff_pairwise_ne, List.pairwise_map]
    refine List.Pairwise.imp_of_mem (R := fun a b => a ≠ b) ?_ (List.nodup_range)
    intro a b ha hb hne e
    rw [List.mem_range] at ha hb
    unfold step at e
    omega
  · obtain ⟨g, hg, hp⟩ := List.mem_flatten.1 hp
    obtain ⟨m, t, seq, hc⟩ := at_ g hg
    exact hc.right p hp
  · obtain ⟨m, t, seq, hc⟩ := at_ g hg
    rw [hc.whole]
    rfl
theorem Chain.whole {l : List Mg} {tsn : Int} {z : Nat} {gs : List (List Pm)} (h : Chain l tsn z gs) (i : Nat) (hi : i < gs.length) (hi' : i < l.length) : wholeP gs[i] = some (l[i].s, l[i].u, l[i].x) := by
  obtain ⟨seq, hc⟩ := h.cut i hi hi'
  exact hc.whole
/-- At the beginning all is to come. -/
theorem mix_zero {gs : List (List Pm)} (hg : MixOk gs) : MixInv gs [] (remOf gs) := by
  refine MixInv.zero ?_ (fun c hc => remOf_mem.1 (by cases c; exact hc)) (fun i hi p hp => remOf_mem.2 ⟨hi, hp⟩)
  have := hg.nod
  rw [← remOf_fst] at this
  unfold keys at this
  rw [List.map_map] at this
  exact List.Pairwise.of_map (S := (· ≠ ·)) _ (fun a b h e => h (by rw [e])) this
end Go.Proofs.Ythoammfpjheodaa.Rz
