import Derived.WalkKit
/-! Benches of pieces, in plain words. -/
namespace Go.Proofs.Ythoammfpjheodaa.Rz
open Go
set_option linter.unusedVariables false
/-- A piece, and where its text lies. -/
structure Pm where
  t : Int
  s : Int
  q : Int
  b : Bool
  e : Bool
  u : Bool
  A : Option Addr
  x : List Int
  c : Nat
def look (m : List Pm) (t : Int) : Option Pm := m.find? fun p => p.t == t
def held (m : List Pm) : Nat := (m.map fun p => p.x.length).sum
def step (t k : Int) : Int := (t + k) % 4294967296
def U32 (x : Int) : Prop := 0 ≤ x ∧ x < 4294967296
def keys (m : List Pm) : List Int := m.map fun p => p.t
/-- The first piece of a piece's part. -/
def back (m : List Pm) : Nat → Pm → Pm
  | 0, p => p
  | n + 1, p => if p.b then p else match look m (step p.t (-1)) with
    | none => p
    | some q => if q.e then p else back m n q
/-- The pieces behind a piece. -/
def fwd (m : List Pm) : Nat → Pm → List Pm
  | 0, _ => []
  | n + 1, p => if p.e then [] else match look m (step p.t 1) with
    | none => []
    | some q => if q.b then [] else q :: fwd m n q
def part (m : List Pm) (p : Pm) : List Pm := back m m.length p :: fwd m m.length (back m m.length p)
def closed (l : List Pm) : Bool := (l.head?.map (·.b)).getD false && (l.getLast?.map (·.e)).getD false
def del (m : List Pm) (t : Int) : List Pm := m.filter fun r => r.t != t
def off (m : List Pm) (l : List Pm) : List Pm := l.foldl (fun m p => del m p.t) m
theorem look_mem {m : List Pm} {t : Int} {p : Pm} (h : look m t = some p) : p ∈ m ∧ p.t = t := by
  unfold look at h
  exact ⟨List.mem_of_find?_eq_some h, by simpa using List.find?_some h⟩
theorem look_none {m : List Pm} {t : Int} (h : look m t = none) : ∀ p ∈ m, p.t ≠ t := by
  unfold look at h
  intro p hp e
  have := List.find?_eq_none.1 h p hp
  simp [e] at this
theorem look_some {m : List Pm} {p : Pm} (hn : (keys m).Nodup) (hp : p ∈ m) : look m p.t = some p := by
  induction m with
  | nil => cases hp
  | cons r m ih =>
    unfold look
    rw [List.find?_cons]
    unfold keys at hn
    rw [List.map_cons, List.nodup_cons] at hn
    by_cases h : r.t = p.t
    · have : r = p := by
        rcases List.mem_cons.1 hp with rfl | h'
        · rfl
        · exact absurd (List.mem_map.2 ⟨p, h', h.symm⟩) hn.1
      subst this
      simp
    · have hb : (r.t == p.t) = false := by simpa using h
      rw [hb]
      rcases List.mem_cons.1 hp with rfl | h'
      · exact absurd rfl h
      · exact ih hn.2 h'
theorem len_sub : ∀ (L K : List Int), L.Nodup → (∀ x ∈ L, x ∈ K) → L.length ≤ K.length
  | [], K, _, _ => Nat.zero_le _
  | x :: L, K, hn, hs => by
    rw [List.nodup_cons] at hn
    have hx : x ∈ K := hs x (by simp)
    have h := len_sub L (K.erase x) hn.2 fun y hy => (List.mem_erase_of_ne (fun e => hn.1 (by rw [← e]; exact hy))).2 (hs y (List.mem_cons_of_mem _ hy))
    rw [List.length_erase_of_mem hx] at h
    have : 0 < K.length := List.length_pos_of_mem hx
    simp only [List.length_cons]
    omega
/-- Steps in one direction that all are there are no more than there are pieces. -/
theorem chain_len {m : List Pm} {t d : Int} (hd : d = 1 ∨ d = -1) {j : Nat} (hj : j < 4294967296) (h : ∀ i : Nat, i ≤ j → step t (d * i) ∈ keys m) : j + 1 ≤ m.length := by
  have := len_sub ((List.range (j + 1)).map fun i : Nat => step t (d * i)) (keys m) (by
    refine List.pairwise_map.2 (List.Pairwise.imp_of_mem ?_ (List.nodup_range (n := j + 1)))
    intro a b ha hb hab e
    have ha := List.mem_range.1 ha
    have hb := List.mem_range.1 hb
    unfold step at e
    rcases hd with rfl | rfl <;> omega) (by
    intro x hx
    obtain ⟨i, hi, rfl⟩ := List.mem_map.1 hx
    exact h i (by have := List.mem_range.1 hi; omega))
  simpa [keys] using this
theorem step_step (t a b : Int) : step (step t a) b = step t (a + b) := by unfold step; omega
theorem step_zero {t : Int} (h : U32 t) : step t 0 = t := by unfold U32 at h; unfold step; omega
theorem step_u (t a : Int) : U32 (step t a) := by unfold step U32; omega
theorem keys_del (m : List Pm) (t : Int) : keys (del m t) = (keys m).filter (· != t) := by
  unfold keys del
  rw [List.filter_map]
  rfl
theorem nodup_del {m : List Pm} (h : (keys m).Nodup) (t : Int) : (keys (del m t)).Nodup := by
  rw [keys_del]
  exact List.Pairwise.filter _ h
theorem mem_del {m : List Pm} {t : Int} {p : Pm} : p ∈ del m t ↔ p ∈ m ∧ p.t ≠ t := by
  unfold del
  simp
theorem look_del (m : List Pm) (t y : Int) : look (del m t) y = if y = t then none else look m y := by
  unfold look del
  rw [List.find?_filter]
  split
  · rename_i h
    subst h
    rw [List.find?_eq_none]
    intro p _
    by_cases h : p.t = y <;> simp [h]
  · rename_i h
    congr 1
    funext p
    by_cases h1 : p.t = y
    · subst h1; simp [h]
    · simp [h1]
theorem look_app (m : List Pm) (p : Pm) (y : Int) (h : look m p.t = none) : look (m ++ [p]) y = if y = p.t then some p else look m y := by
  unfold look at *
  rw [List.find?_append]
  split
  · rename_i e
    subst e
    rw [h]
    simp
  · rename_i e
    have : ([p].find? fun r => r.t == y) = none := by
      rw [List.find?_eq_none]
      intro r hr
      rw [List.mem_singleton.1 hr]
      simpa using fun e' => e e'.symm
    rw [this]
    simp
theorem held_nil : held [] = 0 := rfl
theorem held_app (m : List Pm) (p : Pm) : held (m ++ [p]) = held m + p.x.length := by
  unfold held
  simp
theorem held_del {m : List Pm} (hn : (keys m).Nodup) {p : Pm} (hp : p ∈ m) : held (del m p.t) + p.x.length = held m := by
  induction m with
  | nil => cases hp
  | cons r m ih =>
    have hn' := hn
    unfold keys at hn'
    rw [List.map_cons, List.nodup_cons] at hn'
    unfold del held
    rcases List.mem_cons.1 hp with rfl | h'
    · have hd : m.filter (fun r => r.t != p.t) = m := by
        rw [List.filter_eq_self]
        intro a ha
        have : a.t ≠ p.t := fun e => hn'.1 (List.mem_map.2 ⟨a, ha, e⟩)
        simpa using this
      rw [List.filter_cons]
      simp only [bne_self_eq_false, Bool.false_eq_true, if_false]
      rw [hd]
      simp [Nat.add_comm]
    · have hne : r.t ≠ p.t := fun e => hn'.1 (List.mem_map.2 ⟨p, h', e.symm⟩)
      have hb : (r.t != p.t) = true := by simpa using hne
      rw [List.filter_cons, if_pos hb, List.map_cons, List.sum_cons, List.map_cons, List.sum_cons]
      have := ih hn'.2 h'
      unfold del held at this
      omega
theorem len_del {m : List Pm} (hn : (keys m).Nodup) (t : Int) : (del m t).length = if (look m t).isSome then m.length - 1 else m.length := by
  induction m with
  | nil => rfl
  | cons r m ih =>
    have hn' := hn
    unfold keys at hn'
    rw [List.map_cons, List.nodup_cons] at hn'
    unfold del look
    rw [List.filter_cons, List.find?_cons]
    by_cases h : r.t = t
    · subst h
      have hd : m.filter (fun a => a.t != r.t) = m := by
        rw [List.filter_eq_self]
        intro a ha
        have : a.t ≠ r.t := fun e => hn'.1 (List.mem_map.2 ⟨a, ha, e⟩)
        simpa using this
      simp [hd]
    · have hb : (r.t == t) = false := by simpa using h
      have hb2 : (r.t != t) = true := by simpa using h
      rw [if_pos hb2, hb]
      have := ih hn'.2
      unfold del look at this
      rw [List.length_cons, this]
      split
      · rename_i hs
        have : 0 < m.length := by
          cases m with
          | nil => simp at hs
          | cons _ _ => simp
        simp only [List.length_cons]
        omega
      · rfl
/-- How far the way back has come. -/
structure BackAt (m : List Pm) (p : Pm) (j : Nat) (r : Pm) : Prop where
  eq : back m m.length p = back m (m.length - j) r
  ch : ∀ i : Nat, i ≤ j → step p.t (-1 * i) ∈ keys m
  at_ : r.t = step p.t (-1 * j)
  mem : r ∈ m ∨ r = p
theorem BackAt.lt {m : List Pm} {p r : Pm} {j : Nat} (h : BackAt m p j r) (hm : m.length < 4000000000) (hj : j ≤ m.length) : j + 1 ≤ m.length := chain_len (.inr rfl) (by omega) h.ch
theorem BackAt.zero {m : List Pm} {p : Pm} (hu : U32 p.t) (h : p.t ∈ keys m) : BackAt m p 0 p :=
  ⟨by simp, fun i hi => by
    obtain rfl : i = 0 := by omega
    rw [show (-1 * ((0 : Nat) : Int)) = 0 from rfl, step_zero hu]
    exact h, by rw [show (-1 * ((0 : Nat) : Int)) = 0 from rfl, step_zero hu], .inr rfl⟩
theorem BackAt.stop {m : List Pm} {p r : Pm} {j : Nat} (h : BackAt m p j r) (hj : j + 1 ≤ m.length) (hs : r.b = true ∨ ∀ q, look m (step r.t (-1)) = some q → q.e = true) : back m m.length p = r := by
  rw [h.eq, show m.length - j = (m.length - j - 1) + 1 by omega, back]
  rcases hs with hs | hs
  · rw [if_pos hs]
  · split
    · rfl
    · cases hl : look m (step r.t (-1)) with
      | none => rfl
      | some q => simp [hs q hl]
theorem BackAt.go {m : List Pm} {p r q : Pm} {j : Nat} (h : BackAt m p j r) (hj : j + 1 ≤ m.length) (hb : r.b = false) (hl : look m (step r.t (-1)) = some q) (he : q.e = false) : BackAt m p (j + 1) q := by
  have hq := look_mem hl
  have e : step r.t (-1) = step p.t (-1 * ((j + 1 : Nat) : Int)) := by
    rw [h.at_, step_step]
    congr 1
    omega
  refine ⟨?_, fun i hi => ?_, by rw [hq.2, e], .inl hq.1⟩
  · rw [h.eq, show m.length - j = (m.length - (j + 1)) + 1 by omega, back, hb, hl]
    simp [he]
  · rcases Nat.lt_or_ge i (j + 1) with hi' | hi'
    · exact h.ch i (by omega)
    · obtain rfl : i = j + 1 := by omega
      rw [← e, ← hq.2]
      exact List.mem_map.2 ⟨q, hq.1, rfl⟩
/-- How far the way on has come. -/
structure FwdAt (m : List Pm) (f : Pm) (l : List Pm) (j : Nat) (r : Pm) : Prop where
  eq : f :: fwd m m.length f = l ++ fwd m (m.length - j) r
  ks : keys l = (List.range (j + 1)).map fun i : Nat => step f.t (1 * i)
  ch : ∀ i : Nat, i ≤ j → step f.t (1 * i) ∈ keys m
  last : l.getLast? = some r
  at_ : r.t = step f.t (1 * j)
  mem : ∀ a ∈ l, a ∈ m ∨ a = f
theorem FwdAt.lt {m l : List Pm} {f r : Pm} {j : Nat} (h : FwdAt m f l j r) (hm : m.length < 4000000000) (hj : j ≤ m.length) : j + 1 ≤ m.length := chain_len (.inl rfl) (by omega) h.ch
theorem FwdAt.len {m l : List Pm} {f r : Pm} {j : Nat} (h : FwdAt m f l j r) : l.length = j + 1 := by
  have := congrArg List.length h.ks
  simpa [keys] using this
theorem FwdAt.zero {m : List Pm} {f : Pm} (hu : U32 f.t) (h : f.t ∈ keys m) : FwdAt m f [f] 0 f := by
  have e : step f.t (1 * ((0 : Nat) : Int)) = f.t := by rw [show (1 * ((0 : Nat) : Int)) = 0 from rfl, step_zero hu]
  refine ⟨by simp, by simp [keys, step_zero hu], fun i hi => ?_, rfl, e.symm, fun a ha => .inr (List.mem_singleton.1 ha)⟩
  obtain rfl : i = 0 := by omega
  rw [e]
  exact h
theorem FwdAt.stop {m l : List Pm} {f r : Pm} {j : Nat} (h : FwdAt m f l j r) (hj : j + 1 ≤ m.length) (hs : r.e = true ∨ ∀ q, look m (step r.t 1) = some q → q.b = true) : f :: fwd m m.length f = l := by
  rw [h.eq, show m.length - j = (m.length - j - 1) + 1 by omega, fwd]
  rcases hs with hs | hs
  · rw [if_pos hs, List.append_nil]
  · split
    · rw [List.append_nil]
    · cases hl : look m (step r.t 1) with
      | none => simp
      | some q => simp [hs q hl]
theorem FwdAt.go {m l : List Pm} {f r q : Pm} {j : Nat} (h : FwdAt m f l j r) (hj : j + 1 ≤ m.length) (he : r.e = false) (hl : look m (step r.t 1) = some q) (hb : q.b = false) : FwdAt m f (l ++ [q]) (j + 1) q := by
  have hq := look_mem hl
  have e : step r.t 1 = step f.t (1 * ((j + 1 : Nat) : Int)) := by
    rw [h.at_, step_step]
    congr 1
  refine ⟨?_, ?_, fun i hi => ?_, by simp, by rw [hq.2, e], fun a ha => ?_⟩
  · rw [h.eq, show m.length - j = (m.length - (j + 1)) + 1 by omega, fwd, he, hl]
    simp [hb]
  · have h1 := h.ks
    unfold keys at h1 ⊢
    rw [List.map_append, h1, List.range_succ (n := j + 1), List.map_append]
    simp only [List.map_cons, List.map_nil]
    rw [hq.2, e]
  · rcases Nat.lt_or_ge i (j + 1) with hi' | hi'
    · exact h.ch i (by omega)
    · obtain rfl : i = j + 1 := by omega
      rw [← e, ← hq.2]
      exact List.mem_map.2 ⟨q, hq.1, rfl⟩
  · rcases List.mem_append.1 ha with ha | ha
    · exact h.mem a ha
    · rw [List.mem_singleton.1 ha]
      exact .inl hq.1
theorem FwdAt.nodup {m l : List Pm} {f r : Pm} {j : Nat} (h : FwdAt m f l j r) (hj : j < 4294967296) : (keys l).Nodup := by
  rw [h.ks]
  refine List.pairwise_map.2 (List.Pairwise.imp_of_mem ?_ (List.nodup_range (n := j + 1)))
  intro a b ha hb hab e
  have ha := List.mem_range.1 ha
  have hb := List.mem_range.1 hb
  unfold step at e
  omega
/-- A part has the piece that it is the part of. -/
theorem reach {m : List Pm} (hn : (keys m).Nodup) : ∀ (n : Nat) (p : Pm), (∃ p' ∈ m, p'.t = p.t ∧ p'.b = p.b) → U32 p.t →
    ∃ i, i ≤ n ∧ ∃ (l : List Pm) (r : Pm), (∀ k, back m n p :: fwd m (i + k) (back m n p) = l ++ (r :: fwd m k r)) ∧ r.t = p.t ∧ (r = p ∨ r ∈ m)
  | 0, p, _, _ => ⟨0, Nat.le_refl _, [], p, fun k => by rw [Nat.zero_add]; rfl, rfl, .inl rfl⟩
  | n + 1, p, hp, hu => by
    rw [back]
    split
    · exact ⟨0, Nat.zero_le _, [], p, fun k => by rw [Nat.zero_add]; rfl, rfl, .inl rfl⟩
    · rename_i hb
      have hb : p.b = false := by simpa using hb
      cases hl : look m (step p.t (-1)) with
      | none => exact ⟨0, Nat.zero_le _, [], p, fun k => by rw [Nat.zero_add]; rfl, rfl, .inl rfl⟩
      | some q =>
        by_cases he : q.e = true
        · simp only [he, if_true]
          exact ⟨0, Nat.zero_le _, [], p, fun k => by rw [Nat.zero_add]; rfl, rfl, .inl rfl⟩
        · have he : q.e = false := by simpa using he
          simp only [he, Bool.false_eq_true, if_false]
          have hq := look_mem hl
          obtain ⟨i, hi, l, r, h1, h2, h3⟩ := reach hn n q ⟨q, hq.1, rfl, rfl⟩ (by rw [hq.2]; exact step_u _ _)
          have hrq : r = q := by
            rcases h3 with h3 | h3
            · exact h3
            · have e1 := look_some hn h3
              have e2 := look_some hn hq.1
              rw [h2, e2] at e1
              exact (Option.some.inj e1).symm
          subst hrq
          obtain ⟨p', hp', ht, hb'⟩ := hp
          have hst : step r.t 1 = p.t := by
            rw [hq.2, step_step, show ((-1 : Int) + 1) = 0 from rfl, step_zero hu]
          have hlk : look m (step r.t 1) = some p' := by rw [hst, ← ht]; exact look_some hn hp'
          refine ⟨i + 1, by omega, l ++ [r], p', fun k => ?_, ht, .inr hp'⟩
          rw [show i + 1 + k = i + (k + 1) by omega, h1 (k + 1), fwd, he, hlk]
          simp [hb', hb]
theorem part_has {m : List Pm} (hn : (keys m).Nodup) {p : Pm} (hp : ∃ p' ∈ m, p'.t = p.t ∧ p'.b = p.b) (hu : U32 p.t) : p.t ∈ keys (part m p) := by
  obtain ⟨i, hi, l, r, h1, h2, h3⟩ := reach hn m.length p hp hu
  unfold part
  have := h1 (m.length - i)
  rw [show i + (m.length - i) = m.length by omega] at this
  rw [this]
  unfold keys
  simp [h2]
end Go.Proofs.Ythoammfpjheodaa.Rz
