import Derived.Test.YthoammfpjheodaaRaT
import Derived.Test.YthoammfpjheodaaRaC
namespace Go.Proofs.Ythoammfpjheodaa.Rz
open Go
set_option linter.unusedVariables false
set_option linter.unusedSimpArgs false
/-! mixes, in plain words -/
/-- The pieces of a message. -/
structure Grp (g : List Pm) : Prop where
  pos : 0 < g.length
  t : ∀ k (h : k < g.length), g[k].t = step (g[0]'pos).t k
  b : ∀ k (h : k < g.length), g[k].b = decide (k = 0)
  e : ∀ k (h : k < g.length), g[k].e = decide (k + 1 = g.length)
  len : g.length ≤ 1000000
  u : U32 (g[0]'pos).t
theorem Grp.back {g : List Pm} (h : Grp g) (k : Nat) (hk : k + 1 < g.length) : step g[k + 1].t (-1) = g[k].t := by
  rw [h.t (k + 1) hk, h.t k (by omega), step_step]
  congr 1
  omega
theorem Grp.next {g : List Pm} (h : Grp g) (k : Nat) (hk : k + 1 < g.length) : step (g[k]'(by omega)).t 1 = g[k + 1].t := by
  rw [h.t (k + 1) hk, h.t k (by omega), step_step]
  congr 1
/-- What lies on a bench of a message's numbers is the message's. -/
def Mine (r g : List Pm) : Prop := ∀ k (h : k < g.length) q, look r g[k].t = some q → q = g[k]
theorem bk_all {r g : List Pm} (h : Grp g) (hm : Mine r g) : ∀ (n k : Nat) (hk : k < g.length), k < n → (∀ j (hj : j < g.length), j < k → (look r g[j].t).isSome = true) → bk r n g[k] = g.take k
  | 0, k, hk, hn, _ => absurd hn (Nat.not_lt_zero _)
  | n + 1, 0, hk, hn, _ => by
    rw [bk, h.b 0 hk]
    simp
  | n + 1, k + 1, hk, hn, hall => by
    rw [bk, h.b (k + 1) hk, h.back k hk]
    have hs := hall k (by omega) (by omega)
    cases hl : look r (g[k]'(by omega)).t with
    | none => rw [hl] at hs; cases hs
    | some q =>
      have hq := hm k (by omega) q hl
      subst hq
      have he := h.e k (by omega)
      have : decide (k + 1 = g.length) = false := by simp; omega
      rw [this] at he
      simp only [he]
      rw [bk_all h hm n k (by omega) (by omega) (fun j hj hjk => hall j hj (by omega))]
      simp
theorem fwd_all {r g : List Pm} (h : Grp g) (hm : Mine r g) : ∀ (n k : Nat) (hk : k < g.length), g.length - k ≤ n → (∀ j (hj : j < g.length), k < j → (look r g[j].t).isSome = true) → fwd r n g[k] = g.drop (k + 1)
  | 0, k, hk, hn, _ => by omega
  | n + 1, k, hk, hn, hall => by
    rw [fwd, h.e k hk]
    by_cases hlast : k + 1 = g.length
    · rw [decide_eq_true hlast, hlast]
      simp
    · have hk1 : k + 1 < g.length := by omega
      have hd : decide (k + 1 = g.length) = false := by simpa using hlast
      rw [hd, h.next k hk1]
      have hs := hall (k + 1) hk1 (by omega)
      cases hl : look r g[k + 1].t with
      | none => rw [hl] at hs; cases hs
      | some q =>
        have hq := hm (k + 1) hk1 q hl
        subst hq
        have hb := h.b (k + 1) hk1
        simp at hb
        simp only [hb]
        rw [fwd_all h hm n (k + 1) hk1 (by omega) (fun j hj hjk => hall j hj (by omega))]
        rw [List.drop_eq_getElem_cons hk1]
        rfl
/-! more rounds than there are pieces change nothing -/
theorem bk_fuel {m : List Pm} : ∀ (n : Nat) (p : Pm) (k : Nat), (bk m n p).length < n → bk m (n + k) p = bk m n p
  | 0, _, _, h => absurd h (Nat.not_lt_zero _)
  | n + 1, p, k, h => by
    rw [show n + 1 + k = (n + k) + 1 by omega]
    rw [bk] at h ⊢
    conv => rhs; rw [bk]
    split
    · rfl
    · rename_i he
      rw [if_neg he] at h
      cases ha : look m (step p.t (-1)) with
      | none => rfl
      | some a =>
        rw [ha] at h
        simp only at h ⊢
        split
        · rfl
        · rename_i hb
          rw [if_neg hb, List.length_append, List.length_singleton] at h
          rw [bk_fuel n a k (by omega)]
theorem bk_chain {m : List Pm} : ∀ (n : Nat) (p : Pm) (i : Nat), i < (bk m n p).length → step (step p.t (-1)) (-1 * (i : Int)) ∈ keys m
  | 0, _, i, h => absurd h (Nat.not_lt_zero _)
  | n + 1, p, i, h => by
    rw [bk] at h
    split at h
    · exact absurd h (Nat.not_lt_zero _)
    · split at h
      · exact absurd h (Nat.not_lt_zero _)
      · rename_i q hl
        have hq := look_mem hl
        split at h
        · exact absurd h (Nat.not_lt_zero _)
        · rw [List.length_append, List.length_singleton] at h
          rcases Nat.eq_zero_or_pos i with h0 | h0
          · subst h0
            rw [show (-1 * ((0 : Nat) : Int)) = 0 from rfl, step_zero (step_u _ _), ← hq.2]
            exact List.mem_map.2 ⟨q, hq.1, rfl⟩
          · have := bk_chain (m := m) n q (i - 1) (by omega)
            rw [hq.2] at this
            rw [show step (step p.t (-1)) (-1 * (i : Int)) = step (step (step p.t (-1)) (-1)) (-1 * ((i - 1 : Nat) : Int)) by rw [step_step, step_step, step_step]; congr 1; omega]
            exact this
theorem fwd_chain {m : List Pm} : ∀ (n : Nat) (p : Pm) (i : Nat), i < (fwd m n p).length → step (step p.t 1) (1 * (i : Int)) ∈ keys m
  | 0, _, i, h => absurd h (Nat.not_lt_zero _)
  | n + 1, p, i, h => by
    rw [fwd] at h
    split at h
    · exact absurd h (Nat.not_lt_zero _)
    · split at h
      · exact absurd h (Nat.not_lt_zero _)
      · rename_i q hl
        have hq := look_mem hl
        split at h
        · exact absurd h (Nat.not_lt_zero _)
        · rw [List.length_cons] at h
          rcases Nat.eq_zero_or_pos i with h0 | h0
          · subst h0
            rw [show (1 * ((0 : Nat) : Int)) = 0 from rfl, step_zero (step_u _ _), ← hq.2]
            exact List.mem_map.2 ⟨q, hq.1, rfl⟩
          · have := fwd_chain (m := m) n q (i - 1) (by omega)
            rw [hq.2] at this
            rw [show step (step p.t 1) (1 * (i : Int)) = step (step (step p.t 1) 1) (1 * ((i - 1 : Nat) : Int)) by rw [step_step, step_step, step_step]; congr 1; omega]
            exact this
theorem bk_len {m : List Pm} (hm : m.length < 4000000) (n : Nat) (hn : n < 4000000000) (p : Pm) : (bk m n p).length ≤ m.length := by
  rcases Nat.eq_zero_or_pos (bk m n p).length with h | h
  · omega
  · have hle := bk_le (m := m) n p
    have := chain_len (m := m) (t := step p.t (-1)) (.inr rfl) (j := (bk m n p).length - 1) (by omega) (fun i hi => bk_chain n p i (by omega))
    omega
theorem fwd_len {m : List Pm} (hm : m.length < 4000000) (n : Nat) (hn : n < 4000000000) (p : Pm) : (fwd m n p).length ≤ m.length := by
  rcases Nat.eq_zero_or_pos (fwd m n p).length with h | h
  · omega
  · have hle := fwd_le (m := m) n p
    have := chain_len (m := m) (t := step p.t 1) (.inl rfl) (j := (fwd m n p).length - 1) (by omega) (fun i hi => fwd_chain n p i (by omega))
    omega
theorem rpart_fuel {m : List Pm} (hm : m.length < 4000000) (p : Pm) (k : Nat) : rpart m p = (bk m (m.length + 1 + k) p ++ [p]) ++ fwd m (m.length + 1 + k) p := by
  unfold rpart
  rw [bk_fuel (m.length + 1) p k (by have := bk_len hm (m.length + 1) (by omega) p; omega), fwd_more (m.length + 1) p k (by have := fwd_len hm (m.length + 1) (by omega) p; omega)]
theorem rpart_all {r g : List Pm} (h : Grp g) (hm : Mine r g) (hr : r.length < 4000000) (k : Nat) (hk : k < g.length) (hall : ∀ j (hj : j < g.length), j ≠ k → (look r g[j].t).isSome = true) : rpart r g[k] = g := by
  rw [rpart_fuel hr g[k] g.length, bk_all h hm (r.length + 1 + g.length) k hk (by omega) (fun j hj hjk => hall j hj (by omega)), fwd_all h hm (r.length + 1 + g.length) k hk (by omega) (fun j hj hjk => hall j hj (by omega))]
  rw [List.append_assoc, List.singleton_append, ← List.drop_eq_getElem_cons hk, List.take_append_drop]
theorem bk_some {r g : List Pm} (h : Grp g) (hm : Mine r g) : ∀ (n k : Nat) (hk : k < g.length), k < n → ((bk r n g[k] ++ [g[k]]).head?.map (·.b)).getD false = true → ∀ j (hj : j < g.length), j < k → (look r g[j].t).isSome = true
  | 0, k, hk, hn, _ => absurd hn (Nat.not_lt_zero _)
  | n + 1, 0, hk, hn, _ => fun j hj hjk => absurd hjk (Nat.not_lt_zero _)
  | n + 1, k + 1, hk, hn, hc => by
    have hb := h.b (k + 1) hk
    simp at hb
    rw [bk, h.b (k + 1) hk, h.back k hk] at hc
    cases hl : look r (g[k]'(by omega)).t with
    | none =>
      rw [hl] at hc
      simp [hb] at hc
    | some q =>
      have hq := hm k (by omega) q hl
      subst hq
      have he := h.e k (by omega)
      have hd : decide (k + 1 = g.length) = false := by simp; omega
      rw [hd] at he
      rw [hl] at hc
      simp only [he] at hc
      have hc2 : ((bk r n (g[k]'(by omega)) ++ [g[k]'(by omega)]).head?.map (·.b)).getD false = true := by
        have e : ∀ (a : List Pm) (x y : Pm), ((a ++ [x]) ++ [y]).head? = (a ++ [x]).head? := fun a x y => by cases a <;> rfl
        simpa [e] using hc
      have ih := bk_some h hm n k (by omega) (by omega) hc2
      intro j hj hjk
      rcases Nat.lt_or_ge j k with h1 | h1
      · exact ih j hj h1
      · obtain rfl : j = k := by omega
        rw [hl]; rfl
theorem fwd_some {r g : List Pm} (h : Grp g) (hm : Mine r g) : ∀ (n k : Nat) (hk : k < g.length), g.length - k ≤ n → (((g[k] :: fwd r n g[k]).getLast?.map (·.e)).getD false = true) → ∀ j (hj : j < g.length), k < j → (look r g[j].t).isSome = true
  | 0, k, hk, hn, _ => by omega
  | n + 1, k, hk, hn, hc => by
    intro j hj hjk
    have hk1 : k + 1 < g.length := by omega
    have hek := h.e k hk
    have hd : decide (k + 1 = g.length) = false := by simp; omega
    rw [hd] at hek
    rw [fwd, hek, h.next k hk1] at hc
    cases hl : look r g[k + 1].t with
    | none =>
      rw [hl] at hc
      simp [hek] at hc
    | some q =>
      have hq := hm (k + 1) hk1 q hl
      subst hq
      have hb := h.b (k + 1) hk1
      simp at hb
      rw [hl] at hc
      simp only [hb] at hc
      have hc2 : ((g[k + 1] :: fwd r n g[k + 1]).getLast?.map (·.e)).getD false = true := by
        simpa [List.getLast?_cons_cons] using hc
      have ih := fwd_some h hm n (k + 1) hk1 (by omega) hc2
      rcases Nat.lt_or_ge (k + 1) j with h1 | h1
      · exact ih j hj h1
      · obtain rfl : j = k + 1 := by omega
        rw [hl]; rfl
theorem head_app (a : List Pm) (x : Pm) (b : List Pm) : ((a ++ [x]) ++ b).head? = (a ++ [x]).head? := by cases a <;> rfl
theorem last_app (a : List Pm) (x : Pm) (b : List Pm) : ((a ++ [x]) ++ b).getLast? = (x :: b).getLast? := by
  rw [List.append_assoc, List.singleton_append]
  rw [List.getLast?_append]
  cases hb : (x :: b).getLast? with
  | none => simp at hb
  | some y => rfl
/-- A part is closed just where all the others have come. -/
theorem closed_all {r g : List Pm} (h : Grp g) (hm : Mine r g) (hr : r.length < 4000000) (k : Nat) (hk : k < g.length) (hc : closed (rpart r g[k]) = true) : ∀ j (hj : j < g.length), j ≠ k → (look r g[j].t).isSome = true := by
  rw [rpart_fuel hr g[k] g.length] at hc
  unfold closed at hc
  rw [head_app, last_app, Bool.and_eq_true] at hc
  intro j hj hjk
  rcases Nat.lt_or_ge j k with h1 | h1
  · exact bk_some h hm _ k hk (by omega) hc.1 j hj h1
  · exact fwd_some h hm _ k hk (by omega) hc.2 j hj (by omega)
end Go.Proofs.Ythoammfpjheodaa.Rz
