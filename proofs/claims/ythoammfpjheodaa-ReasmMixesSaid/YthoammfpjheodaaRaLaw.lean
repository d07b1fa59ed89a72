import Derived.Test.YthoammfpjheodaaRaB
namespace Go.Proofs.Ythoammfpjheodaa.Rz
open Go
set_option linter.unusedVariables false
set_option linter.unusedSimpArgs false
/-! the document's parts, and the program's -/
/-- The pieces ahead of a piece, as the document has them. -/
def bk (m : List Pm) : Nat → Pm → List Pm
  | 0, _ => []
  | n + 1, p => if p.b then [] else match look m (step p.t (-1)) with
    | none => []
    | some q => if q.e then [] else bk m n q ++ [q]
def rpart (m : List Pm) (p : Pm) : List Pm := (bk m (m.length + 1) p ++ [p]) ++ fwd m (m.length + 1) p
/-- As the way back has come: the list so far. -/
structure RBack (m : List Pm) (p : Pm) (j : Nat) (q : Pm) (L : List Pm) : Prop where
  eq : bk m (m.length + 1) p ++ [p] = bk m (m.length + 1 - j) q ++ L
  ch : ∀ i : Nat, i < j → step (step p.t (-1)) (-1 * i) ∈ keys m
  at_ : q.t = step p.t (-1 * j)
  len : L.length = j + 1
  head : L.head? = some q
  mem : ∀ a ∈ L, a ∈ m ∨ a = p
  last : L.getLast? = some p
theorem RBack.zero {m : List Pm} {p : Pm} (hu : U32 p.t) : RBack m p 0 p [p] :=
  ⟨by simp, fun i hi => absurd hi (Nat.not_lt_zero _), by rw [show (-1 * ((0 : Nat) : Int)) = 0 from rfl, step_zero hu], rfl, rfl, fun a ha => .inr (List.mem_singleton.1 ha), rfl⟩
theorem RBack.lt {m L : List Pm} {p q : Pm} {j : Nat} (h : RBack m p j q L) (hm : m.length < 4000000000) (hj : j ≤ m.length + 1) : j ≤ m.length := by
  rcases Nat.eq_zero_or_pos j with h0 | h0
  · omega
  · have := chain_len (m := m) (t := step p.t (-1)) (.inr rfl) (j := j - 1) (by omega) (fun i hi => h.ch i (by omega))
    omega
theorem RBack.stop {m L : List Pm} {p q : Pm} {j : Nat} (h : RBack m p j q L) (hj : j ≤ m.length) (hs : q.b = true ∨ ∀ r, look m (step q.t (-1)) = some r → r.e = true) : bk m (m.length + 1) p ++ [p] = L := by
  rw [h.eq, show m.length + 1 - j = (m.length - j) + 1 by omega, bk]
  rcases hs with hs | hs
  · rw [if_pos hs]; rfl
  · split
    · rfl
    · cases hl : look m (step q.t (-1)) with
      | none => rfl
      | some r => simp [hs r hl]
theorem RBack.go {m L : List Pm} {p q r : Pm} {j : Nat} (h : RBack m p j q L) (hj : j ≤ m.length) (hb : q.b = false) (hl : look m (step q.t (-1)) = some r) (he : r.e = false) : RBack m p (j + 1) r (r :: L) := by
  have hq := look_mem hl
  have e : step q.t (-1) = step p.t (-1 * ((j + 1 : Nat) : Int)) := by
    rw [h.at_, step_step]
    congr 1
    omega
  have e2 : step (step p.t (-1)) (-1 * (j : Int)) = step p.t (-1 * ((j + 1 : Nat) : Int)) := by
    rw [step_step]
    congr 1
    omega
  refine ⟨?_, fun i hi => ?_, by rw [hq.2, e], by rw [List.length_cons, h.len], rfl, fun a ha => ?_, ?_⟩
  · rw [h.eq, show m.length + 1 - j = (m.length + 1 - (j + 1)) + 1 by omega, bk, hb, hl]
    simp [he]
  · rcases Nat.lt_or_ge i j with hi' | hi'
    · exact h.ch i hi'
    · obtain rfl : i = j := by omega
      rw [e2, ← e, ← hq.2]
      exact List.mem_map.2 ⟨r, hq.1, rfl⟩
  · rcases List.mem_cons.1 ha with rfl | ha
    · exact .inl hq.1
    · exact h.mem a ha
  · have := h.last
    cases L with
    | nil => simp at this
    | cons a L => simpa using this
/-- As the way on has come. -/
structure RFwd (m : List Pm) (p : Pm) (K : List Pm) (j : Nat) (q : Pm) (L : List Pm) : Prop where
  eq : K ++ fwd m (m.length + 1) p = L ++ fwd m (m.length + 1 - j) q
  ch : ∀ i : Nat, i < j → step (step p.t 1) (1 * i) ∈ keys m
  at_ : q.t = step p.t (1 * j)
  len : L.length = K.length + j
  last : L.getLast? = some q
  mem : ∀ a ∈ L, a ∈ m ∨ a = p
theorem RFwd.zero {m K : List Pm} {p : Pm} (hu : U32 p.t) (hK : K.getLast? = some p) (hm : ∀ a ∈ K, a ∈ m ∨ a = p) : RFwd m p K 0 p K :=
  ⟨by simp, fun i hi => absurd hi (Nat.not_lt_zero _), by rw [show (1 * ((0 : Nat) : Int)) = 0 from rfl, step_zero hu], rfl, hK, hm⟩
theorem RFwd.lt {m K L : List Pm} {p q : Pm} {j : Nat} (h : RFwd m p K j q L) (hm : m.length < 4000000000) (hj : j ≤ m.length + 1) : j ≤ m.length := by
  rcases Nat.eq_zero_or_pos j with h0 | h0
  · omega
  · have := chain_len (m := m) (t := step p.t 1) (.inl rfl) (j := j - 1) (by omega) (fun i hi => h.ch i (by omega))
    omega
theorem RFwd.stop {m K L : List Pm} {p q : Pm} {j : Nat} (h : RFwd m p K j q L) (hj : j ≤ m.length) (hs : q.e = true ∨ ∀ r, look m (step q.t 1) = some r → r.b = true) : K ++ fwd m (m.length + 1) p = L := by
  rw [h.eq, show m.length + 1 - j = (m.length - j) + 1 by omega, fwd]
  rcases hs with hs | hs
  · rw [if_pos hs, List.append_nil]
  · split
    · rw [List.append_nil]
    · cases hl : look m (step q.t 1) with
      | none => simp
      | some r => simp [hs r hl]
theorem RFwd.go {m K L : List Pm} {p q r : Pm} {j : Nat} (h : RFwd m p K j q L) (hj : j ≤ m.length) (he : q.e = false) (hl : look m (step q.t 1) = some r) (hb : r.b = false) : RFwd m p K (j + 1) r (L ++ [r]) := by
  have hq := look_mem hl
  have e : step q.t 1 = step p.t (1 * ((j + 1 : Nat) : Int)) := by
    rw [h.at_, step_step]
    congr 1
  have e2 : step (step p.t 1) (1 * (j : Int)) = step p.t (1 * ((j + 1 : Nat) : Int)) := by
    rw [step_step]
    congr 1
    omega
  refine ⟨?_, fun i hi => ?_, by rw [hq.2, e], by rw [List.length_append, h.len, List.length_singleton, Nat.add_assoc], by simp, fun a ha => ?_⟩
  · rw [h.eq, show m.length + 1 - j = (m.length + 1 - (j + 1)) + 1 by omega, fwd, he, hl]
    simp [hb]
  · rcases Nat.lt_or_ge i j with hi' | hi'
    · exact h.ch i hi'
    · obtain rfl : i = j := by omega
      rw [e2, ← e, ← hq.2]
      exact List.mem_map.2 ⟨r, hq.1, rfl⟩
  · rcases List.mem_append.1 ha with ha | ha
    · exact h.mem a ha
    · rw [List.mem_singleton.1 ha]
      exact .inl hq.1
/-! Both are one. -/
theorem look_sim {m r : List Pm} (h : Sim m r) (t : Int) : (look m t).map core = (look r t).map core := by
  unfold Sim at h
  induction m generalizing r with
  | nil => cases r with
    | nil => rfl
    | cons b r => simp at h
  | cons a m ih => cases r with
    | nil => simp at h
    | cons b r =>
      rw [List.map_cons, List.map_cons, List.cons.injEq] at h
      have ht : b.t = a.t := (core_eq h.1).1
      unfold look
      rw [List.find?_cons, List.find?_cons, ht]
      cases a.t == t with
      | true => simp [h.1]
      | false => exact ih h.2
theorem Sim.refl (l : List Pm) : Sim l l := rfl
theorem Sim.symm {l r : List Pm} (h : Sim l r) : Sim r l := Eq.symm h
theorem Sim.trans {l r s : List Pm} (h : Sim l r) (k : Sim r s) : Sim l s := Eq.trans h k
theorem Sim.app {l r l' r' : List Pm} (h : Sim l r) (k : Sim l' r') : Sim (l ++ l') (r ++ r') := by unfold Sim at *; rw [List.map_append, List.map_append, h, k]
theorem Sim.keys {l r : List Pm} (h : Sim l r) : keys l = keys r := by
  have := congrArg (List.map fun p : Pm => p.t) h
  simpa [Rz.keys, core, Function.comp_def] using this
theorem Sim.held {l r : List Pm} (h : Sim l r) : held l = held r := by
  have := congrArg (List.map fun p : Pm => p.x.length) h
  unfold Rz.held
  simp [core, Function.comp_def] at this
  rw [this]
theorem fwd_sim {m r : List Pm} (h : Sim m r) : ∀ (n : Nat) (p q : Pm), q.t = p.t → q.e = p.e → Sim (fwd m n p) (fwd r n q)
  | 0, _, _, _, _ => rfl
  | n + 1, p, q, ht, he => by
    have hl := look_sim h (step p.t 1)
    rw [fwd, fwd, ht, he]
    split
    · rfl
    · cases ha : look m (step p.t 1) with
      | none =>
        rw [ha] at hl
        cases hb : look r (step p.t 1) with
        | none => rfl
        | some b => rw [hb] at hl; cases hl
      | some a =>
        rw [ha] at hl
        cases hb : look r (step p.t 1) with
        | none => rw [hb] at hl; cases hl
        | some b =>
          rw [hb] at hl
          have hc : core a = core b := Option.some.inj hl
          obtain ⟨e1, e2, e3, e4, e5, e6, e7⟩ := core_eq hc
          show Sim (if a.b = true then [] else a :: fwd m n a) (if b.b = true then [] else b :: fwd r n b)
          rw [e4]
          split
          · rfl
          · have := fwd_sim h n a b e1 e5
            unfold Sim at *
            rw [List.map_cons, List.map_cons, hc, this]
theorem bk_sim {m r : List Pm} (h : Sim m r) : ∀ (n : Nat) (p q : Pm), q.t = p.t → q.b = p.b → Sim (bk m n p) (bk r n q)
  | 0, _, _, _, _ => rfl
  | n + 1, p, q, ht, he => by
    have hl := look_sim h (step p.t (-1))
    rw [bk, bk, ht, he]
    split
    · rfl
    · cases ha : look m (step p.t (-1)) with
      | none =>
        rw [ha] at hl
        cases hb : look r (step p.t (-1)) with
        | none => rfl
        | some b => rw [hb] at hl; cases hl
      | some a =>
        rw [ha] at hl
        cases hb : look r (step p.t (-1)) with
        | none => rw [hb] at hl; cases hl
        | some b =>
          rw [hb] at hl
          have hc : core a = core b := Option.some.inj hl
          obtain ⟨e1, e2, e3, e4, e5, e6, e7⟩ := core_eq hc
          show Sim (if a.e = true then [] else bk m n a ++ [a]) (if b.e = true then [] else bk r n b ++ [b])
          rw [e5]
          split
          · rfl
          · exact (bk_sim h n a b e1 e4).app (by unfold Sim; rw [List.map_singleton, List.map_singleton, hc])
theorem rpart_sim {m r : List Pm} (h : Sim m r) {p q : Pm} (hp : core p = core q) : Sim (rpart m p) (rpart r q) := by
  obtain ⟨e1, e2, e3, e4, e5, e6, e7⟩ := core_eq hp
  unfold rpart
  rw [h.len]
  exact ((bk_sim h _ p q e1 e4).app (by unfold Sim; rw [List.map_singleton, List.map_singleton, hp])).app (fwd_sim h _ p q e1 e5)
theorem look_snoc_ne {m : List Pm} {p : Pm} {t : Int} (h : t ≠ p.t) : look (m ++ [p]) t = look m t := by
  unfold look
  rw [List.find?_append]
  have : ([p].find? fun r => r.t == t) = none := by simp; exact fun e => h e.symm
  rw [this]; simp
theorem step_ne {t k : Int} (hu : U32 t) (h1 : 0 < k) (h2 : k < 4294967296) : step t k ≠ t ∧ step t (-k) ≠ t := by
  unfold step U32 at *
  omega
theorem fwd_snoc {m : List Pm} {p : Pm} (hu : U32 p.t) : ∀ (n : Nat) (q : Pm) (j : Nat), q.t = step p.t j → j + n < 4294967296 → fwd (m ++ [p]) n q = fwd m n q
  | 0, _, _, _, _ => rfl
  | n + 1, q, j, ht, hj => by
    rw [fwd, fwd]
    have e : step q.t 1 = step p.t ((j + 1 : Nat) : Int) := by rw [ht, step_step]; congr 1
    rw [e, look_snoc_ne (step_ne hu (by omega) (by omega)).1]
    split
    · rfl
    · cases ha : look m (step p.t ((j + 1 : Nat) : Int)) with
      | none => rfl
      | some a => simp only [fwd_snoc hu n a (j + 1) (look_mem ha).2 (by omega)]
theorem bk_snoc {m : List Pm} {p : Pm} (hu : U32 p.t) : ∀ (n : Nat) (q : Pm) (j : Nat), q.t = step p.t (-j) → j + n < 4294967296 → bk (m ++ [p]) n q = bk m n q
  | 0, _, _, _, _ => rfl
  | n + 1, q, j, ht, hj => by
    rw [bk, bk]
    have e : step q.t (-1) = step p.t (-((j + 1 : Nat) : Int)) := by rw [ht, step_step]; congr 1; omega
    rw [e, look_snoc_ne (step_ne hu (by omega) (by omega)).2]
    split
    · rfl
    · cases ha : look m (step p.t (-((j + 1 : Nat) : Int))) with
      | none => rfl
      | some a => simp only [bk_snoc hu n a (j + 1) (look_mem ha).2 (by omega)]
theorem fwd_more {m : List Pm} : ∀ (n : Nat) (p : Pm) (k : Nat), (fwd m n p).length < n → fwd m (n + k) p = fwd m n p
  | 0, _, _, h => absurd h (Nat.not_lt_zero _)
  | n + 1, p, k, h => by
    rw [show n + 1 + k = (n + k) + 1 by omega]
    rw [fwd] at h ⊢
    conv => rhs; rw [fwd]
    split
    · rfl
    · rename_i he
      rw [if_neg he] at h
      cases ha : look m (step p.t 1) with
      | none => rfl
      | some a =>
        rw [ha] at h
        simp only at h ⊢
        split
        · rfl
        · rename_i hb
          rw [if_neg hb, List.length_cons] at h
          rw [fwd_more n a k (by omega)]
/-- The program's way, told by the document's. -/
theorem back_bk {m : List Pm} (hn : (keys m).Nodup) : ∀ (n : Nat) (p p' : Pm), p' ∈ m → p'.t = p.t → p'.b = p.b → U32 p.t →
    (bk m n p).length ≤ n ∧ ∃ r, (r = p ∨ r = p') ∧ ∀ k, back m n p :: fwd m ((bk m n p).length + k) (back m n p) = bk m n p ++ (r :: fwd m k r)
  | 0, p, p', _, _, _, _ => ⟨Nat.le_refl _, p, .inl rfl, fun k => by simp [bk, back]⟩
  | n + 1, p, p', hp, ht, hb', hu => by
    rw [back, bk]
    split
    · exact ⟨Nat.zero_le _, p, .inl rfl, fun k => by simp⟩
    · rename_i hb
      have hb : p.b = false := by simpa using hb
      cases hl : look m (step p.t (-1)) with
      | none => exact ⟨Nat.zero_le _, p, .inl rfl, fun k => by simp⟩
      | some q =>
        by_cases he : q.e = true
        · simp only [he, if_true]
          exact ⟨Nat.zero_le _, p, .inl rfl, fun k => by simp⟩
        · have he : q.e = false := by simpa using he
          simp only [he, Bool.false_eq_true, if_false]
          have hq := look_mem hl
          obtain ⟨h0, r, h2, h1⟩ := back_bk hn n q q hq.1 rfl rfl (by rw [hq.2]; exact step_u _ _)
          obtain rfl : r = q := h2.elim id id
          have hst : step r.t 1 = p.t := by
            rw [hq.2, step_step, show ((-1 : Int) + 1) = 0 from rfl, step_zero hu]
          have hlk : look m (step r.t 1) = some p' := by rw [hst, ← ht]; exact look_some hn hp
          refine ⟨by simp; exact h0, p', .inr rfl, fun k => ?_⟩
          rw [List.length_append, List.length_singleton, show (bk m n r).length + 1 + k = (bk m n r).length + (k + 1) by omega, h1 (k + 1), fwd, he, hlk]
          simp [hb', hb]
theorem fwd_le {m : List Pm} : ∀ (n : Nat) (p : Pm), (fwd m n p).length ≤ n
  | 0, _ => Nat.le_refl _
  | n + 1, p => by
    rw [fwd]
    split
    · exact Nat.zero_le _
    · split
      · exact Nat.zero_le _
      · split
        · exact Nat.zero_le _
        · simp only [List.length_cons]
          have := fwd_le n (m := m) ‹Pm›
          omega
/-- The program's part is the document's. -/
theorem part_rpart {m : List Pm} {p p' : Pm} (hm : m.length ≤ 1000000) (hu : U32 p.t) (hall : ∀ q ∈ m, U32 q.t) (hc : core p' = core p) (hn : (keys (m ++ [p'])).Nodup) : Sim (part (m ++ [p']) p) (rpart m p) := by
  obtain ⟨e1, e2, e3, e4, e5, e6, e7⟩ := core_eq hc
  have hu' : U32 p'.t := by rw [← e1]; exact hu
  have hk : p.t ∈ keys (m ++ [p']) := List.mem_map.2 ⟨p', by simp, e1.symm⟩
  have hallM : ∀ q ∈ m ++ [p'], U32 q.t := fun q hq => by
    rcases List.mem_append.1 hq with hq | hq
    · exact hall q hq
    · rw [List.mem_singleton.1 hq]; exact hu'
  have hL : (m ++ [p']).length = m.length + 1 := by simp
  obtain ⟨M, hM⟩ : ∃ M, M = m ++ [p'] := ⟨_, rfl⟩
  rw [← hM] at hn hk hallM hL ⊢
  obtain ⟨h0, r, hr, h1⟩ := back_bk hn M.length p p' (by rw [hM]; simp) e1.symm e4.symm hu
  have hf : back M M.length p = p ∨ back M M.length p ∈ M := back_mem M M.length p
  have hfk : (back M M.length p).t ∈ keys M := by
    rcases hf with h | h
    · rw [h]; exact hk
    · exact List.mem_map.2 ⟨_, h, rfl⟩
  have hfu : U32 (back M M.length p).t := by
    rcases hf with h | h
    · rw [h]; exact hu
    · exact hallM _ h
  obtain ⟨j, r', hF, hj⟩ := fwd_total (m := M) (f := back M M.length p) (by omega) M.length 0 _ _ (FwdAt.zero hfu hfk) (Nat.zero_le _) (by omega)
  have hlen := hF.len
  have h2 := h1 (M.length - (bk M M.length p).length)
  rw [show (bk M M.length p).length + (M.length - (bk M M.length p).length) = M.length by omega] at h2
  rw [h2, List.length_append, List.length_cons] at hlen
  have h3 := fwd_more (m := M) (M.length - (bk M M.length p).length) r (bk M M.length p).length (by omega)
  rw [show M.length - (bk M M.length p).length + (bk M M.length p).length = M.length by omega] at h3
  have hp : part M p = bk M M.length p ++ (r :: fwd M M.length r) := by
    unfold part
    rw [h2, h3]
  have hrt : r.t = p.t ∧ r.e = p.e ∧ core r = core p := by
    rcases hr with rfl | rfl
    · exact ⟨rfl, rfl, rfl⟩
    · exact ⟨e1.symm, e5.symm, hc⟩
  have hz : step p'.t ((0 : Nat) : Int) = p'.t := step_zero hu'
  rw [hp]
  unfold rpart
  rw [hL, List.append_assoc]
  have k1 : bk M (m.length + 1) p = bk m (m.length + 1) p := by
    rw [hM]
    exact bk_snoc hu' _ p 0 (by rw [e1]; exact (step_zero hu').symm) (by omega)
  have k2 : fwd M (m.length + 1) p = fwd m (m.length + 1) p := by
    rw [hM]
    exact fwd_snoc hu' _ p 0 (by rw [e1]; exact (step_zero hu').symm) (by omega)
  rw [← k2, k1]
  refine (Sim.refl _).app ?_
  have := fwd_sim (Sim.refl M) (m.length + 1) r p hrt.1.symm hrt.2.1.symm
  unfold Sim at *
  rw [List.map_cons, List.singleton_append, List.map_cons, hrt.2.2, this]
/-- What the document's Put answers. -/
def rleft (r l : List Pm) : List Pm := r.filter fun q => !(look l q.t).isSome
theorem look_isSome {l : List Pm} {t : Int} : (look l t).isSome = decide (t ∈ keys l) := by
  cases h : look l t with
  | none =>
    have := look_none h
    have hn : t ∉ keys l := fun hm => by
      obtain ⟨p, hp, e⟩ := List.mem_map.1 hm
      exact this p hp e
    simp [hn]
  | some p =>
    have := look_mem h
    have hn : t ∈ keys l := List.mem_map.2 ⟨p, this.1, this.2⟩
    simp [hn]
theorem off_filter : ∀ (l m : List Pm), off m l = m.filter fun q => !decide (q.t ∈ keys l)
  | [], m => by
    unfold off keys
    exact (List.filter_eq_self.2 (by simp)).symm
  | p :: l, m => by
    have : off m (p :: l) = off (del m p.t) l := rfl
    rw [this, off_filter l]
    unfold del
    rw [List.filter_filter]
    congr 1
    funext q
    unfold keys
    by_cases h : q.t = p.t
    · simp [h]
    · simp [h]
theorem filter_sim {f : Int → Bool} : ∀ {m r : List Pm}, Sim m r → Sim (m.filter fun q => f q.t) (r.filter fun q => f q.t)
  | [], [], _ => rfl
  | [], b :: r, h => by simp [Sim] at h
  | a :: m, [], h => by simp [Sim] at h
  | a :: m, b :: r, h => by
    unfold Sim at h
    rw [List.map_cons, List.map_cons, List.cons.injEq] at h
    have ht : b.t = a.t := (core_eq h.1).1
    have ih := filter_sim (f := f) (m := m) (r := r) h.2
    unfold Sim at ih ⊢
    rw [List.filter_cons, List.filter_cons, ht]
    split
    · rw [List.map_cons, List.map_cons, h.1, ih]
    · exact ih
/-- What is left, by both. -/
theorem off_left {m r l k : List Pm} {p' : Pm} (h : Sim m r) (hl : Sim l k) (hp : p'.t ∈ keys l) : Sim (off (m ++ [p']) l) (rleft r k) := by
  rw [off_filter, List.filter_append]
  have e : ([p'].filter fun q => !decide (q.t ∈ keys l)) = [] := by simp [hp]
  rw [e, List.append_nil]
  unfold rleft
  simp only [look_isSome, ← hl.keys]
  exact filter_sim (f := fun t => !decide (t ∈ keys l)) h
theorem closed_sim {l k : List Pm} (h : Sim l k) : closed l = closed k := by
  have h1 := congrArg List.head? h
  have h2 := congrArg List.getLast? h
  simp only [List.head?_map, List.getLast?_map] at h1 h2
  unfold closed
  have a : l.head?.map (·.b) = k.head?.map (·.b) := by
    have := congrArg (Option.map fun p : Pm => p.b) h1
    simpa [core, Function.comp_def] using this
  have b : l.getLast?.map (·.e) = k.getLast?.map (·.e) := by
    have := congrArg (Option.map fun p : Pm => p.e) h2
    simpa [core, Function.comp_def] using this
  rw [a, b]
end Go.Proofs.Ythoammfpjheodaa.Rz
