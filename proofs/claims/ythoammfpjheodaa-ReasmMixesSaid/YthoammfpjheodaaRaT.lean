import Derived.Test.YthoammfpjheodaaRaS
namespace Go.Proofs.Ythoammfpjheodaa.Rz
open Go.ChangeShapes Go.WideShapes Go.ChangeAt Go.RowKit Go.Shelf MK Go.Joins
open Base (hid cell_new1 cell_old1 froz_new1 froz_old1)
attribute [local go_sem] Oper.semAt_some
set_option linter.unusedVariables false
set_option linter.unusedSimpArgs false
set_option maxRecDepth 100000
/-! Put, by both: one answer -/
theorem textP_core (l : List Pm) : textP (l.map core) = textP l := by
  unfold textP
  rw [List.flatMap_map]
  rfl
theorem joinedP_core (l : List Pm) : joinedP (l.map core) = joinedP l := by
  unfold joinedP
  rw [List.length_map]
  congr 2
  funext i
  rw [List.getElem?_map]
  cases h : l[i]? with
  | none => rfl
  | some p =>
    simp only [Option.map_some, Option.getD_some]
    unfold okAt
    rw [List.length_map, List.getElem?_map]
    cases h2 : l[i - 1]? with
    | none => rfl
    | some q => rfl
theorem wholeP_core (l : List Pm) : wholeP (l.map core) = wholeP l := by
  cases l with
  | nil => rfl
  | cons p l =>
    have h1 := joinedP_core (p :: l)
    have h2 := textP_core (p :: l)
    unfold wholeP
    rw [List.map_cons] at *
    simp only [h1, h2]
    rfl
theorem wholeP_sim {l k : List Pm} (h : Sim l k) : wholeP l = wholeP k := by rw [← wholeP_core l, h, wholeP_core]
theorem headq_sim {l k : List Pm} (h : Sim l k) : l.head?.map (·.q) = k.head?.map (·.q) := by
  have h1 := congrArg List.head? h
  simp only [List.head?_map] at h1
  have := congrArg (Option.map fun p : Pm => p.q) h1
  simpa [core, Function.comp_def] using this
theorem mayE_sim {m r : List Pm} (h : Sim m r) {p q : Pm} (hc : core q = core p) : mayE m q = mayE r p := by
  obtain ⟨e1, e2, e3, e4, e5, e6, e7⟩ := core_eq hc
  unfold mayE rightP
  rw [look_isSome, look_isSome, h.keys, h.held, e1, e2, e7]
/-- The answer. -/
structure Out where
  r : List Pm
  s : Int
  u : Bool
  x : List Int
  q : Int
  ok : Bool
  er : Int
def outP (r : List Pm) (p : Pm) : Out :=
  if mayE r p ≠ 0 then ⟨r, 0, false, [], 0, false, mayE r p⟩
  else if closed (rpart r p) = false then ⟨r ++ [p], 0, false, [], 0, false, 0⟩
  else match wholeP (rpart r p) with
    | none => ⟨rleft r (rpart r p), 0, false, [], 0, false, 2⟩
    | some (s, u, x) => ⟨rleft r (rpart r p), s, u, x, ((rpart r p).head?.map (·.q)).getD 0, true, 0⟩
theorem rleft_mem {r l : List Pm} : ∀ a ∈ rleft r l, a ∈ r := fun a ha => (List.mem_filter.1 ha).1
theorem rleft_len {r l : List Pm} : (rleft r l).length ≤ r.length := List.length_filter_le _ _
theorem outP_mem {r : List Pm} {p : Pm} : ∀ a ∈ (outP r p).r, a ∈ r ∨ a = p := by
  intro a ha
  unfold outP at ha
  split at ha
  · exact .inl ha
  · split at ha
    · rcases List.mem_append.1 ha with h | h
      · exact .inl h
      · exact .inr (List.mem_singleton.1 h)
    · split at ha
      · exact .inl (rleft_mem a ha)
      · exact .inl (rleft_mem a ha)
theorem outP_len {r : List Pm} {p : Pm} : (outP r p).r.length ≤ r.length + 1 := by
  unfold outP
  split
  · simp
  · split
    · simp
    · split
      · exact Nat.le_succ_of_le rleft_len
      · exact Nat.le_succ_of_le rleft_len
theorem held_filter (f : Pm → Bool) (r : List Pm) : held (r.filter f) ≤ held r := by
  induction r with
  | nil => exact Nat.le_refl _
  | cons p r ih =>
    unfold held at ih ⊢
    rw [List.filter_cons, List.map_cons, List.sum_cons]
    split
    · rw [List.map_cons, List.sum_cons]; omega
    · omega
theorem outP_held {r : List Pm} {p : Pm} (h : held r ≤ 2000) : held (outP r p).r ≤ 2000 := by
  unfold outP
  split
  · exact h
  · rename_i h0
    have h0 : mayE r p = 0 := by simpa using h0
    obtain ⟨_, _, h3⟩ := may_zero h0
    split
    · rw [held_app]; exact h3
    · split
      · exact Nat.le_trans (held_filter _ _) h
      · exact Nat.le_trans (held_filter _ _) h
theorem outP_x {r : List Pm} {p : Pm} (h : ∀ a ∈ r, 1 ≤ a.x.length ∧ a.x.length ≤ 64) : ∀ a ∈ (outP r p).r, 1 ≤ a.x.length ∧ a.x.length ≤ 64 := by
  intro a ha
  unfold outP at ha
  split at ha
  · exact h a ha
  · rename_i h0
    have h0 : mayE r p = 0 := by simpa using h0
    obtain ⟨h1, _, h3⟩ := may_zero h0
    unfold rightP at h1
    simp at h1
    split at ha
    · rcases List.mem_append.1 ha with ha | ha
      · exact h a ha
      · rw [List.mem_singleton.1 ha]; omega
    · split at ha
      · exact h a (rleft_mem a ha)
      · exact h a (rleft_mem a ha)
theorem wholeP_by {l : List Pm} (h : ∀ p ∈ l, By p.x) {s : Int} {u : Bool} {x : List Int} (hw : wholeP l = some (s, u, x)) : By x := by
  have hx : x = textP l := by
    unfold wholeP at hw
    split at hw
    · cases hw
    · split at hw
      · cases hw; rfl
      · cases hw
  subst hx
  intro b hb
  unfold textP at hb
  obtain ⟨p, hp, hb⟩ := List.mem_flatMap.1 hb
  exact h p hp b hb
theorem outP_by {r : List Pm} {p : Pm} (h : ∀ a ∈ r, By a.x) (hp : By p.x) : By (outP r p).x := by
  unfold outP
  split
  · exact fun b hb => by cases hb
  · split
    · exact fun b hb => by cases hb
    · cases hw : wholeP (rpart r p) with
      | none => exact fun b hb => by cases hb
      | some m =>
        obtain ⟨s, u, x⟩ := m
        refine wholeP_by (l := rpart r p) (fun a ha => ?_) hw
        rcases rpart_mem a ha with h' | h'
        · exact h a h'
        · rw [h']; exact hp
/-- What the document's Put answers, told by the answer. -/
theorem rput_out {w : World} {A : Option Addr} {c : Nat} {r : List Pm} {p : Pm} {e : Ending} {w' : World} (h : RPutPost w A c r p e w') (hr : InR w A c r) (hp : Inp w p) (hb : Below w.heap.size w w') (hm : r.length ≤ 1000) :
    ∃ A' c' A2 c2, e = .returned (.tuple #[.slice A' (outP r p).r.length c', .agg #[.int .i64 (outP r p).s, .bool (outP r p).u, .slice A2 (outP r p).x.length c2], .int .u16 (outP r p).q, .bool (outP r p).ok, .int .i64 (outP r p).er]) ∧
      InR w' A' c' (outP r p).r ∧ ((A' = A ∧ (outP r p).r = r) ∨ ∀ ad, A' = some ad → w.heap.size ≤ ad.block) ∧ Txt w' A2 (outP r p).x ∧ (A2 = none → c2 = 0) ∧ (∀ ad, A2 = some ad → w.heap.size ≤ ad.block) := by
  have hin : ∀ a ∈ (outP r p).r, Inp w' a := fun a ha => by
    rcases outP_mem a ha with h1 | h1
    · exact (hr.inp a h1).below hb
    · rw [h1]; exact hp.below hb
  have hlen := outP_len (r := r) (p := p)
  have hbase : ∀ (A' : Option Addr) (c' : Nat) (l : List Pm), Row w' w.heap.size A' c' l → ∀ ad, A' = some ad → w.heap.size ≤ ad.block := fun A' c' l h ad e => by
    unfold Row at h
    rw [e] at h
    exact (own_addr h).1
  rcases h with ⟨h0, rfl⟩ | ⟨h0, r', A', c', hrow, h⟩
  · have e : outP r p = ⟨r, 0, false, [], 0, false, mayE r p⟩ := by unfold outP; rw [if_pos h0]
    rw [e]
    exact ⟨A, c, none, 0, rfl, hr.below hb, .inl ⟨rfl, rfl⟩, fun i h => absurd h (Nat.not_lt_zero _), fun _ => rfl, (fun ad h => by cases h)⟩
  · rcases h with ⟨hc, rfl, rfl⟩ | ⟨hc, rfl, h⟩
    · have e : outP r p = ⟨r ++ [p], 0, false, [], 0, false, 0⟩ := by unfold outP; rw [if_neg (by simpa using h0), if_pos hc]
      rw [e] at hin hlen ⊢
      exact ⟨A', c', none, 0, rfl, InR.of_row hrow hin (by simp at hlen ⊢; omega), .inr (hbase A' c' _ hrow), fun i h => absurd h (Nat.not_lt_zero _), fun _ => rfl, (fun ad h => by cases h)⟩
    · rcases h with ⟨hw, rfl⟩ | ⟨s, u, x, q, A2, c2, hw, hq, rfl, ho⟩
      · have e : outP r p = ⟨rleft r (rpart r p), 0, false, [], 0, false, 2⟩ := by unfold outP; rw [if_neg (by simpa using h0), if_neg (by rw [hc]; decide), hw]
        rw [e] at hin hlen ⊢
        exact ⟨A', c', none, 0, rfl, InR.of_row hrow hin (by simp at hlen ⊢; omega), .inr (hbase A' c' _ hrow), fun i h => absurd h (Nat.not_lt_zero _), fun _ => rfl, (fun ad h => by cases h)⟩
      · have e : outP r p = ⟨rleft r (rpart r p), s, u, x, q, true, 0⟩ := by unfold outP; rw [if_neg (by simpa using h0), if_neg (by rw [hc]; decide), hw, hq]; rfl
        rw [e] at hin hlen ⊢
        refine ⟨A', c', A2, c2, rfl, InR.of_row hrow hin (by simp at hlen ⊢; omega), .inr (hbase A' c' _ hrow), txt_row ho, fun e => ?_, fun ad e => ?_⟩
        · rw [e] at ho
          exact nil_row ho
        · rw [e] at ho
          exact (own_addr ho).1
/-- What the program's Put answers, told by the answer. -/
theorem put_out {w : World} {bp mb n : Nat} {m r : List Pm} {q p : Pm} {e : Ending} {w' : World} (h : PutPost w bp mb n m q e w') (hB : Bn w bp mb n m) (hs : Sim m r) (hc : core q = core p) (hu : U32 q.t) (hm : m.length ≤ 1000) :
    ∃ m' n' A2 c2, e = .returned (.tuple #[.agg #[.int .i64 (outP r p).s, .bool (outP r p).u, .slice A2 (outP r p).x.length c2, .int .u16 (outP r p).q], .bool (outP r p).ok, errV (outP r p).er]) ∧
      Bn w' bp mb n' m' ∧ n' ≤ n + 1 ∧ Sim m' (outP r p).r ∧ Txt w' A2 (outP r p).x ∧ (A2 = none → c2 = 0) ∧ (∀ ad, A2 = some ad → w.heap.size ≤ ad.block) ∧ (∀ a ∈ m', a ∈ m ∨ ∀ ad, a.A = some ad → w.heap.size ≤ ad.block) := by
  have hme := mayE_sim hs hc
  rcases h with ⟨h0, rfl, hb⟩ | ⟨h0, p', hp', hfr, h⟩
  · rw [hme] at h0
    have e : outP r p = ⟨r, 0, false, [], 0, false, mayE r p⟩ := by unfold outP; rw [if_pos h0]
    rw [e, hme]
    exact ⟨m, n, none, 0, rfl, hb, by omega, hs, fun i h => absurd h (Nat.not_lt_zero _), fun _ => rfl, (fun ad h => by cases h), fun a ha => .inl ha⟩
  · obtain ⟨_, hlk, _⟩ := may_zero h0
    rw [hme] at h0
    have hcp : core p' = core q := by rw [hp']; rfl
    have ht : p'.t = q.t := by rw [hp']
    have hnd : (keys (m ++ [p'])).Nodup := nodup_app hB.nod (by rw [ht]; exact hlk)
    have hall : ∀ a ∈ m, U32 a.t := fun a ha => (hB.ok a ha).u
    have hpart : Sim (part (m ++ [p']) q) (rpart r p) := (part_rpart (by omega) hu hall hcp hnd).trans (rpart_sim hs hc)
    have hmem : ∀ a ∈ m ++ [p'], a ∈ m ∨ ∀ ad, a.A = some ad → w.heap.size ≤ ad.block := fun a ha => by
      rcases List.mem_append.1 ha with ha | ha
      · exact .inl ha
      · rw [List.mem_singleton.1 ha]; exact .inr hfr
    have hk : p'.t ∈ keys (part (m ++ [p']) q) := by
      rw [ht]
      exact part_has hnd ⟨p', by simp, ht, by rw [hp']⟩ hu
    rcases h with ⟨hcl, rfl, hb⟩ | ⟨hcl, hb, h⟩
    · rw [closed_sim hpart] at hcl
      have e : outP r p = ⟨r ++ [p], 0, false, [], 0, false, 0⟩ := by unfold outP; rw [if_neg (by simpa using h0), if_pos hcl]
      rw [e]
      exact ⟨_, _, none, 0, rfl, hb, Nat.le_refl _, hs.app (by unfold Sim; rw [List.map_singleton, List.map_singleton, hcp, hc]), fun i h => absurd h (Nat.not_lt_zero _), fun _ => rfl, (fun ad h => by cases h), hmem⟩
    · rw [closed_sim hpart] at hcl
      have hleft : Sim (off (m ++ [p']) (part (m ++ [p']) q)) (rleft r (rpart r p)) := off_left hs hpart hk
      have hmem2 : ∀ a ∈ off (m ++ [p']) (part (m ++ [p']) q), a ∈ m ∨ ∀ ad, a.A = some ad → w.heap.size ≤ ad.block := fun a ha => hmem a ((off_mem _ _).1 ha).1
      rw [wholeP_sim hpart] at h
      rcases h with ⟨hw, rfl⟩ | ⟨s, u, x, qq, A2, c2, hw, hq, rfl, ho⟩
      · have e : outP r p = ⟨rleft r (rpart r p), 0, false, [], 0, false, 2⟩ := by unfold outP; rw [if_neg (by simpa using h0), if_neg (by rw [hcl]; decide), hw]
        rw [e]
        exact ⟨_, _, none, 0, rfl, hb, Nat.le_refl _, hleft, fun i h => absurd h (Nat.not_lt_zero _), fun _ => rfl, (fun ad h => by cases h), hmem2⟩
      · rw [headq_sim hpart] at hq
        have e : outP r p = ⟨rleft r (rpart r p), s, u, x, qq, true, 0⟩ := by unfold outP; rw [if_neg (by simpa using h0), if_neg (by rw [hcl]; decide), hw, hq]; rfl
        rw [e]
        refine ⟨_, _, A2, c2, rfl, hb, Nat.le_refl _, hleft, txt_row ho, fun e => ?_, fun ad e => ?_, hmem2⟩
        · rw [e] at ho
          exact nil_row ho
        · rw [e] at ho
          exact (own_addr ho).1
end Go.Proofs.Ythoammfpjheodaa.Rz
