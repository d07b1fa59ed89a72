import Derived.Test.YthoammfpjheodaaRmLaw
namespace Go.Proofs.Ythoammfpjheodaa.Rz
open Go
set_option linter.unusedVariables false
set_option linter.unusedSimpArgs false
/-! mixes: one piece more -/
structure MixOk (gs : List (List Pm)) : Prop where
  grp : ∀ g ∈ gs, Grp g
  nod : (keys gs.flatten).Nodup
  right : ∀ p ∈ gs.flatten, rightP p = true
  held : held gs.flatten ≤ 2000
  len : gs.flatten.length ≤ 1000
  whole : ∀ g ∈ gs, (wholeP g).isSome = true
theorem held_sub : ∀ (L all : List Pm), (keys L).Nodup → (∀ a ∈ L, a ∈ all) → (keys all).Nodup → held L ≤ held all
  | [], all, _, _, _ => Nat.zero_le _
  | p :: L, all, hn, hs, ha => by
    have hn' : p.t ∉ keys L ∧ (keys L).Nodup := by
      unfold keys at hn ⊢
      rw [List.map_cons, List.nodup_cons] at hn
      exact hn
    have h1 := held_del ha (hs p (by simp))
    have h2 := held_sub L (del all p.t) hn'.2 (fun a h => mem_del.2 ⟨hs a (List.mem_cons_of_mem _ h), fun e => hn'.1 (List.mem_map.2 ⟨a, h, e⟩)⟩) (nodup_del ha _)
    have h3 : held (p :: L) = p.x.length + held L := by unfold held; simp
    omega
theorem key_inj {all : List Pm} (hn : (keys all).Nodup) {p q : Pm} (hp : p ∈ all) (hq : q ∈ all) (h : p.t = q.t) : p = q := by
  have h1 := look_some hn hp
  have h2 := look_some hn hq
  rw [h, h2] at h1
  exact (Option.some.inj h1).symm
theorem MixOk.mem {gs : List (List Pm)} {i : Nat} (hi : i < gs.length) {p : Pm} (hp : p ∈ gs[i]) : p ∈ gs.flatten := List.mem_flatten.2 ⟨gs[i], List.getElem_mem hi, hp⟩
theorem MixOk.idx {gs : List (List Pm)} (h : MixOk gs) {i j : Nat} (hi : i < gs.length) (hj : j < gs.length) {p q : Pm} (hp : p ∈ gs[i]) (hq : q ∈ gs[j]) (e : p.t = q.t) : i = j := by
  have hpw : gs.flatten.Pairwise fun a b => a.t ≠ b.t := by
    have := h.nod
    unfold keys at this
    rw [List.nodup_iff_pairwise_ne, List.pairwise_map] at this
    exact this
  rw [List.pairwise_flatten] at hpw
  have h2 := List.pairwise_iff_getElem.1 hpw.2
  rcases Nat.lt_trichotomy i j with hlt | he | hgt
  · exact absurd e (h2 i j hi hj hlt p hp q hq)
  · exact he
  · exact absurd e.symm (h2 j i hj hi hgt q hq p hp)
/-- The bench, and what is still to come. -/
structure MixInv (gs : List (List Pm)) (r : List Pm) (rem : List (Pm × Nat)) : Prop where
  nod : (keys r).Nodup
  sub : ∀ p ∈ r, p ∈ gs.flatten
  rn : rem.Nodup
  rm : ∀ c ∈ rem, ∃ hi : c.2 < gs.length, c.1 ∈ gs[c.2]
  iff : ∀ i (hi : i < gs.length), ∀ p ∈ gs[i], p ∈ r ↔ (p, i) ∉ rem ∧ ∃ p', (p', i) ∈ rem
theorem MixInv.mine {gs : List (List Pm)} {r : List Pm} {rem : List (Pm × Nat)} (hg : MixOk gs) (h : MixInv gs r rem) {i : Nat} (hi : i < gs.length) : Mine r gs[i] := fun k hk q hl => by
  obtain ⟨h1, h2⟩ := look_mem hl
  exact key_inj hg.nod (h.sub q h1) (MixOk.mem hi (List.getElem_mem hk)) h2
theorem MixInv.some {gs : List (List Pm)} {r : List Pm} {rem : List (Pm × Nat)} (hg : MixOk gs) (h : MixInv gs r rem) {p : Pm} (hp : p ∈ gs.flatten) : (look r p.t).isSome = true ↔ p ∈ r := by
  constructor
  · intro hs
    cases hl : look r p.t with
    | none => rw [hl] at hs; cases hs
    | some q =>
      obtain ⟨h1, h2⟩ := look_mem hl
      rw [← key_inj hg.nod (h.sub q h1) hp h2]
      exact h1
  · intro hm
    rw [look_some h.nod hm]
    rfl
theorem MixInv.zero {gs : List (List Pm)} {rem : List (Pm × Nat)} (hn : rem.Nodup) (hm : ∀ c ∈ rem, ∃ hi : c.2 < gs.length, c.1 ∈ gs[c.2]) (hall : ∀ i (hi : i < gs.length), ∀ p ∈ gs[i], (p, i) ∈ rem) : MixInv gs [] rem :=
  ⟨List.Pairwise.nil, (fun p hp => by cases hp), hn, hm, fun i hi p hp => ⟨(fun h => by cases h), fun h => absurd (hall i hi p hp) h.1⟩⟩
theorem MixInv.last {gs : List (List Pm)} {r : List Pm} (h : MixInv gs r []) (hg : MixOk gs) : r = [] := by
  cases r with
  | nil => rfl
  | cons p r =>
    obtain ⟨g, hgm, hp⟩ := List.mem_flatten.1 (h.sub p (by simp))
    obtain ⟨i, hi, rfl⟩ := List.getElem_of_mem hgm
    obtain ⟨_, p', hp'⟩ := (h.iff i hi p hp).1 (by simp)
    cases hp'
/-- One piece more: what is answered, and how the bench stands. -/
theorem mix_step {gs : List (List Pm)} (hg : MixOk gs) {r : List Pm} {rem rem' : List (Pm × Nat)} {p : Pm} {i : Nat} (h : MixInv gs r rem) (hmem : (p, i) ∈ rem) (hrem : ∀ c, c ∈ rem' ↔ c ∈ rem ∧ c ≠ (p, i)) (hn' : rem'.Nodup) (hrl : r.length < 4000000) :
    ∃ hi : i < gs.length, MixInv gs (outP r p).r rem' ∧ (outP r p).er = 0 ∧
      (((∃ p', (p', i) ∈ rem') ∧ (outP r p).ok = false) ∨ ((∀ p', (p', i) ∉ rem') ∧ (outP r p).ok = true ∧ wholeP gs[i] = some ((outP r p).s, (outP r p).u, (outP r p).x))) := by
  obtain ⟨hi, hp⟩ : ∃ hi : i < gs.length, p ∈ gs[i] := h.rm _ hmem
  have hpa := MixOk.mem hi hp
  obtain ⟨k, hk, hpk⟩ := List.getElem_of_mem hp
  have hG := hg.grp _ (List.getElem_mem hi)
  have hM := h.mine hg hi
  have hpr : p ∉ r := fun hr => ((h.iff i hi p hp).1 hr).1 hmem
  have hlook : (look r p.t).isSome = false := by
    cases hl : (look r p.t).isSome with
    | false => rfl
    | true => exact absurd ((h.some hg hpa).1 hl) hpr
  have hnk : (keys (r ++ [p])).Nodup := nodup_app h.nod (by
    cases hl : look r p.t with
    | none => rfl
    | some q => rw [hl] at hlook; cases hlook)
  have hsub : ∀ a ∈ r ++ [p], a ∈ gs.flatten := fun a ha => by
    rcases List.mem_append.1 ha with ha | ha
    · exact h.sub a ha
    · rw [List.mem_singleton.1 ha]; exact hpa
  have hheld : held r + p.x.length ≤ 2000 := by
    have := held_sub _ _ hnk hsub hg.nod
    rw [held_app] at this
    have := hg.held
    omega
  have hmay : mayE r p = 0 := by
    unfold mayE
    rw [if_neg (by rw [hg.right p hpa]; decide), if_neg (by rw [hlook]; decide), if_neg (by omega)]
  refine ⟨hi, ?_⟩
  by_cases hex : ∃ p', (p', i) ∈ rem'
  · obtain ⟨p', hp'⟩ := hex
    obtain ⟨hp1, hp2⟩ := (hrem _).1 hp'
    have hpp : p' ≠ p := fun e => hp2 (by rw [e])
    have hp'g : p' ∈ gs[i] := (h.rm _ hp1).2
    have hcl : closed (rpart r p) = false := by
      cases hc : closed (rpart r p) with
      | false => rfl
      | true =>
        obtain ⟨k', hk', hpk'⟩ := List.getElem_of_mem hp'g
        rw [← hpk] at hc
        have := closed_all hG hM hrl k hk hc k' hk' (fun e => by subst e; exact hpp (by rw [← hpk', ← hpk]))
        rw [hpk', h.some hg (MixOk.mem hi hp'g), h.iff i hi p' hp'g] at this
        exact absurd hp1 this.1
    have hout : outP r p = ⟨r ++ [p], 0, false, [], 0, false, 0⟩ := by unfold outP; rw [if_neg (by simpa using hmay), if_pos hcl]
    rw [hout]
    refine ⟨⟨hnk, hsub, hn', fun c hc => h.rm c ((hrem c).1 hc).1, fun j hj a ha => ?_⟩, rfl, .inl ⟨⟨p', hp'⟩, rfl⟩⟩
    rw [List.mem_append, List.mem_singleton]
    by_cases hap : a = p
    · subst hap
      have hji : j = i := hg.idx hj hi ha hp rfl
      subst hji
      exact ⟨fun _ => ⟨fun hc => ((hrem _).1 hc).2 rfl, p', hp'⟩, fun _ => .inr rfl⟩
    · constructor
      · rintro (h1 | h1)
        · obtain ⟨h2, q, hq⟩ := (h.iff j hj a ha).1 h1
          refine ⟨fun hc => h2 ((hrem _).1 hc).1, ?_⟩
          by_cases hji : j = i
          · subst hji; exact ⟨p', hp'⟩
          · exact ⟨q, (hrem _).2 ⟨hq, fun e => hji (Prod.mk.inj e).2⟩⟩
        · exact absurd h1 hap
      · rintro ⟨h1, q, hq⟩
        refine .inl ((h.iff j hj a ha).2 ⟨fun hc => h1 ((hrem _).2 ⟨hc, fun e => hap (Prod.mk.inj e).1⟩), q, ((hrem _).1 hq).1⟩)
  · have hno : ∀ p', (p', i) ∉ rem' := fun p' hp' => hex ⟨p', hp'⟩
    have hall : ∀ j (hj : j < gs[i].length), j ≠ k → (look r gs[i][j].t).isSome = true := fun j hj hjk => by
      rw [h.some hg (MixOk.mem hi (List.getElem_mem hj)), h.iff i hi _ (List.getElem_mem hj)]
      refine ⟨fun hc => hno _ ((hrem _).2 ⟨hc, fun e => ?_⟩), p, hmem⟩
      have e1 : gs[i][j] = gs[i][k] := by rw [hpk]; exact (Prod.mk.inj e).1
      have e2 : gs[i][j].t = gs[i][k].t := by rw [e1]
      rw [hG.t j hj, hG.t k hk] at e2
      have := hG.len
      unfold step at e2
      omega
    have hpart : rpart r p = gs[i] := by rw [← hpk]; exact rpart_all hG hM hrl k hk hall
    have hcl : closed (rpart r p) = true := by
      rw [hpart]
      unfold closed
      rw [List.head?_eq_getElem?, List.getLast?_eq_getElem?, List.getElem?_eq_getElem hG.pos, List.getElem?_eq_getElem (by have := hG.pos; omega)]
      simp only [Option.map_some, Option.getD_some]
      rw [hG.b 0 hG.pos, hG.e (gs[i].length - 1) (by have := hG.pos; omega)]
      have := hG.pos
      simp
      omega
    obtain ⟨m, hw⟩ := Option.isSome_iff_exists.1 (hg.whole _ (List.getElem_mem hi))
    obtain ⟨s, u, x⟩ := m
    have hout : outP r p = ⟨rleft r gs[i], s, u, x, ((gs[i]).head?.map (·.q)).getD 0, true, 0⟩ := by
      unfold outP
      rw [if_neg (by simpa using hmay), if_neg (by rw [hcl]; decide), hpart, hw]
    rw [hout]
    have hleft : ∀ a, a ∈ rleft r gs[i] ↔ a ∈ r ∧ a.t ∉ keys gs[i] := fun a => by
      unfold rleft
      rw [List.mem_filter, look_isSome]
      simp
    refine ⟨⟨?_, fun a ha => h.sub a ((hleft a).1 ha).1, hn', fun c hc => h.rm c ((hrem c).1 hc).1, fun j hj a ha => ?_⟩, rfl, .inr ⟨hno, rfl, hw⟩⟩
    · unfold rleft keys
      exact List.Pairwise.sublist (List.Sublist.map _ (List.filter_sublist)) h.nod
    · rw [hleft]
      by_cases hji : j = i
      · subst hji
        constructor
        · rintro ⟨_, h2⟩
          exact absurd (List.mem_map.2 ⟨a, ha, rfl⟩) h2
        · rintro ⟨_, q, hq⟩
          exact absurd hq (hno q)
      · have hat : a.t ∉ keys gs[i] := fun hc => by
          obtain ⟨b, hb, e⟩ := List.mem_map.1 hc
          exact hji (hg.idx hj hi ha hb e.symm)
        constructor
        · rintro ⟨h1, _⟩
          obtain ⟨h2, q, hq⟩ := (h.iff j hj a ha).1 h1
          exact ⟨fun hc => h2 ((hrem _).1 hc).1, q, (hrem _).2 ⟨hq, fun e => hji (Prod.mk.inj e).2⟩⟩
        · rintro ⟨h1, q, hq⟩
          exact ⟨(h.iff j hj a ha).2 ⟨fun hc => h1 ((hrem _).2 ⟨hc, fun e => hji (Prod.mk.inj e).2⟩), q, ((hrem _).1 hq).1⟩, hat⟩
end Go.Proofs.Ythoammfpjheodaa.Rz
