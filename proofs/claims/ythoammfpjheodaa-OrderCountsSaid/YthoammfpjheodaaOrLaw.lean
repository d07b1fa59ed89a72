import Derived.Below
namespace Go.Proofs.Ythoammfpjheodaa.Or
open Go
set_option linter.unusedVariables false
set_option linter.unusedSimpArgs false
/-! A desk in plain words. -/
/-- A message. -/
structure Cm where
  s : Int
  u : Bool
  x : List Int
deriving DecidableEq
/-- A message that waits: its seq and itself. -/
abbrev Wt := Int × Cm
/-- A desk. -/
structure Ds where
  nx : List Int
  ws : List Wt
  rd : List Cm
def goodC (m : Cm) : Bool := decide (0 ≤ m.s ∧ m.s ≤ 7) && decide (1 ≤ m.x.length ∧ m.x.length ≤ 400)
def nxt (nx : List Int) (s : Int) : Int := nx.getD s.toNat 0
def farW (nx : List Int) (s q : Int) : Int := (q - nxt nx s) % 65536
def key (s q : Int) (w : Wt) : Bool := decide (w.2.s = s ∧ w.1 = q)
def lookW (ws : List Wt) (s q : Int) : Option Wt := ws.find? (key s q)
def mayD (d : Ds) (m : Cm) (q : Int) : Int :=
  if goodC m = false then 2 else if m.u = true then 0 else if (lookW d.ws m.s q).isSome = true ∨ 32768 ≤ farW d.nx m.s q then 12 else 0
def less (nx : List Int) (a b : Wt) : Bool := decide (a.2.s < b.2.s ∨ (a.2.s = b.2.s ∧ farW nx a.2.s a.1 < farW nx b.2.s b.1))
def ins (nx : List Int) (w : Wt) : List Wt → List Wt
  | [] => [w]
  | x :: l => if less nx w x = true then w :: x :: l else x :: ins nx w l
/-- One step of following. -/
def stepD (d : Ds) (s : Int) (w : Wt) : Ds := ⟨d.nx.set s.toNat ((nxt d.nx s + 1) % 65536), d.ws.eraseP (key s (nxt d.nx s)), d.rd ++ [w.2]⟩
def fol : Nat → Ds → Int → Ds × Nat
  | 0, d, _ => (d, 0)
  | k + 1, d, s => match lookW d.ws s (nxt d.nx s) with
    | none => (d, 0)
    | some w => ((fol k (stepD d s w) s).1, (fol k (stepD d s w) s).2 + 1)
def insD (d : Ds) (m : Cm) (q : Int) : Ds := ⟨d.nx, ins d.nx (q, m) d.ws, d.rd⟩
def putD (d : Ds) (m : Cm) (q : Int) : Ds × Nat :=
  if mayD d m q ≠ 0 then (d, 0) else if m.u = true then (⟨d.nx, d.ws, d.rd ++ [m]⟩, 1) else fol (d.ws.length + 1) (insD d m q) m.s
/-- What a desk always is. -/
structure Inv (d : Ds) : Prop where
  nxl : d.nx.length = 8
  nxr : ∀ x ∈ d.nx, 0 ≤ x ∧ x ≤ 65535
  wf : ∀ w ∈ d.ws, goodC w.2 = true ∧ w.2.u = false ∧ 0 ≤ w.1 ∧ w.1 ≤ 65535
  srt : d.ws.Pairwise fun a b => less d.nx a b = true
  rdg : ∀ m ∈ d.rd, goodC m = true
theorem goodC_s {m : Cm} (h : goodC m = true) : 0 ≤ m.s ∧ m.s ≤ 7 := by
  unfold goodC at h
  rw [Bool.and_eq_true, decide_eq_true_eq] at h
  exact h.1
theorem goodC_x {m : Cm} (h : goodC m = true) : 1 ≤ m.x.length ∧ m.x.length ≤ 400 := by
  unfold goodC at h
  rw [Bool.and_eq_true, decide_eq_true_eq, decide_eq_true_eq] at h
  exact h.2
theorem nxt_mem {nx : List Int} (hl : nx.length = 8) {s : Int} (hs : 0 ≤ s ∧ s ≤ 7) : ∃ h : s.toNat < nx.length, nxt nx s = nx[s.toNat] := by
  have h : s.toNat < nx.length := by omega
  refine ⟨h, ?_⟩
  unfold nxt
  rw [List.getD_eq_getElem?_getD, List.getElem?_eq_getElem h]
  rfl
theorem nxt_rng {nx : List Int} (hl : nx.length = 8) (hr : ∀ x ∈ nx, 0 ≤ x ∧ x ≤ 65535) {s : Int} (hs : 0 ≤ s ∧ s ≤ 7) : 0 ≤ nxt nx s ∧ nxt nx s ≤ 65535 := by
  obtain ⟨h, e⟩ := nxt_mem hl hs
  rw [e]
  exact hr _ (List.getElem_mem h)
theorem nxt_set {nx : List Int} (hl : nx.length = 8) {s t v : Int} (hs : 0 ≤ s ∧ s ≤ 7) (ht : 0 ≤ t ∧ t ≤ 7) : nxt (nx.set s.toNat v) t = if t = s then v else nxt nx t := by
  obtain ⟨h, e⟩ := nxt_mem hl ht
  obtain ⟨h', e'⟩ := nxt_mem (nx := nx.set s.toNat v) (by simpa using hl) ht
  rw [e', e, List.getElem_set]
  by_cases hts : t = s
  · subst hts; simp
  · rw [if_neg hts, if_neg (by omega)]
theorem far_inj {nx : List Int} {s q q' : Int} (h : 0 ≤ q ∧ q ≤ 65535) (h' : 0 ≤ q' ∧ q' ≤ 65535) (e : farW nx s q = farW nx s q') : q = q' := by
  unfold farW at e
  omega
theorem far_zero {nx : List Int} {s q : Int} (h : 0 ≤ q ∧ q ≤ 65535) (hn : 0 ≤ nxt nx s ∧ nxt nx s ≤ 65535) : farW nx s q = 0 ↔ q = nxt nx s := by
  unfold farW
  omega
theorem less_iff {nx : List Int} {a b : Wt} : less nx a b = true ↔ (a.2.s < b.2.s ∨ (a.2.s = b.2.s ∧ farW nx a.2.s a.1 < farW nx b.2.s b.1)) := by
  unfold less
  rw [decide_eq_true_eq]
theorem less_trans {nx : List Int} {a b c : Wt} (h1 : less nx a b = true) (h2 : less nx b c = true) : less nx a c = true := by
  rw [less_iff] at *
  omega
theorem less_tot {nx : List Int} {a b : Wt} (h : less nx a b = false) (ha : 0 ≤ a.1 ∧ a.1 ≤ 65535) (hb : 0 ≤ b.1 ∧ b.1 ≤ 65535) (hne : ¬ (a.2.s = b.2.s ∧ a.1 = b.1)) : less nx b a = true := by
  have h : ¬ less nx a b = true := by rw [h]; decide
  rw [less_iff] at *
  by_cases hs : a.2.s = b.2.s
  · have : farW nx a.2.s a.1 ≠ farW nx b.2.s b.1 := fun e => by
      rw [hs] at e
      exact hne ⟨hs, far_inj ha hb e⟩
    omega
  · omega
theorem less_ne {nx : List Int} {a b : Wt} (h : less nx a b = true) : ¬ (a.2.s = b.2.s ∧ a.1 = b.1) := by
  rintro ⟨h1, h2⟩
  rw [less_iff, h1, h2] at h
  omega
theorem key_iff {s q : Int} {w : Wt} : key s q w = true ↔ w.2.s = s ∧ w.1 = q := by
  unfold key
  rw [decide_eq_true_eq]
theorem look_mem {ws : List Wt} {s q : Int} {w : Wt} (h : lookW ws s q = some w) : w ∈ ws ∧ w.2.s = s ∧ w.1 = q :=
  ⟨List.mem_of_find?_eq_some h, key_iff.1 (List.find?_some h)⟩
theorem look_none {ws : List Wt} {s q : Int} (h : lookW ws s q = none) : ∀ w ∈ ws, ¬ (w.2.s = s ∧ w.1 = q) := fun w hw e => by
  have := List.find?_eq_none.1 h w hw
  rw [key_iff] at this
  exact this e
theorem look_none' {ws : List Wt} {s q : Int} (h : ∀ w ∈ ws, ¬ (w.2.s = s ∧ w.1 = q)) : lookW ws s q = none := by
  unfold lookW
  rw [List.find?_eq_none]
  intro w hw
  rw [key_iff]
  exact h w hw
/-- No two of one key. -/
def Unq (ws : List Wt) : Prop := ws.Pairwise fun a b => ¬ (a.2.s = b.2.s ∧ a.1 = b.1)
theorem Inv.unq {d : Ds} (h : Inv d) : Unq d.ws := h.srt.imp less_ne
theorem look_of_mem {ws : List Wt} (h : Unq ws) {w : Wt} (hw : w ∈ ws) : lookW ws w.2.s w.1 = some w := by
  cases hl : lookW ws w.2.s w.1 with
  | none => exact absurd ⟨rfl, rfl⟩ (look_none hl w hw)
  | some v =>
    obtain ⟨h1, h2, h3⟩ := look_mem hl
    by_cases e : v = w
    · rw [e]
    · obtain ⟨i, hi, rfl⟩ := List.getElem_of_mem hw
      obtain ⟨j, hj, rfl⟩ := List.getElem_of_mem h1
      have hij : i ≠ j := fun e' => e (by subst e'; rfl)
      have := List.pairwise_iff_getElem.1 h
      rcases Nat.lt_or_gt_of_ne hij with hlt | hlt
      · exact absurd ⟨h2.symm, h3.symm⟩ (this i j hi hj hlt)
      · exact absurd ⟨h2, h3⟩ (this j i hj hi hlt)
/-! ### inserting -/
theorem ins_mem {nx : List Int} {w v : Wt} : ∀ {ws : List Wt}, v ∈ ins nx w ws ↔ v = w ∨ v ∈ ws
  | [] => by simp [ins]
  | x :: l => by
    unfold ins
    split
    · simp
    · rw [List.mem_cons, ins_mem, List.mem_cons]
      constructor
      · rintro (h | h | h)
        · exact .inr (.inl h)
        · exact .inl h
        · exact .inr (.inr h)
      · rintro (h | h | h)
        · exact .inr (.inl h)
        · exact .inl h
        · exact .inr (.inr h)
theorem ins_len {nx : List Int} {w : Wt} : ∀ {ws : List Wt}, (ins nx w ws).length = ws.length + 1
  | [] => rfl
  | x :: l => by
    unfold ins
    split
    · rfl
    · rw [List.length_cons, ins_len, List.length_cons]
theorem ins_srt {nx : List Int} {w : Wt} (hq : 0 ≤ w.1 ∧ w.1 ≤ 65535) : ∀ {ws : List Wt}, (ws.Pairwise fun a b => less nx a b = true) → (∀ v ∈ ws, 0 ≤ v.1 ∧ v.1 ≤ 65535) → (∀ v ∈ ws, ¬ (v.2.s = w.2.s ∧ v.1 = w.1)) → (ins nx w ws).Pairwise fun a b => less nx a b = true
  | [], _, _, _ => List.pairwise_singleton _ _
  | x :: l, h, hr, hn => by
    obtain ⟨h1, h2⟩ := List.pairwise_cons.1 h
    unfold ins
    split
    · rename_i hl
      refine List.pairwise_cons.2 ⟨fun v hv => ?_, h⟩
      rcases List.mem_cons.1 hv with rfl | hv
      · exact hl
      · exact less_trans hl (h1 v hv)
    · rename_i hl
      refine List.pairwise_cons.2 ⟨fun v hv => ?_, ins_srt hq h2 (fun v hv => hr v (List.mem_cons_of_mem _ hv)) (fun v hv => hn v (List.mem_cons_of_mem _ hv))⟩
      rcases ins_mem.1 hv with rfl | hv
      · refine less_tot (by simpa using hl) hq (hr x List.mem_cons_self) fun e => hn x List.mem_cons_self ⟨e.1.symm, e.2.symm⟩
      · exact h1 v hv
theorem look_ins {nx : List Int} {w : Wt} {ws : List Wt} (hu : Unq ws) (hn : lookW ws w.2.s w.1 = none) (s q : Int) : lookW (ins nx w ws) s q = if w.2.s = s ∧ w.1 = q then some w else lookW ws s q := by
  induction ws with
  | nil =>
    unfold ins lookW
    rw [List.find?_cons]
    by_cases h : key s q w = true
    · rw [h, if_pos (key_iff.1 h)]
    · rw [Bool.not_eq_true] at h
      rw [h, if_neg (fun e => by rw [key_iff.2 e] at h; cases h)]
  | cons x l ih =>
    have hnx : ¬ (x.2.s = w.2.s ∧ x.1 = w.1) := look_none hn x List.mem_cons_self
    have hnl : lookW l w.2.s w.1 = none := look_none' fun v hv => look_none hn v (List.mem_cons_of_mem _ hv)
    unfold ins
    split
    · unfold lookW
      rw [List.find?_cons]
      by_cases h : key s q w = true
      · rw [h, if_pos (key_iff.1 h)]
      · rw [Bool.not_eq_true] at h
        rw [h, if_neg (fun e => by rw [key_iff.2 e] at h; cases h)]
    · have hi := ih (List.pairwise_cons.1 hu).2 hnl
      unfold lookW at hi ⊢
      rw [List.find?_cons, List.find?_cons, hi]
      by_cases h : key s q x = true
      · have hne : ¬ (w.2.s = s ∧ w.1 = q) := fun e => by
          obtain ⟨h1, h2⟩ := key_iff.1 h
          exact hnx ⟨h1.trans e.1.symm, h2.trans e.2.symm⟩
        rw [h]
        simp [hne]
      · rw [Bool.not_eq_true] at h
        rw [h]
theorem Inv.ins {d : Ds} (h : Inv d) {m : Cm} {q : Int} (hg : goodC m = true) (hu : m.u = false) (hq : 0 ≤ q ∧ q ≤ 65535) (hn : lookW d.ws m.s q = none) : Inv (insD d m q) :=
  ⟨h.nxl, h.nxr, fun w hw => by
      rcases ins_mem.1 hw with rfl | hw
      · exact ⟨hg, hu, hq⟩
      · exact h.wf w hw, ins_srt (w := (q, m)) hq h.srt (fun v hv => (h.wf v hv).2.2) (fun v hv => look_none hn v hv), h.rdg⟩
/-! ### following -/
theorem erase_cons (p : Wt → Bool) (x : Wt) (l : List Wt) : (x :: l).eraseP p = if p x = true then l else x :: l.eraseP p := by
  rw [List.eraseP_cons]
  cases p x <;> rfl
theorem erase_mem {ws : List Wt} {s q : Int} {v : Wt} (h : v ∈ ws.eraseP (key s q)) : v ∈ ws := List.mem_of_mem_eraseP h
theorem erase_ne {ws : List Wt} (hu : Unq ws) {s q : Int} {v : Wt} (h : v ∈ ws.eraseP (key s q)) : ¬ (v.2.s = s ∧ v.1 = q) := by
  induction ws with
  | nil => simp at h
  | cons x l ih =>
    obtain ⟨h1, h2⟩ := List.pairwise_cons.1 hu
    rw [erase_cons] at h
    split at h
    · rename_i hk
      obtain ⟨k1, k2⟩ := key_iff.1 hk
      intro e
      exact h1 v h ⟨k1.trans e.1.symm, k2.trans e.2.symm⟩
    · rename_i hk
      rcases List.mem_cons.1 h with rfl | h
      · intro e
        rw [key_iff.2 e] at hk
        exact hk rfl
      · exact ih h2 h
theorem look_erase {ws : List Wt} (hu : Unq ws) (s q s' q' : Int) : lookW (ws.eraseP (key s q)) s' q' = if s' = s ∧ q' = q then none else lookW ws s' q' := by
  by_cases e : s' = s ∧ q' = q
  · rw [if_pos e]
    exact look_none' fun w hw => by rw [e.1, e.2]; exact erase_ne hu hw
  · rw [if_neg e]
    induction ws with
    | nil => rfl
    | cons x l ih =>
      rw [erase_cons]
      split
      · rename_i hk
        obtain ⟨k1, k2⟩ := key_iff.1 hk
        unfold lookW
        rw [List.find?_cons]
        have : key s' q' x = false := by
          rw [← Bool.not_eq_true, key_iff]
          intro e2
          exact e ⟨e2.1.symm.trans k1, e2.2.symm.trans k2⟩
        rw [this]
      · have := ih (List.pairwise_cons.1 hu).2
        unfold lookW at this ⊢
        rw [List.find?_cons, List.find?_cons, this]
theorem erase_len {ws : List Wt} {s q : Int} {w : Wt} (h : lookW ws s q = some w) : (ws.eraseP (key s q)).length + 1 = ws.length := by
  obtain ⟨h1, h2⟩ := look_mem h
  have := List.length_eraseP_of_mem (p := key s q) h1 (key_iff.2 h2)
  have := List.length_pos_of_mem h1
  omega
theorem less_step {nx : List Int} (hl : nx.length = 8) (hr : ∀ x ∈ nx, 0 ≤ x ∧ x ≤ 65535) {s : Int} (hs : 0 ≤ s ∧ s ≤ 7) {a b : Wt} (ha : 0 ≤ a.2.s ∧ a.2.s ≤ 7) (hb : 0 ≤ b.2.s ∧ b.2.s ≤ 7) (qa : 0 ≤ a.1 ∧ a.1 ≤ 65535) (qb : 0 ≤ b.1 ∧ b.1 ≤ 65535)
    (na : ¬ (a.2.s = s ∧ a.1 = nxt nx s)) (nb : ¬ (b.2.s = s ∧ b.1 = nxt nx s)) (h : less nx a b = true) : less (nx.set s.toNat ((nxt nx s + 1) % 65536)) a b = true := by
  have hn := nxt_rng hl hr hs
  rw [less_iff] at *
  unfold farW at *
  rw [nxt_set hl hs ha, nxt_set hl hs hb]
  by_cases e : a.2.s = b.2.s
  · rw [← e] at nb h ⊢
    by_cases e2 : a.2.s = s
    · rw [if_pos e2]
      rw [e2] at h na nb ⊢
      omega
    · rw [if_neg e2]
      exact h
  · rcases h with h | h
    · exact .inl h
    · exact absurd h.1 e
theorem Inv.step {d : Ds} (h : Inv d) {s : Int} (hs : 0 ≤ s ∧ s ≤ 7) {w : Wt} (hw : lookW d.ws s (nxt d.nx s) = some w) : Inv (stepD d s w) := by
  refine ⟨by simpa [stepD] using h.nxl, fun x hx => ?_, fun v hv => h.wf v (erase_mem hv), ?_, fun m hm => ?_⟩
  · rcases List.mem_or_eq_of_mem_set hx with hx | rfl
    · exact h.nxr x hx
    · omega
  · have h1 : (d.ws.eraseP (key s (nxt d.nx s))).Pairwise fun a b => less d.nx a b = true := h.srt.sublist List.eraseP_sublist
    refine List.Pairwise.imp_of_mem (fun {a b} ha hb hab => ?_) h1
    have ka := h.wf a (erase_mem ha)
    have kb := h.wf b (erase_mem hb)
    exact less_step h.nxl h.nxr hs (goodC_s ka.1) (goodC_s kb.1) ka.2.2 kb.2.2 (erase_ne h.unq ha) (erase_ne h.unq hb) hab
  · rcases List.mem_append.1 hm with hm | hm
    · exact h.rdg m hm
    · rw [List.mem_singleton.1 hm]
      exact (h.wf w (look_mem hw).1).1
theorem Inv.fol {s : Int} (hs : 0 ≤ s ∧ s ≤ 7) : ∀ (k : Nat) {d : Ds}, Inv d → Inv (fol k d s).1
  | 0, d, h => h
  | k + 1, d, h => by
    unfold Or.fol
    cases hl : lookW d.ws s (nxt d.nx s) with
    | none => exact h
    | some w => exact Inv.fol hs k (h.step hs hl)
/-- How many there are. -/
def many (d : Ds) : Nat := d.ws.length + d.rd.length
theorem many_step {d : Ds} {s : Int} {w : Wt} (hw : lookW d.ws s (nxt d.nx s) = some w) : many (stepD d s w) = many d := by
  have := erase_len hw
  unfold many stepD
  simp only [List.length_append, List.length_singleton]
  omega
theorem many_fol {s : Int} : ∀ (k : Nat) (d : Ds), many (fol k d s).1 = many d ∧ (fol k d s).1.rd.length = d.rd.length + (fol k d s).2
  | 0, d => ⟨rfl, rfl⟩
  | k + 1, d => by
    unfold Or.fol
    cases hl : lookW d.ws s (nxt d.nx s) with
    | none => exact ⟨rfl, rfl⟩
    | some w =>
      obtain ⟨h1, h2⟩ := many_fol k (stepD d s w)
      refine ⟨h1.trans (many_step hl), ?_⟩
      show (Or.fol k (stepD d s w) s).1.rd.length = _
      rw [h2]
      simp [stepD]
      omega
theorem may_zero {d : Ds} {m : Cm} {q : Int} (h : mayD d m q = 0) : goodC m = true ∧ (m.u = true ∨ (m.u = false ∧ lookW d.ws m.s q = none ∧ farW d.nx m.s q < 32768)) := by
  unfold mayD at h
  by_cases h1 : goodC m = false
  · rw [if_pos h1] at h; cases h
  · rw [if_neg h1] at h
    refine ⟨by simpa using h1, ?_⟩
    by_cases h2 : m.u = true
    · exact .inl h2
    · rw [if_neg h2] at h
      by_cases h3 : (lookW d.ws m.s q).isSome = true ∨ 32768 ≤ farW d.nx m.s q
      · rw [if_pos h3] at h; cases h
      · refine .inr ⟨by simpa using h2, ?_, by omega⟩
        cases hl : lookW d.ws m.s q with
        | none => rfl
        | some w => exact absurd (.inl (by rw [hl]; rfl)) h3
theorem Inv.put {d : Ds} (h : Inv d) {m : Cm} {q : Int} (hq : 0 ≤ q ∧ q ≤ 65535) : Inv (putD d m q).1 := by
  unfold putD
  split
  · exact h
  · rename_i hm
    obtain ⟨hg, hc⟩ := may_zero (Decidable.not_not.1 hm)
    split
    · rename_i hu
      refine ⟨h.nxl, h.nxr, h.wf, h.srt, fun m' hm' => ?_⟩
      rcases List.mem_append.1 hm' with hm' | hm'
      · exact h.rdg _ hm'
      · rw [List.mem_singleton.1 hm']
        exact hg
    · rename_i hu
      rcases hc with hc | ⟨hc, hn, _⟩
      · exact absurd hc hu
      · exact Inv.fol (goodC_s hg) _ (h.ins hg hc hq hn)
theorem many_put {d : Ds} {m : Cm} {q : Int} (h : mayD d m q = 0) : many (putD d m q).1 = many d + 1 := by
  unfold putD
  rw [if_neg (by simpa using h)]
  split
  · unfold many
    simp
    omega
  · rw [(many_fol _ _).1]
    unfold many insD
    simp only [ins_len]
    omega
theorem put_bad {d : Ds} {m : Cm} {q : Int} (h : mayD d m q ≠ 0) : putD d m q = (d, 0) := by
  unfold putD
  rw [if_pos h]
theorem fol_more {s : Int} : ∀ (k j : Nat) (d : Ds), d.ws.length ≤ k → fol (k + j) d s = fol k d s
  | 0, j, d, h => by
    have hw : d.ws = [] := List.length_eq_zero_iff.1 (by omega)
    cases j with
    | zero => rfl
    | succ j =>
      rw [Nat.zero_add]
      unfold Or.fol
      rw [hw]
      rfl
  | k + 1, j, d, h => by
    rw [show k + 1 + j = (k + j) + 1 by omega]
    unfold Or.fol
    cases hl : lookW d.ws s (nxt d.nx s) with
    | none => rfl
    | some w =>
      have := erase_len hl
      have := fol_more (s := s) k j (stepD d s w) (by simp only [stepD]; omega)
      simp only [this]
/-- A desk without messages. -/
def d0 : Ds := ⟨[0, 0, 0, 0, 0, 0, 0, 0], [], []⟩
theorem Inv.zero : Inv d0 := ⟨rfl, fun x hx => by simp [d0] at hx; omega, fun w hw => (by cases hw), List.Pairwise.nil, fun m hm => (by cases hm)⟩
end Go.Proofs.Ythoammfpjheodaa.Or
