import Derived.Test.YthoammfpjheodaaRaLaw
namespace Go.Proofs.Ythoammfpjheodaa.Rz
open Go
open Sl (far Str)
set_option linter.unusedVariables false
set_option linter.unusedSimpArgs false
/-! the document's Pieces, in plain words -/
theorem snoc_ind {α : Type} {P : List α → Prop} (h0 : P []) (h1 : ∀ l a, P l → P (l ++ [a])) (l : List α) : P l := by
  have : ∀ n (l : List α), l.length = n → P l := by
    intro n
    induction n with
    | zero => intro l hl; rw [List.eq_nil_of_length_eq_zero hl]; exact h0
    | succ n ih =>
      intro l hl
      have hne : l ≠ [] := fun e => by subst e; simp at hl
      rw [← List.dropLast_concat_getLast hne]
      exact h1 _ _ (ih _ (by simp; omega))
  exact this _ l rfl
def rkP (f : Int) (l : List Pm) (p : Pm) : Nat → Nat
  | 0 => 0
  | k + 1 => if far f p.t < far f ((l[k]?.map (·.t)).getD 0) then rkP f l p k else k + 1
def rinsP (f : Int) (l : List Pm) (p : Pm) : List Pm := l.take (rkP f l p l.length) ++ p :: l.drop (rkP f l p l.length)
def rpiecesP (f : Int) (r : List Pm) : List Pm := r.foldl (fun out p => rinsP f out p) []
theorem rpiecesP_snoc (f : Int) (r : List Pm) (p : Pm) : rpiecesP f (r ++ [p]) = rinsP f (rpiecesP f r) p := by unfold rpiecesP; simp
theorem rkP_le (f : Int) (l : List Pm) (p : Pm) : ∀ n, rkP f l p n ≤ n
  | 0 => Nat.le_refl _
  | n + 1 => by
    rw [rkP]
    split
    · have := rkP_le f l p n
      omega
    · exact Nat.le_refl _
theorem rkP_behind (f : Int) (l : List Pm) (p : Pm) : ∀ n i, rkP f l p n ≤ i → i < n → (h : i < l.length) → far f p.t < far f l[i].t
  | 0, i, _, h, _ => absurd h (Nat.not_lt_zero _)
  | n + 1, i, h1, h2, h => by
    rw [rkP] at h1
    split at h1
    · rename_i hc
      rcases Nat.lt_or_ge i n with h3 | h3
      · exact rkP_behind f l p n i h1 h3 h
      · obtain rfl : i = n := by omega
        simpa [h] using hc
    · omega
theorem rkP_ahead (f : Int) (l : List Pm) (p : Pm) : ∀ n, n ≤ l.length → 0 < rkP f l p n → ∃ h : rkP f l p n - 1 < l.length, far f l[rkP f l p n - 1].t ≤ far f p.t
  | 0, _, h => absurd h (Nat.lt_irrefl _)
  | n + 1, hn, h => by
    rw [rkP] at h
    unfold rkP
    split at h
    · rename_i hc
      simp only [hc, if_true]
      exact rkP_ahead f l p n (by omega) h
    · rename_i hc
      simp only [hc, if_false]
      refine ⟨by omega, ?_⟩
      have hnl : n < l.length := by omega
      simp [hnl] at hc
      simpa using hc
theorem rinsP_len (f : Int) (l : List Pm) (p : Pm) : (rinsP f l p).length = l.length + 1 := by
  unfold rinsP
  have := rkP_le f l p l.length
  simp
  omega
theorem rpiecesP_len (f : Int) (r : List Pm) : (rpiecesP f r).length = r.length := by
  induction r using snoc_ind with
  | h0 => rfl
  | h1 r p ih => rw [rpiecesP_snoc, rinsP_len, ih]; simp
theorem rinsP_perm (f : Int) (l : List Pm) (p : Pm) : (rinsP f l p).Perm (p :: l) := by
  unfold rinsP
  refine List.perm_middle.trans (List.Perm.cons _ ?_)
  rw [List.take_append_drop]
theorem rpiecesP_perm (f : Int) (r : List Pm) : (rpiecesP f r).Perm r := by
  induction r using snoc_ind with
  | h0 => exact List.Perm.refl _
  | h1 r p ih =>
    rw [rpiecesP_snoc]
    exact (rinsP_perm f _ p).trans ((List.Perm.cons p ih).trans (List.perm_append_singleton p r).symm)
theorem rinsP_str (f : Int) (l : List Pm) (p : Pm) (hs : Str f (keys l)) (hu : ∀ t ∈ keys l, U32 t) (hp : U32 p.t) (hn : p.t ∉ keys l) : Str f (keys (rinsP f l p)) := by
  obtain ⟨k, hk⟩ : ∃ k, k = rkP f l p l.length := ⟨_, rfl⟩
  have h1 := rkP_le f l p l.length
  have h2 := rkP_behind f l p l.length
  have h3 := rkP_ahead f l p l.length (Nat.le_refl _)
  unfold rinsP
  rw [← hk] at *
  unfold Str keys at *
  rw [List.map_append, List.map_cons, List.map_take, List.map_drop]
  rw [List.pairwise_iff_getElem] at hs
  have hb : ∀ b ∈ (l.map fun p => p.t).drop k, far f p.t < far f b := by
    intro b hb
    obtain ⟨i, hi, rfl⟩ := List.getElem_of_mem hb
    simp at hi
    have := h2 (k + i) (by omega) (by omega) (by omega)
    simpa using this
  have ha : ∀ a ∈ (l.map fun p => p.t).take k, far f a < far f p.t := by
    intro a ha
    obtain ⟨i, hi, rfl⟩ := List.getElem_of_mem ha
    simp at hi
    obtain ⟨hk1, h4⟩ := h3 (by omega)
    have hne : l[k - 1].t ≠ p.t := fun e => hn (List.mem_map.2 ⟨l[k - 1], List.getElem_mem _, e⟩)
    have hlt : far f l[k - 1].t < far f p.t := by
      rcases Int.lt_or_eq_of_le h4 with h | h
      · exact h
      · exact absurd (Sl.far_inj (hu _ (List.mem_map.2 ⟨l[k - 1], List.getElem_mem _, rfl⟩)) hp h) hne
    rcases Nat.lt_or_ge i (k - 1) with h5 | h5
    · have := hs i (k - 1) (by simp; omega) (by simp; omega) h5
      simp at this ⊢
      omega
    · obtain rfl : i = k - 1 := by omega
      simpa using hlt
  have hs' : (l.map fun p => p.t).Pairwise fun x y => far f x < far f y := List.pairwise_iff_getElem.2 hs
  refine List.pairwise_append.2 ⟨List.Pairwise.sublist (List.take_sublist _ _) hs', List.pairwise_cons.2 ⟨hb, List.Pairwise.sublist (List.drop_sublist _ _) hs'⟩, fun a h4 b h5 => ?_⟩
  rcases List.mem_cons.1 h5 with rfl | h5
  · exact ha a h4
  · have := ha a h4
    have := hb b h5
    omega
theorem rpiecesP_str (f : Int) (r : List Pm) (hu : ∀ t ∈ keys r, U32 t) (hn : (keys r).Nodup) : Str f (keys (rpiecesP f r)) := by
  induction r using snoc_ind with
  | h0 => exact List.Pairwise.nil
  | h1 r p ih =>
    rw [rpiecesP_snoc]
    have hk : keys (r ++ [p]) = keys r ++ [p.t] := by unfold keys; simp
    rw [hk] at hu hn
    rw [List.nodup_append] at hn
    have hmem : ∀ t, t ∈ keys (rpiecesP f r) ↔ t ∈ keys r := fun t => by
      unfold keys
      exact ((rpiecesP_perm f r).map fun p => p.t).mem_iff
    refine rinsP_str f _ p (ih (fun t ht => hu t (List.mem_append_left _ ht)) hn.1) (fun t ht => hu t (List.mem_append_left _ ((hmem t).1 ht))) (hu _ (List.mem_append_right _ (List.mem_singleton.2 rfl))) (fun h => ?_)
    exact hn.2.2 _ ((hmem _).1 h) _ (List.mem_singleton.2 rfl) rfl
theorem rpiecesP_ord (f : Int) {m r : List Pm} (h : Sim m r) (hu : ∀ t ∈ keys m, U32 t) (hn : (keys m).Nodup) : keys (rpiecesP f r) = ord f m := by
  have e := h.keys
  refine Sl.str_eq (rpiecesP_str f r (by rw [← e]; exact hu) (by rw [← e]; exact hn)) (ord_str f hu).1 fun x => ?_
  rw [(ord_str f hu).2, e]
  unfold keys
  exact ((rpiecesP_perm f r).map fun p => p.t).mem_iff
theorem fresh_sim {B : Nat} {w : World} {f : Int} {m r l : List Pm} (h : Sim m r) (hu : ∀ t ∈ keys m, U32 t) (hn : (keys m).Nodup) (hF : Fresh B w m (ord f m) l) (hl : l.length = (ord f m).length) : Sim l (rpiecesP f r) := by
  have ho := rpiecesP_ord f h hu hn
  have hlen : l.length = (rpiecesP f r).length := by
    rw [hl, ← ho]; unfold keys; simp
  unfold Sim
  refine List.ext_getElem (by simpa using hlen) fun i h1 h2 => ?_
  rw [List.getElem_map, List.getElem_map]
  have hi : i < l.length := by simpa using h1
  have hi' : i < (rpiecesP f r).length := by simpa using h2
  obtain ⟨p, hp, hc⟩ := hF.at_ i hi (by omega)
  have ht : (ord f m)[i]'(by omega) = (rpiecesP f r)[i].t := by
    have := List.getElem_of_eq ho (i := i) (by unfold keys; simpa using hi')
    rw [← this]
    unfold keys
    simp
  have hr : look r (rpiecesP f r)[i].t = some (rpiecesP f r)[i] := look_some (by rw [← h.keys]; exact hn) ((rpiecesP_perm f r).mem_iff.1 (List.getElem_mem _))
  have := look_sim h (rpiecesP f r)[i].t
  rw [hr, ← ht, hp] at this
  have e : core p = core (rpiecesP f r)[i] := Option.some.inj this
  rw [← e, hc.eq]
  rfl
end Go.Proofs.Ythoammfpjheodaa.Rz
