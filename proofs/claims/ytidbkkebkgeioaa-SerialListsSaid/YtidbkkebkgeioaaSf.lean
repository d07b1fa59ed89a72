import Derived.Test.YtidbkkebkgeioaaSe
namespace Go.Proofs.Ytidbkkebkgeioaa.Sl
open It (runs rl runs_nil runs_at rl_go rl_stop rl_end)
/-- How the document's Runs stands behind i numbers. -/
def RunAt (l : List Int) (i : Nat) (F M : List Int) : Prop :=
  (i = 0 ∧ F = [] ∧ M = []) ∨ ∃ (p m : Nat) (pre : List (Int × Nat)) (a : Int), i = p + m ∧ 1 ≤ m ∧ p + m ≤ l.length ∧ l[p]?.getD 0 = a ∧ runs l = pre ++ runs (l.drop p) ∧ rl a 1 (l.drop (p + 1)) = (m - 1) + rl a m (l.drop (p + m)) ∧ l[p + m - 1]?.getD 0 = (a + ((m - 1 : Nat) : Int)) % 4294967296 ∧ F = pre.map (·.1) ++ [a] ∧ M = pre.map (fun x => (x.2 : Int)) ++ [(m : Int)]
theorem RunAt.zero (l : List Int) : RunAt l 0 [] [] := .inl ⟨rfl, rfl, rfl⟩
theorem RunAt.len {l : List Int} {i : Nat} {F M : List Int} (h : RunAt l i F M) : F.length = M.length ∧ (0 < i → 0 < M.length) := by
  rcases h with ⟨rfl, rfl, rfl⟩ | ⟨p, m, pre, a, rfl, hm, _, _, _, _, _, rfl, rfl⟩
  · exact ⟨rfl, fun h => by omega⟩
  · simp
theorem u_mod {x : Int} (h : U x) : x % 4294967296 = x := by unfold U at h; omega
theorem RunAt.first {l : List Int} (h : 0 < l.length) (hu : U l[0]) {F M : List Int} (hr : RunAt l 0 F M) : RunAt l 1 (F ++ [l[0]]) (M ++ [1]) := by
  rcases hr with ⟨_, rfl, rfl⟩ | ⟨p, m, pre, a, hi, hm, _⟩
  · have e : l[0]?.getD 0 = l[0] := by simp [h]
    refine .inr ⟨0, 1, [], l[0], rfl, Nat.le_refl _, h, e, by simp, by simp, ?_, rfl, rfl⟩
    rw [show 0 + 1 - 1 = 0 from rfl, e]
    simp [u_mod hu]
  · omega
theorem RunAt.go {l : List Int} {i : Nat} {F M : List Int} (hr : RunAt l i F M) (h0 : 0 < i) (h : i < l.length) (he : l[i] = (l[i - 1]'(by omega) + 1) % 4294967296) : ∃ M0 m, M = M0 ++ [m] ∧ 0 ≤ m ∧ m ≤ (i : Int) ∧ RunAt l (i + 1) F (M0 ++ [m + 1]) := by
  rcases hr with ⟨rfl, _⟩ | ⟨p, m, pre, a, rfl, hm, hpm, ha, hru, hrl, hla, rfl, rfl⟩
  · omega
  · refine ⟨_, _, rfl, by omega, by omega, .inr ⟨p, m + 1, pre, a, by omega, by omega, by omega, ha, hru, ?_, ?_, rfl, by simp⟩⟩
    · have e : l[p + m]?.getD 0 = (a + m) % 4294967296 := by
        have h1 : l[p + m]?.getD 0 = l[p + m] := by simp [h]
        have h2 : l[p + m - 1]?.getD 0 = l[p + m - 1]'(by omega) := by simp [show p + m - 1 < l.length by omega]
        rw [h1, he, ← h2, hla]
        omega
      exact rl_go h hrl hm e
    · have h1 : l[p + (m + 1) - 1]?.getD 0 = l[p + m] := by
        rw [show p + (m + 1) - 1 = p + m by omega]
        simp [h]
      have h2 : l[p + m - 1]?.getD 0 = l[p + m - 1]'(by omega) := by simp [show p + m - 1 < l.length by omega]
      rw [h1, he, ← h2, hla]
      omega
theorem RunAt.stop {l : List Int} {i : Nat} {F M : List Int} (hr : RunAt l i F M) (h0 : 0 < i) (h : i < l.length) (hu : U l[i]) (he : ¬ l[i] = (l[i - 1]'(by omega) + 1) % 4294967296) : RunAt l (i + 1) (F ++ [l[i]]) (M ++ [1]) := by
  rcases hr with ⟨rfl, _⟩ | ⟨p, m, pre, a, rfl, hm, hpm, ha, hru, hrl, hla, rfl, rfl⟩
  · omega
  · have h1 : l[p + m]?.getD 0 = l[p + m] := by simp [h]
    have e : ¬ l[p + m]?.getD 0 = (a + m) % 4294967296 := by
      have h2 : l[p + m - 1]?.getD 0 = l[p + m - 1]'(by omega) := by simp [show p + m - 1 < l.length by omega]
      rw [h1]
      intro e'
      apply he
      rw [e', ← h2, hla]
      omega
    have hs := rl_stop h hrl hm e
    refine .inr ⟨p + m, 1, pre ++ [(a, m)], l[p + m], by omega, Nat.le_refl _, by omega, h1, ?_, by simp, ?_, by simp, by simp⟩
    · rw [hru, runs_at l p (by omega), ha, ← hs]
      simp
    · rw [show p + m + 1 - 1 = p + m by omega, h1]
      simp [u_mod hu]
theorem RunAt.fin {l : List Int} {F M : List Int} (hr : RunAt l l.length F M) : F = (runs l).map (·.1) ∧ M = (runs l).map (fun x => (x.2 : Int)) := by
  rcases hr with ⟨h, rfl, rfl⟩ | ⟨p, m, pre, a, hi, hm, hpm, ha, hru, hrl, hla, rfl, rfl⟩
  · have : l = [] := List.eq_nil_of_length_eq_zero h
    subst this
    rw [runs_nil]
    exact ⟨rfl, rfl⟩
  · have hs := rl_end (by omega) hrl hm
    rw [hru, runs_at l p (by omega), ha, ← hs, ← hi, List.drop_length, runs_nil]
    simp
end Go.Proofs.Ytidbkkebkgeioaa.Sl
