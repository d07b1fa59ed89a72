import Derived.Test.YthoammfpjheodaaRmStep
import Derived.Test.YthoammfpjheodaaRaW
import Derived.Test.YthoammfpjheodaaRmIt
namespace Go.Proofs.Ythoammfpjheodaa.Rz
open Go
set_option linter.unusedVariables false
set_option linter.unusedSimpArgs false
/-! the pieces of a message, in plain words -/
def cutC (st : Int) (un : Bool) (x : List Int) (tsn seq : Int) (z j : Nat) : Pm := ⟨step tsn j, st, if un then 0 else seq, decide (j = 0), decide (j + 1 = parts x.length z), un, none, (x.drop (j * z)).take z, 0⟩
def cutL (st : Int) (un : Bool) (x : List Int) (tsn seq : Int) (z : Nat) : List Pm := (List.range (parts x.length z)).map (cutC st un x tsn seq z)
theorem chunks_take (x : List Int) (z : Nat) : ∀ k, ((List.range k).flatMap fun j => (x.drop (j * z)).take z) = x.take (k * z)
  | 0 => by simp
  | k + 1 => by
    rw [List.range_succ, List.flatMap_append, chunks_take x z k]
    simp only [List.flatMap_cons, List.flatMap_nil, List.append_nil]
    rw [Nat.succ_mul, List.take_add]
/-- What a cut message is. -/
structure Cuts (st : Int) (un : Bool) (x : List Int) (tsn seq : Int) (z : Nat) (L : List Pm) : Prop where
  eq : L.map core = cutL st un x tsn seq z
  hx : 1 ≤ x.length ∧ x.length ≤ 400
  hz : 1 ≤ z ∧ z ≤ 64
  hs : 0 ≤ st ∧ st ≤ 7
  hu : U32 tsn
theorem Cuts.len {st : Int} {un : Bool} {x : List Int} {tsn seq : Int} {z : Nat} {L : List Pm} (h : Cuts st un x tsn seq z L) : L.length = parts x.length z := by
  have := congrArg List.length h.eq
  simpa [cutL] using this
theorem Cuts.pos {st : Int} {un : Bool} {x : List Int} {tsn seq : Int} {z : Nat} {L : List Pm} (h : Cuts st un x tsn seq z L) : 0 < L.length ∧ L.length ≤ 400 := by
  rw [h.len]
  refine ⟨(parts_lt h.hz.1).2 (by have := h.hx.1; omega), ?_⟩
  have := parts_le x.length z h.hz.1
  have := h.hx.2
  omega
theorem Cuts.at {st : Int} {un : Bool} {x : List Int} {tsn seq : Int} {z : Nat} {L : List Pm} (h : Cuts st un x tsn seq z L) (k : Nat) (hk : k < L.length) : core L[k] = cutC st un x tsn seq z k := by
  have := List.getElem_of_eq h.eq (i := k) (by simpa using hk)
  rw [List.getElem_map] at this
  rw [this]
  unfold cutL
  simp
theorem Cuts.flds {st : Int} {un : Bool} {x : List Int} {tsn seq : Int} {z : Nat} {L : List Pm} (h : Cuts st un x tsn seq z L) (k : Nat) (hk : k < L.length) :
    L[k].t = step tsn k ∧ L[k].s = st ∧ L[k].q = (if un then 0 else seq) ∧ L[k].b = decide (k = 0) ∧ L[k].e = decide (k + 1 = L.length) ∧ L[k].u = un ∧ L[k].x = (x.drop (k * z)).take z := by
  have e := h.at k hk
  rw [h.len]
  have h1 := congrArg Pm.t e
  have h2 := congrArg Pm.s e
  have h3 := congrArg Pm.q e
  have h4 := congrArg Pm.b e
  have h5 := congrArg Pm.e e
  have h6 := congrArg Pm.u e
  have h7 := congrArg Pm.x e
  exact ⟨h1, h2, h3, h4, h5, h6, h7⟩
theorem Cuts.grp {st : Int} {un : Bool} {x : List Int} {tsn seq : Int} {z : Nat} {L : List Pm} (h : Cuts st un x tsn seq z L) : Grp L := by
  have hp := h.pos
  have h0 : L[0].t = tsn := by
    rw [(h.flds 0 hp.1).1]
    exact step_zero h.hu
  exact ⟨hp.1, fun k hk => by rw [(h.flds k hk).1, h0], fun k hk => (h.flds k hk).2.2.2.1, fun k hk => (h.flds k hk).2.2.2.2.1, by omega, by rw [h0]; exact h.hu⟩
theorem Cuts.txt {st : Int} {un : Bool} {x : List Int} {tsn seq : Int} {z : Nat} {L : List Pm} (h : Cuts st un x tsn seq z L) : textP L = x := by
  rw [← textP_core, h.eq]
  unfold textP cutL
  rw [List.flatMap_map]
  have := chunks_take x z (parts x.length z)
  refine this.trans (List.take_of_length_le ?_)
  rcases Nat.lt_or_ge (parts x.length z * z) x.length with h1 | h1
  · exact absurd ((parts_lt h.hz.1).2 h1) (Nat.lt_irrefl _)
  · exact h1
theorem Cuts.chunk {st : Int} {un : Bool} {x : List Int} {tsn seq : Int} {z : Nat} {L : List Pm} (h : Cuts st un x tsn seq z L) (k : Nat) (hk : k < L.length) : 1 ≤ L[k].x.length ∧ L[k].x.length ≤ 64 := by
  rw [(h.flds k hk).2.2.2.2.2.2, List.length_take, List.length_drop]
  rw [h.len] at hk
  have := (parts_lt h.hz.1).1 hk
  have := h.hz
  omega
theorem Cuts.whole {st : Int} {un : Bool} {x : List Int} {tsn seq : Int} {z : Nat} {L : List Pm} (h : Cuts st un x tsn seq z L) : wholeP L = some (st, un, x) := by
  have hp := h.pos.1
  have h0 : L[0].t = tsn := by
    rw [(h.flds 0 hp).1]
    exact step_zero h.hu
  have hj : joinedP L = true := (joined_iff hp (by rw [h0]; exact h.hu)).2 fun i hi => by
    obtain ⟨a1, a2, a3, a4, a5, a6, a7⟩ := h.flds i hi
    obtain ⟨b1, b2, b3, b4, b5, b6, b7⟩ := h.flds 0 hp
    exact (okR_iff _ _ _ _).2 ⟨a4, a5, h.chunk i hi, by rw [a1, h0], a2.trans b2.symm, a3.trans b3.symm, a6.trans b6.symm⟩
  rw [wholeP_eq hj hp, h.txt, (h.flds 0 hp).2.1, (h.flds 0 hp).2.2.2.2.2.1, if_pos]
  unfold goodN
  have := h.hx
  have := h.hs
  simp
  omega
theorem Cuts.right {st : Int} {un : Bool} {x : List Int} {tsn seq : Int} {z : Nat} {L : List Pm} (h : Cuts st un x tsn seq z L) : ∀ p ∈ L, rightP p = true := fun p hp => by
  obtain ⟨k, hk, rfl⟩ := List.getElem_of_mem hp
  have h1 := h.chunk k hk
  have h2 := (h.flds k hk).2.1
  have h3 := h.hs
  unfold rightP
  simp only [Bool.and_eq_true, decide_eq_true_eq]
  omega
theorem held_text (l : List Pm) : held l = (textP l).length := by
  unfold held textP
  rw [List.length_flatMap]
theorem Cuts.held {st : Int} {un : Bool} {x : List Int} {tsn seq : Int} {z : Nat} {L : List Pm} (h : Cuts st un x tsn seq z L) : held L = x.length := by rw [held_text, h.txt]
end Go.Proofs.Ythoammfpjheodaa.Rz
