import Derived.Test.YtnlhlffciigcnaaFragGa
import Derived.Test.YtnlhlffciigcnaaFragMsg
import Derived.Test.YtnlhlffciigcnaaFragRow
namespace Go.Proofs.Ytnlhlffciigcnaa.QFrag
open Go.RowKit Go.Proofs.YtnlhlffciigcnaaW.PrintWords Go.Proofs.YtnlhlffciigcnaaW.PrintLast Go.Proofs.YtnlhlffciigcnaaW.PrintMore Go.ChangeShapes Go.WideShapes Go.ChangeAt Go.Shelf
open Base (hid slice_of_row ret_bool cell_new1 cell_old1 froz_new1 froz_old1)
open Go.Joins (cell_of_block unfrozen_of_block)
attribute [local go_sem] Oper.semAt_some
set_option linter.unusedVariables false
/-- The pieces of one message, as they stand. -/
structure Cl (c : List S93) (m : S77) : Prop where
  pos : 0 < c.length
  le : c.length ≤ 400
  beg : ∀ j (h : j < c.length), c[j].f3 = (j == 0)
  fin : ∀ j (h : j < c.length), c[j].f4 = (j + 1 == c.length)
  next : ∀ j (h : j + 1 < c.length), c[j + 1].f0 = (c[j].f0 + 1) % 4294967296
  head : 0 ≤ (rd_T93 c 0).f0 ∧ (rd_T93 c 0).f0 < 4294967296
  whole : FL.wholeF c = (m.f0, m.f1, m.f2, none)
  short : ∀ p ∈ c, p.f6.length ≤ 64
theorem cl_cut (m : S77) (tsn seq : Int) (z : Nat) (hz1 : 1 ≤ z) (hz2 : z ≤ 64) (hg : goodB m.f0 m.f2.length = true) : Cl (FL.cutL m.f0 m.f1 m.f2 tsn seq z) m := by
  have hl := good_len hg
  have hj := FL.cut_joined m.f0 m.f1 m.f2 tsn seq z hz1 hz2 hl.1 (by omega)
  have hN : 0 < parts m.f2.length z := (parts_lt (by omega)).2 (by omega)
  refine ⟨by rw [FL.cutL_len]; exact hN, by rw [FL.cutL_len]; exact Nat.le_trans (parts_le _ _ (by omega)) hl.2, fun j h => by rw [FL.cutL_at]; rfl, fun j h => by rw [FL.cutL_at, FL.cutL_len]; rfl, fun j h => ?_, FL.cut_first _ _ _ _ _ _ (by rw [FL.cutL_len]; exact hN), FL.cut_whole _ _ _ _ _ _ hz1 hz2 hg, FL.joined_short hj⟩
  rw [FL.cutL_at, FL.cutL_at]
  show (tsn + ((j + 1 : Nat) : Int) % 4294967296) % 4294967296 = ((tsn + (j : Int) % 4294967296) % 4294967296 + 1) % 4294967296
  omega
theorem run_cl (c : List S93) (m : S77) (h : Cl c m) (rest : List S93) : ∀ k i, 1 ≤ i → i ≤ c.length → c.length - i < k → runTo (c ++ rest) k i = c.length := by
  intro k
  induction k with
  | zero => intro i _ _ h; omega
  | succ k ih =>
    intro i h1 h2 hk
    rw [runTo]
    obtain ⟨j, rfl⟩ : ∃ j, i = j + 1 := ⟨i - 1, by omega⟩
    have e1 : ∀ q, q < c.length → rd_T93 (c ++ rest) (q : Int) = c.getD q z93 := by
      intro q hq
      unfold rd_T93
      rw [Int.toNat_natCast]
      simp [List.getD_eq_getElem?_getD, List.getElem?_append_left hq]
    have e0 : ((j + 1 : Nat) : Int) - 1 = (j : Int) := by omega
    have gd : ∀ q (hq : q < c.length), c.getD q z93 = c[q] := fun q hq => by simp [List.getD_eq_getElem?_getD, hq]
    rcases Nat.lt_or_ge (j + 1) c.length with hlt | hge
    · have hg : goesOn (c ++ rest) (j + 1) = true := by
        unfold goesOn
        rw [e0, e1 (j + 1) hlt, e1 j (by omega), gd (j + 1) hlt, gd j (by omega), h.next j hlt, h.beg (j + 1) hlt, h.fin j (by omega)]
        simp
        omega
      rw [if_pos ⟨by rw [List.length_append]; omega, hg⟩]
      exact ih (j + 1 + 1) (by omega) (by omega) (by omega)
    · have hg : goesOn (c ++ rest) (j + 1) = false := by
        unfold goesOn
        rw [e0, e1 j (by omega), gd j (by omega), h.fin j (by omega)]
        have : (j + 1 == c.length) = true := by simp; omega
        rw [this]
        simp
      rw [if_neg (fun hh => by rw [hg] at hh; exact absurd hh.2 (by decide))]
      omega
def Cls : List (List S93) → List S77 → Prop
  | [], [] => True
  | c :: cs, m :: ms => Cl c m ∧ Cls cs ms
  | _, _ => False
theorem groups_cl : ∀ (cs : List (List S93)) (ms : List S77), Cls cs ms → groupsL cs.flatten = cs
  | [], [], _ => groupsL_nil _ rfl
  | [], _ :: _, h => h.elim
  | _ :: _, [], h => h.elim
  | c :: cs, m :: ms, ⟨h, hs⟩ => by
    have hp := h.pos
    have hf : firstN (c ++ cs.flatten) = c.length := by
      unfold firstN
      rw [if_neg (by rw [List.length_append]; omega)]
      exact run_cl c m h _ _ 1 (Nat.le_refl _) (by omega) (by rw [List.length_append]; omega)
    rw [List.flatten_cons, groupsL_cons _ (by rw [List.length_append]; omega), hf, List.take_left, List.drop_left, groups_cl cs ms hs]
theorem cls_snoc : ∀ (cs : List (List S93)) (ms : List S77) {c : List S93} {m : S77}, Cls cs ms → Cl c m → Cls (cs ++ [c]) (ms ++ [m])
  | [], [], _, _, _, h => ⟨h, trivial⟩
  | [], _ :: _, _, _, h, _ => h.elim
  | _ :: _, [], _, _, h, _ => h.elim
  | c :: cs, m :: ms, _, _, ⟨h, hs⟩, hc => ⟨h, cls_snoc cs ms hs hc⟩
theorem cls_len : ∀ (cs : List (List S93)) (ms : List S77), Cls cs ms → cs.flatten.length ≤ 400 * ms.length ∧ cs.length = ms.length
  | [], [], _ => ⟨Nat.zero_le _, rfl⟩
  | [], _ :: _, h => h.elim
  | _ :: _, [], h => h.elim
  | c :: cs, m :: ms, ⟨h, hs⟩ => by
    have := h.le
    have := cls_len cs ms hs
    rw [List.flatten_cons, List.length_append, List.length_cons, List.length_cons]
    omega
theorem cls_short : ∀ (cs : List (List S93)) (ms : List S77), Cls cs ms → ∀ p ∈ cs.flatten, p.f6.length ≤ 64
  | [], [], _, p, hp => by simp at hp
  | [], _ :: _, h, _, _ => h.elim
  | _ :: _, [], h, _, _ => h.elim
  | c :: cs, m :: ms, ⟨h, hs⟩, p, hp => by
    rw [List.flatten_cons, List.mem_append] at hp
    rcases hp with hp | hp
    · exact h.short p hp
    · exact cls_short cs ms hs p hp
theorem cls_at : ∀ (cs : List (List S93)) (ms : List S77), Cls cs ms → ∀ i (hi : i < cs.length) (hm : i < ms.length), Cl cs[i] ms[i]
  | [], [], _, i, hi, _ => by simp at hi
  | [], _ :: _, h, _, _, _ => h.elim
  | _ :: _, [], h, _, _, _ => h.elim
  | c :: cs, m :: ms, ⟨h, hs⟩, 0, _, _ => h
  | c :: cs, m :: ms, ⟨h, hs⟩, i + 1, hi, hm => cls_at cs ms hs i (by simpa using hi) (by simpa using hm)
end Go.Proofs.Ytnlhlffciigcnaa.QFrag
