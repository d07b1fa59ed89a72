import Derived.Test.YthoammfpjheodaaOrW
namespace Go.Proofs.Ythoammfpjheodaa.Or
open Go.ChangeShapes Go.WideShapes Go.ChangeAt Go.RowKit Go.Shelf MK
open Base (hid cell_new1 cell_old1 froz_new1 froz_old1)
open Rz (below_alloc lt_of_cell add_block Txt box_at box_new box_old setCells_grown grown_setAt own_low own_base txt_row nil_row clone_calls)
attribute [local go_sem] Oper.semAt_some
set_option linter.unusedVariables false
set_option linter.unusedSimpArgs false
set_option maxRecDepth 100000
/-! acts from outside; long -/
/-- A message that came from outside. -/
structure MIn (w : World) (m : Mg) : Prop where
  txt : Txt w m.A m.x
  nil : m.A = none → m.c = 0
  cap : m.x.length ≤ m.c
  l : m.x.length ≤ 140737488351232
  by_ : By m.x
theorem MIn.below {w w' : World} {m : Mg} (h : MIn w m) (hb : Below w.heap.size w w') : MIn w' m := ⟨h.txt.below hb, h.nil, h.cap, h.l, h.by_⟩
structure Ac where
  out : Bool
  q : Int
  m : Mg
def Ac.cells (a : Ac) : List Value := [.bool a.out, .int .u16 a.q, .int .i64 a.m.s, .bool a.m.u, .slice a.m.A a.m.x.length a.m.c]
/-- Acts in a row. -/
structure AR (w : World) (A : Option Addr) (c : Nat) (l : List Ac) : Prop where
  cells : ∀ i (h : i < l.length), ∃ ad, A = some ad ∧ ad.block < w.heap.size ∧ ∀ k (hk : k < 5), w.cell? (ad.add (i * 5 + k)) = some (l[i].cells[k]'hk)
  inp : ∀ p ∈ l, MIn w p.m
  q : ∀ p ∈ l, 0 ≤ p.q ∧ p.q ≤ 65535
  nil : A = none → c = 0
  cap : l.length ≤ c
  len : l.length ≤ 9223372036854775807
theorem AR.below {w w' : World} {A : Option Addr} {c : Nat} {l : List Ac} (h : AR w A c l) (hb : Below w.heap.size w w') : AR w' A c l := by
  refine ⟨fun i hi => ?_, fun p hp => (h.inp p hp).below hb, h.q, h.nil, h.cap, h.len⟩
  obtain ⟨ad, e, hl, hc⟩ := h.cells i hi
  refine ⟨ad, e, Nat.lt_of_lt_of_le hl hb.size, fun k hk => (hb.cell (p := ad.add (i * 5 + k)) ?_).trans (hc k hk)⟩
  rw [add_block]
  exact hl
theorem cell_add2 (w : World) (a : Addr) (n k : Nat) (hk : 0 < k) : w.cell? ⟨(a.add n).block, (a.add n).off + k, none⟩ = w.cell? (a.add (n + k)) := by
  have e1 : (a.add n).off = a.off + n := by unfold Addr.add; split <;> simp_all
  have e2 : (a.add (n + k)).off = a.off + (n + k) := by unfold Addr.add; split <;> simp_all
  have e3 : (a.add (n + k)).spot = none := by unfold Addr.add; rw [if_neg (by omega)]
  simp only [World.cell?, add_block, e1, e2, e3, Nat.add_assoc]
theorem AR.at {w : World} {A : Option Addr} {c : Nat} {l : List Ac} (h : AR w A c l) (i : Nat) (hi : i < l.length) : ∃ ad, A = some ad ∧ ad.block < w.heap.size ∧
    w.cell? (ad.add (i * 5)) = some (.bool l[i].out) ∧ w.cell? ⟨(ad.add (i * 5)).block, (ad.add (i * 5)).off + 1, none⟩ = some (.int .u16 l[i].q) ∧ w.cell? ⟨(ad.add (i * 5)).block, (ad.add (i * 5)).off + 2, none⟩ = some (.int .i64 l[i].m.s) ∧ w.cell? ⟨(ad.add (i * 5)).block, (ad.add (i * 5)).off + 3, none⟩ = some (.bool l[i].m.u) ∧
    w.cell? ⟨(ad.add (i * 5)).block, (ad.add (i * 5)).off + 4, none⟩ = some (.slice l[i].m.A l[i].m.x.length l[i].m.c) := by
  obtain ⟨ad, e, hb, h7⟩ := h.cells i hi
  exact ⟨ad, e, hb, h7 0 (by decide), (cell_add2 _ _ _ 1 (by decide)).trans (h7 1 (by decide)), (cell_add2 _ _ _ 2 (by decide)).trans (h7 2 (by decide)), (cell_add2 _ _ _ 3 (by decide)).trans (h7 3 (by decide)), (cell_add2 _ _ _ 4 (by decide)).trans (h7 4 (by decide))⟩
def tot (l : List Ac) : Nat := (l.map fun a => a.m.x.length).sum
theorem tot_app (a b : List Ac) : tot (a ++ b) = tot a + tot b := by unfold tot; rw [List.map_append, List.sum_append]
theorem tot_take_le (l : List Ac) (i : Nat) : tot (l.take i) ≤ tot l := by
  have h : tot l = tot (l.take i) + tot (l.drop i) := by
    conv => lhs; rw [← List.take_append_drop i l]
    exact tot_app _ _
  omega
theorem tot_take_succ (l : List Ac) (i : Nat) (h : i < l.length) : tot (l.take (i + 1)) = tot (l.take i) + l[i].m.x.length := by
  rw [List.take_succ_eq_append_getElem h, tot_app]
  simp [tot]
/-- How long is too long. -/
def longA (l : List Ac) : Bool := decide (51 < l.length) || decide (5000 < tot l)
set_option maxHeartbeats 1000000 in
theorem long_calls (w : World) (A : Option Addr) (c : Nat) (l : List Ac) (h : AR w A c l) :
    Calls Try.prog 19 #[.slice A l.length c] w fun e w' => e = .returned (.bool (longA l)) ∧ Below w.heap.size w w' := by
  have H := hid h
  have HLEN := h.len
  clear h
  go_enter Try.func19, Try.ntmps19
  go_wp2
  go_loopw [3, 8] (fun v3 v8 wr => ∃ i : Nat, i ≤ l.length ∧ i ≤ 51 ∧ v8 = .int .i64 i ∧ v3 = .int .i64 (tot (l.take i) : Nat) ∧ Hid (tot (l.take i) ≤ 5000) ∧ Hid (Below w.heap.size w wr)) (fun v3 v8 _ => l.length - numV v8)
  case atStart => exact ⟨0, Nat.zero_le _, Nat.zero_le _, rfl, rfl, hid (Nat.zero_le _), hid (Below.refl _ _)⟩
  case round =>
    obtain ⟨i, hil, hi51, rfl, rfl, HH, HW⟩ := hrel
    by_cases hlt : i < l.length
    · obtain ⟨ad, rfl, hbl, c0, c1, c2, c3, c4⟩ := (H.out.below HW.out).at i hlt
      obtain ⟨p, hp⟩ : ∃ p, l[i] = p := ⟨_, rfl⟩
      have hpl : p.m.x.length ≤ 140737488351232 := by rw [← hp]; exact (H.out.inp _ (List.getElem_mem hlt)).l
      have hns := tot_take_succ l i hlt
      rw [hp] at c0 c1 c2 c3 c4 hns
      have hh := HH.out
      have hle := tot_take_le l (i + 1)
      obtain ⟨T0, hT0⟩ : ∃ T0, tot (l.take i) = T0 := ⟨_, rfl⟩
      obtain ⟨T1, hT1⟩ : ∃ T1, tot (l.take (i + 1)) = T1 := ⟨_, rfl⟩
      rw [hT0, hT1] at hns
      rw [hT0] at hh ⊢
      rw [hT1] at hle
      have HN := hid hns
      have HT1 := hid hT1
      have HP := hid hp
      have HB2 : Hid (Below w.heap.size w (wr.alloc (.cells #[.bool p.out, .int .u16 p.q, .int .i64 p.m.s, .bool p.m.u, .slice p.m.A p.m.x.length p.m.c] 56))) := hid (below_alloc HW.out _)
      by_cases h5 : 50 < i
      · have d5 : decide ((50 : Int) < (i : Int)) = true := by simp; omega
        have hres : longA l = true := by unfold longA; simp; omega
        have HRES := hid hres
        clear hp hns hle hres hh hT0 hT1
        go_wp2
        go_ret
        rw [HRES.out]
        exact ⟨rfl, HB2.out⟩
      · have d5 : decide ((50 : Int) < (i : Int)) = false := by simp; omega
        by_cases h6 : 5000 < T1
        · have d6 : decide ((5000 : Int) < (T0 : Int) + (p.m.x.length : Int)) = true := by simp; omega
          have hres : longA l = true := by unfold longA; simp; omega
          have HRES := hid hres
          clear hp hns hle hres h6 hT0 hT1
          go_wp2
          go_ret
          rw [HRES.out]
          exact ⟨rfl, HB2.out⟩
        · have d6 : decide ((5000 : Int) < (T0 : Int) + (p.m.x.length : Int)) = false := by simp; omega
          have H6 := hid (Nat.le_of_not_lt h6)
          clear hp hns hle h6 hT0 hT1
          go_wp2
          go_roundw
          case rel => exact ⟨i + 1, by omega, by omega, by simp, by rw [HT1.out, HN.out]; simp, hid (by rw [HT1.out]; exact H6.out), HB2⟩
          case measure => simp [numV]; omega
    · obtain rfl : i = l.length := by omega
      have hh := HH.out
      rw [List.take_length] at hh
      have hres : longA l = false := by unfold longA; simp; omega
      have HRES := hid hres
      clear hh hres
      go_wp2
      go_ret
      rw [HRES.out]
      exact ⟨rfl, HW.out⟩
end Go.Proofs.Ythoammfpjheodaa.Or
