import Derived.Test.YthoammfpjheodaaRzT
import Derived.Deep.Slices
import Derived.Deep.Fields
import Derived.ChangeSame
import Derived.WalkKit
import Derived.ProofKit
import Derived.OpenShut
import Derived.ChangeOld
import Derived.SizedLaws
import Derived.Lib.SmallJoins
namespace Go.Proofs.Ythoammfpjheodaa.Rz
open Go.ChangeShapes Go.WideShapes Go.ChangeAt Go.RowKit Go.Shelf MK Go.Joins
open Base (hid cell_new1 cell_old1 froz_new1 froz_old1)
attribute [local go_sem] Oper.semAt_some
set_option linter.unusedVariables false
set_option linter.unusedSimpArgs false
set_option maxRecDepth 100000
/-- A piece that came from outside. -/
structure Inp (w : World) (p : Pm) : Prop where
  txt : Txt w p.A p.x
  nil : p.A = none → p.c = 0
  u : U32 p.t
  s : 0 ≤ p.s ∧ p.s ≤ 65535
  l : p.x.length ≤ 140737488351232
  q : 0 ≤ p.q ∧ p.q ≤ 65535
  by_ : ∀ b ∈ p.x, 0 ≤ b ∧ b < 256
theorem Inp.ok {w : World} {p : Pm} (h : Inp w p) (hl : p.x.length ≤ 1000000) : Ok w p := ⟨h.txt, h.nil, h.u, hl⟩
theorem Inp.below {w w' : World} {p : Pm} (h : Inp w p) (hb : Below w.heap.size w w') : Inp w' p := ⟨h.txt.below hb, h.nil, h.u, h.s, h.l, h.q, h.by_⟩
/-- Pieces in a row. -/
structure InR (w : World) (A : Option Addr) (c : Nat) (l : List Pm) : Prop where
  cells : ∀ i (h : i < l.length), ∃ ad, A = some ad ∧ ad.block < w.heap.size ∧ ∀ k (hk : k < 7), w.cell? (ad.add (i * 7 + k)) = some (l[i].cells[k]'hk)
  inp : ∀ p ∈ l, Inp w p
  nil : A = none → c = 0
  cap : l.length ≤ c
  len : l.length ≤ 9223372036854775807
theorem InR.below {w w' : World} {A : Option Addr} {c : Nat} {l : List Pm} (h : InR w A c l) (hb : Below w.heap.size w w') : InR w' A c l := by
  refine ⟨fun i hi => ?_, fun p hp => (h.inp p hp).below hb, h.nil, h.cap, h.len⟩
  obtain ⟨ad, e, hl, hc⟩ := h.cells i hi
  refine ⟨ad, e, Nat.lt_of_lt_of_le hl hb.size, fun k hk => (hb.cell (p := ad.add (i * 7 + k)) ?_).trans (hc k hk)⟩
  rw [add_block]
  exact hl
theorem cell_add2 (w : World) (a : Addr) (n k : Nat) (hk : 0 < k) : w.cell? ⟨(a.add n).block, (a.add n).off + k, none⟩ = w.cell? (a.add (n + k)) := by
  have e1 : (a.add n).off = a.off + n := by unfold Addr.add; split <;> simp_all
  have e2 : (a.add (n + k)).off = a.off + (n + k) := by unfold Addr.add; split <;> simp_all
  have e3 : (a.add (n + k)).spot = none := by unfold Addr.add; rw [if_neg (by omega)]
  simp only [World.cell?, add_block, e1, e2, e3, Nat.add_assoc]
theorem InR.at {w : World} {A : Option Addr} {c : Nat} {l : List Pm} (h : InR w A c l) (i : Nat) (hi : i < l.length) : ∃ ad, A = some ad ∧ ad.block < w.heap.size ∧
    w.cell? (ad.add (i * 7)) = some (.int .u32 l[i].t) ∧ w.cell? ⟨(ad.add (i * 7)).block, (ad.add (i * 7)).off + 1, none⟩ = some (.int .u16 l[i].s) ∧ w.cell? ⟨(ad.add (i * 7)).block, (ad.add (i * 7)).off + 2, none⟩ = some (.int .u16 l[i].q) ∧ w.cell? ⟨(ad.add (i * 7)).block, (ad.add (i * 7)).off + 3, none⟩ = some (.bool l[i].b) ∧
    w.cell? ⟨(ad.add (i * 7)).block, (ad.add (i * 7)).off + 4, none⟩ = some (.bool l[i].e) ∧ w.cell? ⟨(ad.add (i * 7)).block, (ad.add (i * 7)).off + 5, none⟩ = some (.bool l[i].u) ∧ w.cell? ⟨(ad.add (i * 7)).block, (ad.add (i * 7)).off + 6, none⟩ = some (.slice l[i].A l[i].x.length l[i].c) := by
  obtain ⟨ad, e, hb, h7⟩ := h.cells i hi
  exact ⟨ad, e, hb, h7 0 (by decide), (cell_add2 _ _ _ 1 (by decide)).trans (h7 1 (by decide)), (cell_add2 _ _ _ 2 (by decide)).trans (h7 2 (by decide)), (cell_add2 _ _ _ 3 (by decide)).trans (h7 3 (by decide)), (cell_add2 _ _ _ 4 (by decide)).trans (h7 4 (by decide)), (cell_add2 _ _ _ 5 (by decide)).trans (h7 5 (by decide)), (cell_add2 _ _ _ 6 (by decide)).trans (h7 6 (by decide))⟩
/-- How long is too long. -/
def longP (l : List Pm) : Bool := decide (51 < l.length) || decide (4000 < held l)
theorem held_take_le (l : List Pm) (i : Nat) : held (l.take i) ≤ held l := by
  have := List.take_append_drop i l
  have h : held l = held (l.take i) + held (l.drop i) := by
    conv => lhs; rw [← this]
    unfold held
    rw [List.map_append, List.sum_append]
  omega
theorem held_take_succ (l : List Pm) (i : Nat) (h : i < l.length) : held (l.take (i + 1)) = held (l.take i) + l[i].x.length := by
  rw [List.take_succ_eq_append_getElem h]
  exact held_app _ _
set_option maxHeartbeats 1000000 in
theorem long_calls (w : World) (A : Option Addr) (c : Nat) (l : List Pm) (h : InR w A c l) :
    Calls Try.prog 33 #[.slice A l.length c] w fun e w' => e = .returned (.bool (longP l)) ∧ Below w.heap.size w w' := by
  have H := hid h
  clear h
  go_enter Try.func33, Try.ntmps33
  go_wp2
  go_loopw [3, 8] (fun v3 v8 wr => ∃ i : Nat, i ≤ l.length ∧ i ≤ 51 ∧ v8 = .int .i64 i ∧ v3 = .int .i64 (held (l.take i) : Nat) ∧ Hid (held (l.take i) ≤ 4000) ∧ Hid (Below w.heap.size w wr)) (fun v3 v8 _ => l.length - numV v8)
  case atStart => exact ⟨0, Nat.zero_le _, Nat.zero_le _, rfl, rfl, hid (Nat.zero_le _), hid (Below.refl _ _)⟩
  case round =>
    obtain ⟨i, hil, hi51, rfl, rfl, HH, HW⟩ := hrel
    by_cases hlt : i < l.length
    · obtain ⟨ad, rfl, hbl, c0, c1, c2, c3, c4, c5, c6⟩ := (H.out.below HW.out).at i hlt
      obtain ⟨p, hp⟩ : ∃ p, l[i] = p := ⟨_, rfl⟩
      have hpl : p.x.length ≤ 140737488351232 := by rw [← hp]; exact (H.out.inp _ (List.getElem_mem hlt)).l
      have hns := held_take_succ l i hlt
      rw [hp] at c0 c1 c2 c3 c4 c5 c6 hns
      have hh := HH.out
      have hle := held_take_le l (i + 1)
      have hw1 : wrap64 ((held (l.take i) : Nat) + (p.x.length : Int)) = ((held (l.take (i + 1)) : Nat) : Int) := by unfold wrap64; omega
      have HN := hid hns
      have HP := hid hp
      have HLE := hid hle
      have HB2 : Hid (Below w.heap.size w (wr.alloc (.cells #[.int .u32 p.t, .int .u16 p.s, .int .u16 p.q, .bool p.b, .bool p.e, .bool p.u, .slice p.A p.x.length p.c] 40))) := hid (below_alloc HW.out _)
      by_cases h5 : 50 < i
      · have d5 : decide ((50 : Int) < (i : Int)) = true := by simp; omega
        have hres : longP l = true := by unfold longP; simp; omega
        have HRES := hid hres
        clear hp hns hle hres hh
        go_wp2
        go_ret
        rw [HRES.out]
        exact ⟨rfl, HB2.out⟩
      · have d5 : decide ((50 : Int) < (i : Int)) = false := by simp; omega
        by_cases h6 : 4000 < held (l.take (i + 1))
        · have d6 : decide ((4000 : Int) < ((held (l.take (i + 1)) : Nat) : Int)) = true := by simp; omega
          have hres : longP l = true := by unfold longP; simp; omega
          have HRES := hid hres
          clear hp hns hle hres hh h6
          go_wp2
          go_ret
          rw [HRES.out]
          exact ⟨rfl, HB2.out⟩
        · have d6 : decide ((4000 : Int) < ((held (l.take (i + 1)) : Nat) : Int)) = false := by simp; omega
          have H6 := hid (Nat.le_of_not_lt h6)
          clear hp hns hle hh h6
          go_wp2
          go_roundw
          case rel => exact ⟨i + 1, by omega, by omega, by simp, by rw [hw1], H6, HB2⟩
          case measure => simp [numV]; omega
    · obtain rfl : i = l.length := by omega
      have hh := HH.out
      rw [List.take_length] at hh
      have hres : longP l = false := by unfold longP; simp; omega
      have HRES := hid hres
      clear hh hres
      go_wp2
      go_ret
      rw [HRES.out]
      exact ⟨rfl, HW.out⟩
end Go.Proofs.Ythoammfpjheodaa.Rz
