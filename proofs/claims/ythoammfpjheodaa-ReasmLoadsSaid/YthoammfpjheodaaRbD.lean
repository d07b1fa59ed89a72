import Derived.Test.YthoammfpjheodaaRaZ
import Derived.Deep.RegionWith
namespace Go.Proofs.Ythoammfpjheodaa.Rz
open Go.ChangeShapes Go.WideShapes Go.ChangeAt Go.RowKit Go.Shelf MK Go.Joins
open Base (hid cell_new1 cell_old1 froz_new1 froz_old1)
attribute [local go_sem] Oper.semAt_some
set_option linter.unusedVariables false
set_option linter.unusedSimpArgs false
set_option maxRecDepth 100000
/-! the document's Right -/
def badR (l : List Pm) (i : Nat) (p : Pm) : Bool := !rightP p || ((look (l.take i) p.t).isSome || closed (rpart l p))
def rightL (l : List Pm) : Bool := ((List.range l.length).all fun i => ((l[i]?.map fun p => !badR l i p).getD true)) && decide (held l ≤ 2000)
theorem rightL_no {l : List Pm} {i : Nat} (hi : i < l.length) (h : badR l i l[i] = true) : rightL l = false := by
  unfold rightL
  rw [Bool.and_eq_false_iff]
  left
  rw [List.all_eq_false]
  exact ⟨i, List.mem_range.2 hi, by rw [List.getElem?_eq_getElem hi]; simp [h]⟩
theorem rightL_yes {l : List Pm} (h : ∀ i (hi : i < l.length), badR l i l[i] = false) : rightL l = decide (held l ≤ 2000) := by
  unfold rightL
  rw [List.all_eq_true.2, Bool.true_and]
  intro i hi
  have hi := List.mem_range.1 hi
  rw [List.getElem?_eq_getElem hi]
  simpa using h i hi
theorem InR.takeK {w : World} {A : Option Addr} {c : Nat} {l : List Pm} (h : InR w A c l) (k : Nat) : InR w A c (l.take k) := by
  refine ⟨fun i hi => ?_, fun p hp => h.inp p (List.mem_of_mem_take hp), h.nil, ?_, ?_⟩
  · have hi' : i < l.length := by rw [List.length_take] at hi; omega
    obtain ⟨ad, e, hl, hc⟩ := h.cells i hi'
    refine ⟨ad, e, hl, fun j hj => ?_⟩
    rw [hc j hj, List.getElem_take]
  · rw [List.length_take]; have := h.cap; omega
  · rw [List.length_take]; have := h.len; omega
set_option maxHeartbeats 8000000 in
theorem right_calls' (w : World) (A : Option Addr) (c : Nat) (l : List Pm) (h : InR w A c l) (hm : l.length ≤ 1000) (hx : held l ≤ 1000000000) :
    Calls Try.prog 40 #[.slice A l.length c] w fun e w' => e = .returned (.bool (rightL l)) ∧ Below w.heap.size w w' := by
  have H := hid h
  clear h
  go_enter Try.func40, Try.ntmps40
  go_wp2_with fail
  go_loopw [3] (fun v3 wr => ∃ i : Nat, i ≤ l.length ∧ v3 = .int .i64 i ∧ Hid (∀ j (hj : j < l.length), j < i → badR l j l[j] = false) ∧ Hid (Below w.heap.size w wr)) (fun v3 _ => l.length - numV v3)
  case atStart => exact ⟨0, Nat.zero_le _, rfl, hid (fun j hj h => absurd h (Nat.not_lt_zero _)), hid (Below.refl _ _)⟩
  case round =>
    obtain ⟨i, hil, rfl, HJ, HW⟩ := hrel
    have hz := HW.out.size
    by_cases hlt : i < l.length
    · obtain ⟨p, hp⟩ : ∃ p, l[i] = p := ⟨_, rfl⟩
      have HIr := hid (H.out.below HW.out)
      obtain ⟨ad, rfl, hbl, k0, k1, k2, k3, k4, k5, k6⟩ := HIr.out.at i hlt
      rw [hp] at k0 k1 k2 k3 k4 k5 k6
      have hlen := HIr.out.len
      have hcap := HIr.out.cap
      have hpi : Inp wr p := by rw [← hp]; exact HIr.out.inp _ (List.getElem_mem hlt)
      have hpl := hpi.l
      have hic : i ≤ c := by omega
      have hps := hpi.s
      obtain ⟨w1, hw1⟩ : ∃ w1, w1 = wr.alloc (.cells #[.int .u32 p.t, .int .u16 p.s, .int .u16 p.q, .bool p.b, .bool p.e, .bool p.u, .slice p.A p.x.length p.c] 40) := ⟨_, rfl⟩
      have hb1 : Below wr.heap.size wr w1 := by rw [hw1]; exact below_alloc (Below.refl _ _) _
      have hbx : Box w1 wr.heap.size p := by rw [hw1]; exact Box.new wr p
      have hz1 : w1.heap.size = wr.heap.size + 1 := by rw [hw1]; simp
      have HI1 := hid (HIr.out.below hb1)
      have hS : ∀ X, Below w1.heap.size w1 X → Below w1.heap.size w1 X ∧ X.cell? ⟨wr.heap.size, 0, none⟩ = some (.int .u32 p.t) ∧ X.cell? ⟨wr.heap.size, 1, none⟩ = some (.int .u16 p.s) ∧ X.cell? ⟨wr.heap.size, 2, none⟩ = some (.int .u16 p.q) ∧ X.cell? ⟨wr.heap.size, 3, none⟩ = some (.bool p.b) ∧ X.cell? ⟨wr.heap.size, 4, none⟩ = some (.bool p.e) ∧ X.cell? ⟨wr.heap.size, 5, none⟩ = some (.bool p.u) ∧ X.cell? ⟨wr.heap.size, 6, none⟩ = some (.slice p.A p.x.length p.c) := fun X hX => by
        obtain ⟨a0, a1, a2, a3, a4, a5, a6, _⟩ := hbx.below hX
        exact ⟨hX, a0, a1, a2, a3, a4, a5, a6⟩
      have hlt2 : (l.take i).length = i := by rw [List.length_take, Nat.min_eq_left hil]
      have h76 : ∀ X, Below w1.heap.size w1 X → Calls Try.prog 76 #[.slice (some ad) i c, .int .u32 p.t] X fun e w' => e = .returned (.bool (look (l.take i) p.t).isSome) ∧ Below X.heap.size X w' ∧ Below w1.heap.size w1 w' := fun X hX => by
        have := rhas_calls X (some ad) c (l.take i) p.t ((HI1.out.below hX).takeK i)
        rw [hlt2] at this
        exact this.mono fun e w' ⟨a, b⟩ => ⟨a, b, below_step hX b⟩
      obtain ⟨P, hP⟩ : ∃ P, P = rpart l p := ⟨_, rfl⟩
      have hPl := rpart_len (r := l) (p := p)
      rw [← hP] at hPl
      have h87 : ∀ X, Below w1.heap.size w1 X → Calls Try.prog 87 #[.slice (some ad) l.length c, .agg #[.int .u32 p.t, .int .u16 p.s, .int .u16 p.q, .bool p.b, .bool p.e, .bool p.u, .slice p.A p.x.length p.c]] X fun e w' => ∃ A' c', e = .returned (.slice A' P.length c') ∧ Row w' X.heap.size A' c' P ∧ Below w1.heap.size w1 w' := fun X hX => by
        have := rpart_calls X (some ad) c l p (HI1.out.below hX) hpi.u (by omega)
        rw [← hP] at this
        exact this.mono fun e w' ⟨A', c', a, b, d⟩ => ⟨A', c', a, b, below_step hX d⟩
      have HP := hid hp
      have HS := hid hS
      have H76 := hid h76
      have H87 := hid h87
      have HB1 := hid (below_step HW.out hb1)
      have HW1 := hid hw1
      have HPP := hid hP
      have HBX := hid hbx
      have HYES : Hid (badR l i p = false → ∀ j (hj : j < l.length), j < i + 1 → badR l j l[j] = false) := hid (fun hb j hj hji => by
        rcases Nat.lt_or_ge j i with h' | h'
        · exact HJ.out j hj h'
        · obtain rfl : j = i := by omega
          rw [HP.out]
          exact hb)
      have HNO : Hid (badR l i p = true → rightL l = false) := hid (fun hb => rightL_no hlt (by rw [HP.out]; exact hb))
      clear hp hpi hb1 hbx hw1 hS hlt2 h76 h87 hP
      obtain ⟨bad, hbad⟩ : ∃ bad, badR l i p = bad := ⟨_, rfl⟩
      rw [hbad] at HYES HNO
      go_upto_region 5 with fail
      rw [← HW1.out]
      clear k0 k1 k2 k3 k4 k5 k6
      go_cut [43] (fun v43 wx => v43 = .bool bad ∧ Hid (Below w1.heap.size w1 wx))
      case first =>
        have KEEP : True := trivial
        obtain ⟨_, s0, s1, s2, s3, s4, s5, s6⟩ := HS.out w1 (Below.refl _ _)
        have hbad2 := hbad
        unfold badR rightP at hbad2
        have HBAD := hid hbad2
        clear hbad hbad2
        by_cases d1 : (p.x.length : Int) < 1
        · obtain rfl : bad = true := by rw [← HBAD.out, decide_eq_false (show ¬ 1 ≤ p.x.length by omega)]; rfl
          go_quiet (fail)
          go_wp2
          go_meet
          case rel => exact ⟨rfl, hid ((Below.refl _ _).drewN' _)⟩
        · by_cases d2 : (64 : Int) < (p.x.length : Int)
          · obtain rfl : bad = true := by rw [← HBAD.out]; simp; left; omega
            go_quiet (fail)
            go_wp2
            go_meet
            case rel => exact ⟨rfl, hid ((Below.refl _ _).drewN' _)⟩
          · by_cases d3 : (7 : Int) < p.s
            · obtain rfl : bad = true := by rw [← HBAD.out]; simp; left; omega
              go_quiet (fail)
              go_wp2
              go_meet
              case rel => exact ⟨rfl, hid ((Below.refl _ _).drewN' _)⟩
            · have hright : (decide (1 ≤ p.x.length) && decide (p.x.length ≤ 64) && decide (p.s < 8)) = true := by simp; omega
              have hb3 := HBAD.out
              rw [hright] at hb3
              simp only [Bool.not_true, Bool.false_or] at hb3
              clear hright HBAD
              cases hlk : (look (l.take i) p.t).isSome with
              | true =>
                rw [hlk] at hb3
                simp only [Bool.true_or] at hb3
                subst hb3
                rw [hlk] at H76
                clear hlk
                first
                  | (go_region_with (go_at_call 76; refine (H76.out _ (by repeat (first | assumption | exact Below.refl _ _ | refine Below.drew ?_ | refine below_alloc ?_ _))).mono ?_; rintro e w5 ⟨rfl, hx5, hb5⟩))
                  | fail
                all_goals
                  have HB5 := hid hb5
                  clear hb5 hx5
                  go_wp2
                  go_meet
                  case rel => exact ⟨rfl, hid (by have := HB5.out; repeat (first | assumption | exact Below.refl _ _ | refine Below.drew ?_ | refine below_alloc ?_ _))⟩
              | false =>
                rw [hlk] at hb3
                simp only [Bool.false_or] at hb3
                rw [← HPP.out] at hb3
                rw [hlk] at H76
                have HB3' := hid hb3
                clear hlk hb3
                go_region_held3 (fun X => Below w1.heap.size w1 X ∧ X.cell? ⟨wr.heap.size, 0, none⟩ = some (.int .u32 p.t) ∧ X.cell? ⟨wr.heap.size, 1, none⟩ = some (.int .u16 p.s) ∧ X.cell? ⟨wr.heap.size, 2, none⟩ = some (.int .u16 p.q) ∧ X.cell? ⟨wr.heap.size, 3, none⟩ = some (.bool p.b) ∧ X.cell? ⟨wr.heap.size, 4, none⟩ = some (.bool p.e) ∧ X.cell? ⟨wr.heap.size, 5, none⟩ = some (.bool p.u) ∧ X.cell? ⟨wr.heap.size, 6, none⟩ = some (.slice p.A p.x.length p.c)) ((refine HS.out _ ?_; repeat (first | assumption | exact Below.refl _ _ | refine Below.drew ?_ | refine below_alloc ?_ _))) (first
                | (go_at_call 76; refine (H76.out _ (by repeat (first | assumption | exact Below.refl _ _ | refine Below.drew ?_ | refine below_alloc ?_ _))).mono ?_; rintro e w5 ⟨rfl, hx5, hb5⟩)
                | (go_at_call 87; refine (H87.out _ (by repeat (first | assumption | exact Below.refl _ _ | refine Below.drew ?_ | refine below_alloc ?_ _))).mono ?_; rintro e w6 ⟨A6, c6, rfl, hr6, hb6⟩)
                | (go_at_call 86; refine (rclosed_calls _ _ A6 c6 P hr6 hPl.1 (by omega)).mono ?_; rintro e w' ⟨rfl, rfl⟩))
                all_goals
                  have HB6 := hid hb6
                  clear hb6 hb5 hx5 hr6
                  go_wp2
                  go_meet
                  case rel => exact ⟨by rw [HB3'.out], hid (by have := HB6.out; repeat (first | assumption | exact Below.refl _ _ | refine Below.drew ?_ | refine below_alloc ?_ _))⟩
      case rest =>
        obtain ⟨rfl, HWC⟩ := hcut
        have hbw := (HB1.out.trans (HWC.out.mono HB1.out.size))
        have HBW := hid hbw
        clear hbw
        cases bad with
        | true =>
          have e := HNO.out rfl
          have HE := hid e
          clear e
          go_wp2
          go_ret
          rw [HE.out]
          exact ⟨rfl, HBW.out⟩
        | false =>
          have HYY := hid (HYES.out rfl)
          go_wp2
          go_roundw
          case rel => exact ⟨i + 1, by omega, by simp, HYY, HBW⟩
          case measure => simp [numV]; omega
    · obtain rfl : i = l.length := by omega
      have hr := rheld_calls wr A c l (H.out.below HW.out) hx
      have hy := rightL_yes (fun j hj => HJ.out j hj hj)
      have HR := hid hr
      have HY := hid hy
      clear hr hy
      go_wp2_with (go_at_call 81; go_must (refine HR.out.mono ?_; rintro e w' ⟨rfl, rfl⟩))
      go_ret
      rw [HY.out]
      have e : decide (((held l : Nat) : Int) ≤ 2000) = decide (held l ≤ 2000) := by rw [Bool.eq_iff_iff, decide_eq_true_eq, decide_eq_true_eq]; omega
      refine ⟨?_, HW.out⟩
      first | (rw [← e]; rfl) | rw [← e] | skip
end Go.Proofs.Ythoammfpjheodaa.Rz
