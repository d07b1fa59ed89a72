import Derived.Test.YthoammfpjheodaaRaZ
namespace Go.Proofs.Ythoammfpjheodaa.Rz
open Go.ChangeShapes Go.WideShapes Go.ChangeAt Go.RowKit Go.Shelf MK Go.Joins
open Base (hid cell_new1 cell_old1 froz_new1 froz_old1)
attribute [local go_sem] Oper.semAt_some
set_option linter.unusedVariables false
set_option linter.unusedSimpArgs false
set_option maxRecDepth 100000
/-! ReasmPlays -/
theorem RR.of {w w' : World} {bp mb : Nat} {A : Option Addr} {c : Nat} {l : List Pm} (h : InR w A c l) (hb : Below w.heap.size w w') (h1 : w.heap.size ≤ bp) (h2 : w.heap.size ≤ mb) : RR w' bp mb A c l := by
  refine ⟨h.below hb, fun h0 ad e => ?_, fun p hp h0 ad e => ?_⟩
  · obtain ⟨ad', e', hl, _⟩ := h.cells 0 h0
    rw [e] at e'
    cases e'
    omega
  · have := ((h.inp p hp).txt).lt h0 ad e
    omega
theorem RR.nil (w : World) (bp mb : Nat) : RR w bp mb none 0 [] :=
  ⟨⟨fun i h => absurd h (Nat.not_lt_zero _), (fun p hp => by cases hp), fun _ => rfl, Nat.le_refl _, (by simp)⟩, fun h => absurd h (Nat.lt_irrefl _), (fun p hp => by cases hp)⟩
/-- Copies whose texts may be written. -/
def Wrs (B hi : Nat) (b : Nat) (w : World) (l : List Pm) : Prop := ∀ q ∈ l, ∃ g, q.A = some ⟨g, 0, none⟩ ∧ B ≤ g ∧ g < hi ∧ g ≠ b ∧ 1 ≤ q.x.length ∧ Wr w g q.x.length
theorem Wrs.set {B hi b : Nat} {w : World} {l : List Pm} (h : Wrs B hi b w l) (hh : hi ≤ w.heap.size) (g k : Nat) (z : Int) : Wrs B hi b (w.setCell ⟨g, k, none⟩ (.int .u8 z)) l := fun q hq => by
  obtain ⟨g', e, h1, h2, h3, h4, h5⟩ := h q hq
  refine ⟨g', e, h1, h2, h3, h4, ?_⟩
  by_cases e2 : g' = g
  · subst e2
    exact h5.set k z
  · exact h5.grown (grown_setAt w g k _) (by omega) (fun e => e2 (Option.some.inj e))
theorem fresh_wrs {B : Nat} {w : World} {m : List Pm} {ts : List Int} {l : List Pm} {gb c : Nat} (h : Fresh B w m ts l) (hr : Row w B (some ⟨gb, 0, none⟩) c l) (hx : ∀ p ∈ m, 1 ≤ p.x.length) : Wrs B w.heap.size gb w l := fun q hq => by
  obtain ⟨i, hi, rfl⟩ := List.getElem_of_mem hq
  obtain ⟨p, hp, hc⟩ := h.at_ i hi (by have := h.len; omega)
  have hx1 : 1 ≤ l[i].x.length := by rw [hc.eq]; exact hx p (look_mem hp).1
  rcases own_slot hc.own with ⟨_, _, h0⟩ | ⟨g, hg, h1, h2⟩
  · rw [h0] at hx1; simp at hx1
  · have ho := hc.own
    rw [hg] at ho
    refine ⟨g, hg, h1, h2, ?_, hx1, Wr.of ho⟩
    rcases own_apart ho hr (by decide) with h | h
    · simp [Value.ownBlock] at h
    · intro e
      exact h (by simp [Value.ownBlock, e])
set_option maxHeartbeats 4000000 in
theorem plays_calls (w : World) (A : Option Addr) (c : Nat) (l : List Pm) (f : Int) (h : InR w A c l) :
    Calls Try.prog 8 #[.slice A l.length c, .int .u32 f] w fun e w' => e = .returned (.bool true) ∧ Below w.heap.size w w' := by
  have H := hid h
  clear h
  go_enter Try.func8, Try.ntmps8
  go_wp2_with (go_at_call 11; go_must (refine (alive_calls w).mono ?_; rintro e w1 ⟨rfl, hb⟩; have HB1 := hid hb; clear hb))
  have hlc := long_calls w1 A c l (H.out.below HB1.out)
  cases hL : longP l with
  | true =>
    rw [hL] at hlc
    have HLC := hid hlc
    clear hL hlc
    go_wp2_with (go_at_call 33; go_must (refine HLC.out.mono ?_; rintro e w2 ⟨rfl, hb⟩; have HB2 := hid hb; clear hb))
    go_ret
    exact ⟨rfl, HB1.out.trans (HB2.out.mono HB1.out.size)⟩
  | false =>
    have hL1 : l.length ≤ 51 ∧ held l ≤ 4000 := by unfold longP at hL; simp at hL; omega
    have hlx : ∀ p ∈ l, p.x.length ≤ 4000 := fun p hp => by
      obtain ⟨i, hi, rfl⟩ := List.getElem_of_mem hp
      have h1 := held_take_succ l i hi
      have h2 := held_take_le l (i + 1)
      omega
    rw [hL] at hlc
    have HLC := hid hlc
    have HLX := hid hlx
    clear hL hlc hlx
    go_wp2_with (go_at_call 33; go_must (refine HLC.out.mono ?_; rintro e w2 ⟨rfl, hb⟩; have HB2 := hid hb; clear hb))
    have hb02 : Below w.heap.size w w2 := below_step HB1.out HB2.out
    have HB02 := hid hb02
    have hz2 := hb02.size
    clear hb02
    go_wp2_with (go_at_call 13; go_must (refine (new_calls _).mono ?_; rintro e w3 ⟨bp, mb, rfl, hb, hbp, hmb, hB⟩; have HB3 := hid hb; have HB4 := hid hB; clear hb hB))
    have hz3 := HB4.out.size
    have hb03 : Below w.heap.size w w3 := below_step HB02.out HB4.out
    have hpc := play_calls w3 bp mb 0 [] none 0 [] A c l HB3.out rfl (RR.nil _ _ _) (RR.of (H.out.below HB02.out) HB4.out hbp hmb) (by omega) (by simp; omega) (Nat.zero_le _) (fun p hp => by cases hp) HLX.out
    have HPC := hid hpc
    have HB03 := hid hb03
    have hbpl := HB3.out.lt
    clear hpc hb03
    go_wp2_with (go_at_call 34; go_must (refine HPC.out.mono ?_; rintro e w4 ⟨hm4, m, n, A4, c4, r, rfl, hB4, hn4, hm4', hs4, hr4, hh4, hx4⟩; have HM4 := hid hm4; have HBN := hid hB4; have HS := hid hs4; have HRR := hid hr4; have HX := hid hx4; clear hm4 hB4 hs4 hr4 hx4))
    have hb04 : Below w.heap.size w w4 := Mv.below HB03.out HM4.out (by omega) (by omega) (by omega)
    have hpp := pieces_calls w4 bp mb n m f HBN.out (by omega)
    have HPP := hid hpp
    have HB04 := hid hb04
    have hz4 := hb04.size
    clear hpp hb04
    go_wp2_with (go_at_call 35; go_must (refine HPP.out.mono ?_; rintro e w5 ⟨A5, c5, l5, rfl, hl5, hr5, hf5, hb5⟩; have HL5 := hid hl5; have HR5 := hid hr5; have HF5 := hid hf5; have HB5 := hid hb5; clear hl5 hr5 hf5 hb5))
    have hz5 := HB5.out.size
    have hll5 : l5.length ≤ 900 := by have := HL5.out; omega
    have HW5 : Hid (∀ g0, A5 = some ⟨g0, 0, none⟩ → Wrs w4.heap.size w5.heap.size g0 w5 l5) := hid fun g0 e => by
      have hr := HR5.out
      rw [e] at hr
      exact fresh_wrs HF5.out hr (fun p hp => (HX.out p hp).1)
    go_loopw [28] (fun v28 wr => ∃ i : Nat, v28 = .int .i64 i ∧ i ≤ l5.length ∧ Hid (Row wr w4.heap.size A5 c5 l5) ∧ Hid (∀ g0, A5 = some ⟨g0, 0, none⟩ → Wrs w4.heap.size w5.heap.size g0 wr l5) ∧ Hid (Below w4.heap.size w4 wr) ∧ w5.heap.size ≤ wr.heap.size) (fun v28 _ => l5.length - numV v28)
    case atStart => exact ⟨0, rfl, Nat.zero_le _, HR5, HW5, HB5, Nat.le_refl _⟩
    case round =>
      obtain ⟨i, rfl, hil, HR, HW, HB, hzr⟩ := hrel
      by_cases hlt : i < l5.length
      · obtain ⟨g0, rfl, hg1, hg2, k0, k1, k2, k3, k4, k5, k6⟩ := Row.cells HR.out i hlt
        obtain ⟨q, hq⟩ : ∃ q, l5[i] = q := ⟨_, rfl⟩
        obtain ⟨g, hg, hg3, hg4, hg5, hx1, hwr⟩ := HW.out g0 rfl l5[i] (List.getElem_mem hlt)
        rw [hq] at k0 k1 k2 k3 k4 k5 k6 hg hx1 hwr
        rw [hg] at k6
        obtain ⟨⟨z, hz⟩, hfz⟩ := hwr 0 (by omega)
        have hr2 : ∀ v : Int, Row (wr.setCell ⟨g, 0, none⟩ (.int .u8 v)) w4.heap.size (some ⟨g0, 0, none⟩) c5 l5 := fun v => World.ownsRow.kept HR.out (grown_setAt _ _ _ _) (.inr (by simp [Value.ownBlock]; exact fun e => hg5 e.symm))
        have hb2 : ∀ v : Int, Below w4.heap.size w4 (wr.setCell ⟨g, 0, none⟩ (.int .u8 v)) := fun v => HB.out.grown (grown_setAt _ _ _ _) HB.out.size (fun k e => by have := Option.some.inj e; omega)
        have HR2 := hid hr2
        have HB2' := hid hb2
        clear hq hg hwr hr2 hb2
        go_wp2
        go_roundw
        case rel => exact ⟨i + 1, by simp, by omega, hid (HR2.out _), hid (fun g1 e => by cases e; exact (HW.out _ rfl).set hzr _ _ _), hid (HB2'.out _), by simp [World.setCell]; exact hzr⟩
        case measure => simp [numV]; omega
      · obtain rfl : i = l5.length := by omega
        have hsc := stands_calls wr bp mb n m A4 c4 r f (HBN.out.below HB.out) (HRR.out.inr.below HB.out) HS.out (by omega) hh4 (fun p hp => by have := (HX.out p hp).2; omega)
        have HSC := hid hsc
        clear hsc
        go_wp2_with (go_at_call 36; go_must (refine HSC.out.mono ?_; rintro e w6 ⟨rfl, hb6⟩; have HB6 := hid hb6; clear hb6))
        go_ret
        exact ⟨rfl, below_step HB04.out (below_step (a := w4) HB.out HB6.out)⟩
end Go.Proofs.Ythoammfpjheodaa.Rz
