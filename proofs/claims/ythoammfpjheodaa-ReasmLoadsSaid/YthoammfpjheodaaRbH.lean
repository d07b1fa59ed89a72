import Derived.Test.YthoammfpjheodaaRbG
import Derived.Test.YthoammfpjheodaaRbC
import Derived.Test.YthoammfpjheodaaRbA
namespace Go.Proofs.Ythoammfpjheodaa.Rz
open Go.ChangeShapes Go.WideShapes Go.ChangeAt Go.RowKit Go.Shelf MK Go.Joins
open Base (hid cell_new1 cell_old1 froz_new1 froz_old1)
attribute [local go_sem] Oper.semAt_some
set_option linter.unusedVariables false
set_option linter.unusedSimpArgs false
set_option maxRecDepth 100000
/-! ReasmLoads -/
theorem Bn.mvo {w w' : World} {bp mb n bq mq : Nat} {m : List Pm} (h : Bn w bp mb n m) (hm : Mv w w' bq mq) (h1 : bp ≠ bq ∧ bp ≠ mq ∧ mb ≠ bq ∧ mb ≠ mq) (hx : ∀ p ∈ m, 0 < p.x.length → ∀ ad, p.A = some ad → ad.block ≠ bq ∧ ad.block ≠ mq) : Bn w' bp mb n m := by
  have hlt := h.lt
  have hb : w'.heap[bp]? = w.heap[bp]? := hm.block bp hlt.1 h1.1 h1.2.1
  refine ⟨(World.cell?_of_block (a := ⟨bp, 0, none⟩) hb).trans h.ptr, (World.cell?_of_block (a := ⟨bp, 1, none⟩) hb).trans h.hel, (World.frozen?_of_block (a := ⟨bp, 1, none⟩) hb).trans h.fr, h.map.block (hm.block mb hlt.2 h1.2.2.1 h1.2.2.2), h.nod, fun p hp => ?_, h.far⟩
  have ho := h.ok p hp
  refine ⟨fun i hi => ?_, ho.nil, ho.u, ho.l⟩
  obtain ⟨ad, e, hl, hc⟩ := ho.txt i hi
  obtain ⟨k1, k2⟩ := hx p hp (by omega) ad e
  refine ⟨ad, e, Nat.lt_of_lt_of_le hl hm.size, (World.cell?_of_block (w := w) (a := ad.add i) ?_).trans hc⟩
  rw [add_block]
  exact hm.block _ hl k1 k2
theorem owns_wrs {B : Nat} {w : World} {l L : List Pm} {gb c : Nat} (h : Owns B w l L) (hl : L.length = l.length) (hr : Row w B (some ⟨gb, 0, none⟩) c L) (hx : ∀ p ∈ l, 1 ≤ p.x.length) : Wrs B w.heap.size gb w L := fun q hq => by
  obtain ⟨i, hi, rfl⟩ := List.getElem_of_mem hq
  have hc := h.at_ i hi (by omega)
  have hx1 : 1 ≤ L[i].x.length := by rw [hc.eq]; exact hx l[i] (List.getElem_mem (by omega))
  rcases own_slot hc.own with ⟨_, _, h0⟩ | ⟨g, hg, h1, h2⟩
  · rw [h0] at hx1; simp at hx1
  · have ho := hc.own
    rw [hg] at ho
    refine ⟨g, hg, h1, h2, ?_, hx1, Wr.of ho⟩
    rcases own_apart ho hr (by decide) with h | h
    · simp [Value.ownBlock] at h
    · intro e
      exact h (by simp [Value.ownBlock, e])
theorem Wrs.below {B hi b : Nat} {w w' : World} {l : List Pm} (h : Wrs B hi b w l) (hh : hi ≤ w.heap.size) (hb : Below w.heap.size w w') : Wrs B hi b w' l := fun q hq => by
  obtain ⟨g, e, h1, h2, h3, h4, h5⟩ := h q hq
  exact ⟨g, e, h1, h2, h3, h4, h5.below (by omega) hb⟩
theorem long_no {l : List Pm} (h : longP l = false) : l.length ≤ 51 ∧ held l ≤ 4000 ∧ ∀ p ∈ l, p.x.length ≤ 4000 := by
  have hL1 : l.length ≤ 51 ∧ held l ≤ 4000 := by unfold longP at h; simp at h; omega
  refine ⟨hL1.1, hL1.2, fun p hp => ?_⟩
  obtain ⟨i, hi, rfl⟩ := List.getElem_of_mem hp
  have h1 := held_take_succ l i hi
  have h2 := held_take_le l (i + 1)
  omega
set_option maxHeartbeats 16000000 in
theorem loads_calls (w : World) (A0 : Option Addr) (c0 : Nat) (l0 : List Pm) (A1 : Option Addr) (c1 : Nat) (l1 : List Pm) (A2 : Option Addr) (c2 : Nat) (l2 : List Pm) (h0 : InR w A0 c0 l0) (h1 : InR w A1 c1 l1) (h2 : InR w A2 c2 l2) :
    Calls Try.prog 10 #[.slice A0 l0.length c0, .slice A1 l1.length c1, .slice A2 l2.length c2] w fun e w' => e = .returned (.bool true) ∧ Below w.heap.size w w' := by
  have H0 := hid h0
  have H1 := hid h1
  have H2 := hid h2
  clear h0 h1 h2
  go_enter Try.func10, Try.ntmps10
  go_wp2_with (go_at_call 11; go_must (refine (alive_calls w).mono ?_; rintro e w1 ⟨rfl, hb⟩; have HB1 := hid hb; clear hb))
  have hlc0 := long_calls w1 A0 c0 l0 (H0.out.below HB1.out)
  cases hL0 : longP l0 with
  | true =>
    rw [hL0] at hlc0
    have HLC := hid hlc0
    clear hL0 hlc0
    go_wp2_with (go_at_call 33; go_must (refine HLC.out.mono ?_; rintro e w2 ⟨rfl, hb⟩; have HB2 := hid hb; clear hb))
    go_ret
    exact ⟨rfl, below_step HB1.out HB2.out⟩
  | false =>
    rw [hL0] at hlc0
    have HLC0 := hid hlc0
    have HN0 := hid (long_no hL0)
    clear hL0 hlc0
    go_wp2_with (fail)
    refine HLC0.out.mono ?_
    rintro e w2 ⟨rfl, hb⟩
    have HB2 : Hid (Below w.heap.size w w2) := hid (below_step HB1.out hb)
    clear hb
    have hlc1 := long_calls w2 A1 c1 l1 (H1.out.below HB2.out)
    cases hL1 : longP l1 with
    | true =>
      rw [hL1] at hlc1
      have HLC := hid hlc1
      clear hL1 hlc1
      go_wp2_with (go_at_call 33; go_must (refine HLC.out.mono ?_; rintro e w3 ⟨rfl, hb⟩; have HB3 := hid hb; clear hb))
      go_ret
      exact ⟨rfl, below_step HB2.out HB3.out⟩
    | false =>
      rw [hL1] at hlc1
      have HLC1 := hid hlc1
      have HN1 := hid (long_no hL1)
      clear hL1 hlc1
      go_wp2_with (fail)
      refine HLC1.out.mono ?_
      rintro e w3 ⟨rfl, hb⟩
      have HB3 : Hid (Below w.heap.size w w3) := hid (below_step HB2.out hb)
      clear hb
      have hlc2 := long_calls w3 A2 c2 l2 (H2.out.below HB3.out)
      cases hL2 : longP l2 with
      | true =>
        rw [hL2] at hlc2
        have HLC := hid hlc2
        clear hL2 hlc2
        go_wp2_with (go_at_call 33; go_must (refine HLC.out.mono ?_; rintro e w4 ⟨rfl, hb⟩; have HB4 := hid hb; clear hb))
        go_ret
        exact ⟨rfl, below_step HB3.out HB4.out⟩
      | false =>
        rw [hL2] at hlc2
        have HLC2 := hid hlc2
        have HN2 := hid (long_no hL2)
        clear hL2 hlc2
        go_wp2_with (fail)
        refine HLC2.out.mono ?_
        rintro e w4 ⟨rfl, hb⟩
        have HB4 : Hid (Below w.heap.size w w4) := hid (below_step HB3.out hb)
        clear hb
        have hn0 := HN0.out.1
        have hn1 := HN1.out.1
        have hn2 := HN2.out.1
        have hoc := own_calls w4 A0 c0 l0 (H0.out.below HB4.out) (by omega) (fun p hp => by have := HN0.out.2.2 p hp; omega)
        have HOC := hid hoc
        clear hoc
        go_wp2_with (go_at_call 38; go_must (refine HOC.out.mono ?_; rintro e w5 ⟨A5, c5, L, rfl, hL5, hr5, ho5, hb5⟩; have HL5 := hid hL5; have HR5 := hid hr5; have HO5 := hid ho5; have HB5 := hid hb5; clear hL5 hr5 ho5 hb5))
        have HB05 : Hid (Below w.heap.size w w5) := hid (below_step HB4.out HB5.out)
        have hz5 := HB5.out.size
        have HSIM : Hid (Sim L l0) := hid (owns_sim HO5.out HL5.out)
        have hll : L.length ≤ 51 := by rw [HL5.out]; exact hn0
        have hLin : InR w5 A5 c5 L := InR.of_row HR5.out (fun q hq => by
          obtain ⟨i, hi, rfl⟩ := List.getElem_of_mem hq
          have hi' : i < l0.length := by rw [← HL5.out]; exact hi
          exact (HO5.out.at_ i hi hi').inp ((H0.out.inp _ (List.getElem_mem hi')).good)) (by omega)
        have hLx : ∀ q ∈ L, q.x.length ≤ 1000000 := fun q hq => by
          obtain ⟨p, hp, e⟩ := HSIM.out.mem hq
          obtain ⟨_, _, _, _, _, _, e7⟩ := core_eq e
          have := HN0.out.2.2 p hp
          rw [e7] at this
          omega
        have hlo := load_calls w5 A5 c5 L hLin (by omega) hLx
        have HLO := hid hlo
        have hlr : loadP L = rightL l0 := by rw [load_sim HSIM.out, load_right]
        have HLR := hid hlr
        clear hlo hLin hLx hlr
        have HR40 : Hid (∀ X, Below w.heap.size w X → Calls Try.prog 40 #[.slice A0 l0.length c0] X fun e w' => e = .returned (.bool (rightL l0)) ∧ Below X.heap.size X w') := hid fun X hX => right_calls' X A0 c0 l0 (H0.out.below hX) (by omega) (by have := HN0.out.2.1; omega)
        cases hR : rightL l0 with
        | false =>
          rw [hR] at HLR HR40
          have h30 := fun X => is_calls 2 2 X
          rw [errV_ne 2 (by decide)] at h30
          have H30 := hid h30
          clear hR h30
          go_wp2_with (go_at_call 39; go_must (refine HLO.out.mono ?_; rintro e w6 ⟨hb6, hlp⟩; obtain ⟨_, rfl⟩ : loadP L = false ∧ e = .returned (.tuple #[.pointer none, .iface 81 (.int .i64 2)]) := hlp.resolve_right (fun h => by rw [HLR.out] at h; cases h.1); have HB6 := hid hb6; clear hb6 hlp))
          go_wp2_with (go_at_call 40; go_must (refine (HR40.out _ (below_step HB05.out HB6.out)).mono ?_; rintro e w7 ⟨rfl, hb7⟩; have HB7 := hid hb7; clear hb7))
          go_wp2_with (go_at_call 30; go_must (refine (H30.out _).mono ?_; rintro e w' ⟨rfl, rfl⟩))
          go_ret
          exact ⟨rfl, below_step HB05.out (below_step HB6.out HB7.out)⟩
        | true =>
          rw [hR] at HLR HR40
          have HRI := hid (rightL_iff.1 hR)
          clear hR
          go_wp2_with (go_at_call 39; go_must (refine HLO.out.mono ?_; rintro e w6 ⟨hb6, hlp⟩; obtain ⟨_, bp, mb, n, m, rfl, hB6, hn6, hs6, hbp, hmb, hh6, hx6, hf6⟩ := hlp.resolve_left (fun h => by rw [HLR.out] at h; cases h.1); have HB6 := hid hb6; have HBN6 := hid hB6; have HS6 := hid hs6; have HX6 := hid hx6; have HF6 := hid hf6; clear hb6 hlp hB6 hs6 hx6 hf6))
          have HB06 : Hid (Below w.heap.size w w6) := hid (below_step HB05.out HB6.out)
          go_wp2_with (go_at_call 40; go_must (refine (HR40.out _ HB06.out).mono ?_; rintro e w7 ⟨rfl, hb7⟩; have HB7 := hid hb7; clear hb7))
          have hz6 := HB6.out.size
          have hz7 := HB7.out.size
          have hbl6 := HBN6.out.lt
          have HS60 : Hid (Sim m l0) := hid (HS6.out.trans HSIM.out)
          have hml : m.length ≤ 51 := by rw [HS60.out.len]; exact hn0
          have hx1 : ∀ p ∈ l0, 1 ≤ p.x.length := fun p hp => by
            obtain ⟨i, hi, rfl⟩ := List.getElem_of_mem hp
            have := HRI.out.1 i hi
            unfold badR rightP at this
            simp only [Bool.or_eq_false_iff, Bool.not_eq_false', Bool.and_eq_true, decide_eq_true_eq] at this
            exact this.1.1.1
          have HW5 : Hid (∀ g0, A5 = some ⟨g0, 0, none⟩ → Wrs w4.heap.size w5.heap.size g0 w7 L) := hid fun g0 e => by
            have hr := HR5.out
            rw [e] at hr
            exact ((owns_wrs HO5.out HL5.out hr hx1).below (Nat.le_refl _) HB6.out).below hz6 HB7.out
          have HR7 : Hid (Row w7 w4.heap.size A5 c5 L) := hid (Base.ownsRow_later (Base.ownsRow_later HR5.out HB6.out) HB7.out)
          have HBN7 := hid (HBN6.out.below HB7.out)
          have HB47 : Hid (Below w4.heap.size w4 w7) := hid (below_step HB5.out (below_step HB6.out HB7.out))
          clear hx1
          go_loopw [48] (fun v48 wr => ∃ i : Nat, v48 = .int .i64 i ∧ i ≤ L.length ∧ Hid (Row wr w4.heap.size A5 c5 L) ∧ Hid (∀ g0, A5 = some ⟨g0, 0, none⟩ → Wrs w4.heap.size w5.heap.size g0 wr L) ∧ Hid (Below w4.heap.size w4 wr) ∧ Hid (Bn wr bp mb n m) ∧ w7.heap.size ≤ wr.heap.size) (fun v48 _ => L.length - numV v48)
          case atStart => exact ⟨0, rfl, Nat.zero_le _, HR7, HW5, HB47, HBN7, Nat.le_refl _⟩
          case round =>
            obtain ⟨i, rfl, hil, HR, HW, HB, HBN, hzr⟩ := hrel
            by_cases hlt : i < L.length
            · obtain ⟨g0, rfl, hg1, hg2, k0, k1, k2, k3, k4, k5, k6⟩ := Row.cells HR.out i hlt
              obtain ⟨q, hq⟩ : ∃ q, L[i] = q := ⟨_, rfl⟩
              obtain ⟨g, hg, hg3, hg4, hg5, hx1, hwr⟩ := HW.out g0 rfl L[i] (List.getElem_mem hlt)
              rw [hq] at k0 k1 k2 k3 k4 k5 k6 hg hx1 hwr
              rw [hg] at k6
              obtain ⟨⟨z, hz⟩, hfz⟩ := hwr 0 (by omega)
              have hr2 : ∀ v : Int, Row (wr.setCell ⟨g, 0, none⟩ (.int .u8 v)) w4.heap.size (some ⟨g0, 0, none⟩) c5 L := fun v => World.ownsRow.kept HR.out (grown_setAt _ _ _ _) (.inr (by simp [Value.ownBlock]; exact fun e => hg5 e.symm))
              have hb2 : ∀ v : Int, Below w4.heap.size w4 (wr.setCell ⟨g, 0, none⟩ (.int .u8 v)) := fun v => HB.out.grown (grown_setAt _ _ _ _) HB.out.size (fun k e => by have := Option.some.inj e; omega)
              have hbn2 : ∀ v : Int, Bn (wr.setCell ⟨g, 0, none⟩ (.int .u8 v)) bp mb n m := fun v => HBN.out.row (grown_setAt wr g 0 _) (fun e => by have := Option.some.inj e; omega) (fun e => by have := Option.some.inj e; omega) (fun p hp => by
                have ho := HBN.out.ok p hp
                exact ⟨ho.txt.row (grown_setAt wr g 0 _) (fun _ ad e e2 => by have := HF6.out p hp ad e; have := Option.some.inj e2; omega), ho.nil, ho.u, ho.l⟩)
              have HR2 := hid hr2
              have HB2' := hid hb2
              have HBN2 := hid hbn2
              clear hq hg hwr hr2 hb2 hbn2
              go_wp2
              go_roundw
              case rel => exact ⟨i + 1, by simp, by omega, hid (HR2.out _), hid (fun g1 e => by cases e; exact (HW.out _ rfl).set (by omega) _ _ _), hid (HB2'.out _), hid (HBN2.out _), by simp [World.setCell]; exact hzr⟩
              case measure => simp [numV]; omega
            · obtain rfl : i = L.length := by omega
              have hb0r : Below w.heap.size w wr := HB4.out.trans (HB.out.mono HB4.out.size)
              have HB0r := hid hb0r
              have hst := stands_calls wr bp mb n m A0 c0 l0 0 HBN.out (H0.out.below hb0r) HS60.out (by omega) hh6 (fun p hp => by have := (HX6.out p hp).2; omega)
              have HST := hid hst
              clear hst hb0r
              go_wp2_with (fail)
              refine HST.out.mono ?_
              rintro e w8 ⟨rfl, hb8⟩
              have HB8 := hid hb8
              have hz8 := hb8.size
              have HBN8 := hid (HBN.out.below hb8)
              have HB08 : Hid (Below w.heap.size w w8) := hid (below_step HB0r.out hb8)
              clear hb8
              go_wp2_with (fail)
              refine (copyB_calls w8 bp mb n m HBN8.out (fun p hp => (HX6.out p hp).1)).mono ?_
              rintro e w9 ⟨bq, mq, rfl, hB9, hbq, hmq, hbm, hb9⟩
              have HBC9 := hid hB9
              have HB9 := hid hb9
              have HB09 : Hid (Below w.heap.size w w9) := hid (below_step HB08.out hb9)
              have HBN9 := hid (HBN8.out.below hb9)
              have hbl8 := HBN8.out.lt
              have hzw8 := HB08.out.size
              have hz9 := hb9.size
              clear hB9 hb9
              go_wp2_with (fail)
              refine (play_calls w9 bq mq n m A0 c0 l0 A2 c2 l2 HBC9.out HS60.out (RR.of H0.out HB09.out (by omega) (by omega)) (RR.of H2.out HB09.out (by omega) (by omega)) (by omega) (by omega) hh6 HX6.out HN2.out.2.2).mono ?_
              rintro e w10 ⟨hm10, m2, n2, A10, c10, r2, rfl, hB10, hn10, hml10, hs10, hr10, hh10, hx10⟩
              have HM10 := hid hm10
              have HBC10 := hid hB10
              have HS10 := hid hs10
              have HR10 := hid hr10
              have HX10 := hid hx10
              have hbn10 : Bn w10 bp mb n m := HBN9.out.mvo hm10 (by omega) (fun p hp h0 ad e => by
                have := ((HBN8.out.ok p hp).txt).lt h0 ad e
                omega)
              have HBN10 := hid hbn10
              have hb010 : Below w.heap.size w w10 := Mv.below HB09.out hm10 (by omega) (by omega) HB09.out.size
              have HB010 := hid hb010
              have hz10 := hm10.size
              clear hm10 hB10 hs10 hr10 hx10 hbn10 hb010
              go_wp2_with (fail)
              refine (stands_calls w10 bq mq n2 m2 A10 c10 r2 7 HBC10.out HR10.out.inr HS10.out (by omega) hh10 (fun p hp => by have := (HX10.out p hp).2; omega)).mono ?_
              rintro e w11 ⟨rfl, hb11⟩
              have HB11 := hid hb11
              have HB011 : Hid (Below w.heap.size w w11) := hid (below_step HB010.out hb11)
              have HBN11 := hid (HBN10.out.below hb11)
              have hz11 := hb11.size
              clear hb11
              go_wp2_with (fail)
              refine (stands_calls w11 bp mb n m A0 c0 l0 7 HBN11.out (H0.out.below HB011.out) HS60.out (by omega) hh6 (fun p hp => by have := (HX6.out p hp).2; omega)).mono ?_
              rintro e w12 ⟨rfl, hb12⟩
              have HB012 : Hid (Below w.heap.size w w12) := hid (below_step HB011.out hb12)
              have HBN12 := hid (HBN11.out.below hb12)
              have hz12 := hb12.size
              have hzw5 := HB05.out.size
              clear hb12
              go_wp2_with (fail)
              refine (play_calls w12 bp mb n m A0 c0 l0 A1 c1 l1 HBN12.out HS60.out (RR.of H0.out HB012.out (by omega) (by omega)) (RR.of H1.out HB012.out (by omega) (by omega)) (by omega) (by omega) hh6 HX6.out HN1.out.2.2).mono ?_
              rintro e w13 ⟨hm13, m3, n3, A13, c13, r3, rfl, hB13, hn13, hml13, hs13, hr13, hh13, hx13⟩
              have HBN13 := hid hB13
              have HS13 := hid hs13
              have HR13 := hid hr13
              have HX13 := hid hx13
              have HB013 : Hid (Below w.heap.size w w13) := hid (Mv.below HB012.out hm13 (by omega) (by omega) HB012.out.size)
              clear hm13 hB13 hs13 hr13 hx13
              go_wp2_with (fail)
              refine (none_put w13 p0).mono ?_
              rintro e w14 ⟨rfl, hb14⟩
              have HB14 := hid hb14
              clear hb14
              go_wp2_with (fail)
              have hb15 : Below w13.heap.size w13 (w14.alloc (.cells #[.int .i64 0, .bool false, .slice none 0 0, .int .u16 0] 45)) := below_alloc HB14.out _
              have HB15 := hid hb15
              have h30 := fun X => is_calls 4 4 X
              rw [errV_ne 4 (by decide)] at h30
              have H30 := hid h30
              clear hb15 h30
              refine (stands_calls _ bp mb n3 m3 A13 c13 r3 7 (HBN13.out.below HB15.out) (HR13.out.inr.below HB15.out) HS13.out (by omega) hh13 (fun p hp => by have := (HX13.out p hp).2; omega)).mono ?_
              rintro e w16 ⟨rfl, hb16⟩
              have HB16 : Hid (Below w.heap.size w w16) := hid (below_step (below_step HB013.out HB15.out) hb16)
              clear hb16
              go_wp2_with (first
                | (go_at_call 30; go_must (refine (H30.out _).mono ?_; rintro e w' ⟨rfl, rfl⟩))
                | (go_at_call 17; go_must (refine (none_held _).mono ?_; rintro e w' ⟨rfl, rfl⟩))
                | (go_at_call 16; go_must (refine (none_len _).mono ?_; rintro e w' ⟨rfl, rfl⟩))
                | (go_at_call 35; go_must (refine (none_pieces _ 0).mono ?_; rintro e w' ⟨rfl, rfl⟩))
                | (go_at_call 37; go_must (refine (none_has _ 0).mono ?_; rintro e w' ⟨rfl, rfl⟩))
                | (go_at_call 41; go_must (refine (none_copy _).mono ?_; rintro e w' ⟨rfl, rfl⟩)))
              go_ret
              exact ⟨rfl, HB16.out⟩
end Go.Proofs.Ythoammfpjheodaa.Rz
