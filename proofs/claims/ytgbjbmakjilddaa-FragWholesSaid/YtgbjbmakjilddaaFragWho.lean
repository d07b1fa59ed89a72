import Derived.Test.YtgbjbmakjilddaaFragWalk
namespace Go.Proofs.Ytgbjbmakjilddaa.QFrag
open Go.RowKit Go.Proofs.YtgbjbmakjilddaaW.PrintWords Go.Proofs.YtgbjbmakjilddaaW.PrintLast Go.Proofs.YtgbjbmakjilddaaW.PrintMore Go.ChangeShapes Go.WideShapes Go.ChangeAt Go.Shelf
open Base (hid slice_of_row ret_bool cell_new1 cell_old1 froz_new1 froz_old1)
open Go.Joins (cell_of_block unfrozen_of_block)
attribute [local go_sem] Oper.semAt_some
set_option linter.unusedVariables false
set_option maxRecDepth 100000 in
set_option maxHeartbeats 8000000 in
theorem wholes_calls (A : Option Addr) (c : Nat) (l : List S93) (n s : Int) (w : World) (hr : Kd.C k93 w A l.length l) (hc : l.length ≤ c)
    (hrg : 0 < l.length → 0 ≤ (rd_T93 l 0).f0 ∧ (rd_T93 l 0).f0 < 4294967296) (hts : ∀ p ∈ l, p.f6.length ≤ 140737488351232) :
    Calls Try.prog 9 #[.slice A l.length c, .int .i64 n, .int .i64 s] w fun e w' => e = .returned (.bool true) ∧ Below w.heap.size w w' := by
  have hu93 := Try.underlying93
  have hl := C_len93 hr
  have HR := hid hr
  have HG := hid hrg
  have HT := hid hts
  clear hr hrg hts
  go_enter Try.func9, Try.ntmps9
  go_wp2_with (go_at_call 39; refine (weftlinelaw16_alive.calls true _ rfl).mono ?_; rintro e w1 ⟨rfl, hb⟩; have HR := hid (Kd.C_below HR.out hb); have HB := hid hb; clear hb)
  go_loopw [7, 22] (fun v7 v22 wr => ∃ k : Nat, k ≤ l.length ∧ v22 = .int .i64 k ∧ v7 = .int .i64 (tl l k : Int) ∧ k ≤ 61 ∧ tl l k ≤ 4000 ∧ Hid (Below w1.heap.size w1 wr)) (fun _ v22 _ => l.length - (intOf v22).toNat)
  case atStart => exact ⟨0, Nat.zero_le _, rfl, rfl, by omega, Nat.zero_le _, hid (Below.refl _ _)⟩
  case round =>
    obtain ⟨k, hk, rfl, rfl, hk60, ht, HB1⟩ := hrel
    by_cases hlt : k < l.length
    · obtain ⟨ad, A6, c6, rfl, h0, h1, h2, h3, h4, h5, h6, hl6, hi6⟩ := at_T93 (Kd.C_below HR.out HB1.out) (k : Int) (by omega) (by omega)
      rw [Int.toNat_natCast] at h0 h1 h2 h3 h4 h5 h6
      rw [FL.rd_nat93 l k hlt] at h0 h1 h2 h3 h4 h5 h6 hl6 hi6
      have hq : (k : Int).toNat = k := Int.toNat_natCast k
      have hs := HT.out l[k] (List.getElem_mem hlt)
      have htl := tl_succ l k hlt
      have hsum : IntKind.i64.wrap ((tl l k : Int) + (l[k].f6.length : Int)) = (tl l (k + 1) : Int) := by rw [htl]; simp [IntKind.wrap, IntKind.bits, IntKind.signed]; omega
      generalize l[k].f6.length = n6 at *
      clear hl6 hi6
      by_cases h60 : k > 60
      · go_wp2
        go_ret
        exact ⟨rfl, (HB.out.trans (HB1.out.mono HB.out.size)).alloc (Nat.le_trans HB.out.size HB1.out.size) _⟩
      have h61 : ¬ (60 : Int) < (k : Int) := by omega
      by_cases h4k : 4000 < tl l (k + 1)
      · have hgt : (4000 : Int) < (tl l k : Int) + (n6 : Int) := by omega
        go_wp2
        go_ret
        exact ⟨rfl, (HB.out.trans (HB1.out.mono HB.out.size)).alloc (Nat.le_trans HB.out.size HB1.out.size) _⟩
      · have hgt : ¬ (4000 : Int) < (tl l k : Int) + (n6 : Int) := by omega
        go_wp2
        go_roundw
        case rel => exact ⟨k + 1, by omega, by go_num, by rw [htl]; go_num, by omega, by omega, hid (HB1.out.alloc HB1.out.size _)⟩
        case measure => simp [intOf]; omega
    · obtain rfl : k = l.length := by omega
      have hsh := hid (tl_short l 4000 ht)
      have hrW := Kd.C_below HR.out HB1.out
      go_wp2_with (go_at_call 48; refine (weftlinenum_Own.calls 101 A c l l _ hrW hc (FL.own_eq 101 l (by omega) (fun p hp => Nat.le_trans (hsh.out p hp) (by decide)) (by omega))).mono ?_)
      rintro e w3 ⟨v0, rfl, hS, hB3⟩
      obtain ⟨Ao, co, rfl, hco, hCo⟩ := Kd.R_reads (Kd.S_R hS)
      have hPok := pok_of_R (Kd.S_R hS)
      obtain ⟨⟨a, b, tx, eo, ok⟩, hF, hG, hcase⟩ : ∃ q : Int × Bool × List Int × Option Int × Bool, FL.wholeF l = (q.1, q.2.1, q.2.2.1, q.2.2.2.1) ∧ FL.wholeG l = (q.1, q.2.1, q.2.2.1, q.2.2.2.2) ∧ (q.2.2.2 = (none, true) ∨ q.2.2.2 = (some 2, false)) := by
        unfold FL.wholeF FL.wholeG
        cases FL.wholeR l with
        | none => exact ⟨(0, false, [], some 2, false), rfl, rfl, .inr rfl⟩
        | some q => exact ⟨(q.1, q.2.1, q.2.2, none, true), rfl, rfl, .inl rfl⟩
      dsimp only at hF hG hcase
      have hWh := (FL.whole_eq 101 l (by omega) HG.out (by omega)).trans (congrArg some hF)
      have hrf := refwhole_calls A c l
      rw [hG] at hrf
      have HRF := hid hrf
      clear hrf
      rcases hcase with hcase | hcase
      · obtain ⟨rfl, rfl⟩ := Prod.mk.inj hcase
        clear hcase hF hG
        go_wp2_with (go_at_call 46; refine (frag_Whole.calls 101 Ao co l a b tx none _ hCo hco hWh).mono ?_)
        rintro e w4 ⟨v4, rfl, hR4, hB4⟩
        obtain ⟨A4, c4, rfl, hc4, hC4⟩ := Kd.R_reads hR4
        rw [errW_none]
        have hr5 := Kd.C_alloc (Kd.C_below (Kd.C_below hrW hB3) hB4) (.cells #[.int .i64 a, .bool b, .slice A4 tx.length c4] 77)
        go_wp2_with (go_at_call 49; refine (HRF.out _ hr5 hc (by omega) HG.out).mono ?_)
        rintro e w6 ⟨v6, rfl, hR6, hB6⟩
        obtain ⟨A6, c6, rfl, hc6, hC6⟩ := Kd.R_reads hR6
        dsimp only
        go_upto_region 15 with (fail)
        go_cut [64] (fun s64 wx => ∃ cb : Bool, s64 = .bool cb ∧ Hid (cb = decide (1 ≤ n ∧ n ≤ 400 ∧ 1 ≤ s ∧ s ≤ 64)) ∧ wx = w6.alloc (.cells #[.int .i64 a, .bool b, .slice A6 tx.length c6] 77))
        case first =>
          by_cases n1 : 1 ≤ n
          rotate_left
          · go_wp2
            go_meet
            exact ⟨_, rfl, hid (decide_eq_false (by omega)).symm, rfl⟩
          by_cases n2 : n ≤ 400
          rotate_left
          · go_wp2
            go_meet
            exact ⟨_, rfl, hid (decide_eq_false (by omega)).symm, rfl⟩
          by_cases n3 : 1 ≤ s
          rotate_left
          · go_wp2
            go_meet
            exact ⟨_, rfl, hid (decide_eq_false (by omega)).symm, rfl⟩
          by_cases n4 : s ≤ 64
          rotate_left
          · go_wp2
            go_meet
            exact ⟨_, rfl, hid (decide_eq_false (by omega)).symm, rfl⟩
          go_wp2
          go_meet
          exact ⟨_, rfl, hid (decide_eq_true (p := (1 ≤ n ∧ n ≤ 400 ∧ 1 ≤ s ∧ s ≤ 64)) ⟨n1, n2, n3, n4⟩).symm, rfl⟩
        obtain ⟨cb, rfl, hcb, rfl⟩ := hcut
        go_upto_if 64 with (fail)
        go_cut [15] (fun s15 wx => s15 = .int .i64 (FL.manyB n s) ∧ wx = w6.alloc (.cells #[.int .i64 a, .bool b, .slice A6 tx.length c6] 77))
        case first =>
          cases cb with
          | true =>
            have nn := of_decide_eq_true hcb.out.symm
            have e := hid (many_in n s nn)
            have es : ¬ s = 0 := by omega
            clear hcb
            go_wp2
            go_meet
            exact ⟨by rw [e.out], rfl⟩
          | false =>
            have nn := of_decide_eq_false hcb.out.symm
            have e : FL.manyB n s = 0 := by unfold FL.manyB; rw [if_neg nn]
            have e := hid e
            clear hcb nn
            go_wp2
            go_meet
            exact ⟨by rw [e.out], rfl⟩
        case rest =>
          obtain ⟨rfl, rfl⟩ := hcut
          go_wp2_with (go_at_call 43; refine (frag_Many.calls n s _ _ (FL.manyB_eq n s)).mono ?_)
          rintro e w8 ⟨rfl, hD8⟩
          have hB8 := hD8.below
          have z5 : (w4.alloc (.cells #[.int .i64 a, .bool b, .slice A4 tx.length c4] 77)).heap.size = w4.heap.size + 1 := by simp
          have z7 : (w6.alloc (.cells #[.int .i64 a, .bool b, .slice A6 tx.length c6] 77)).heap.size = w6.heap.size + 1 := by simp
          have y4 := hB4.size
          have y6 := hB6.size
          have y3 := hB3.size
          have hb68 : Below w6.heap.size w6 w8 := ((Below.refl _ w6).alloc (Nat.le_refl _) _).trans (hB8.mono (by omega))
          have hb58 : Below (w4.heap.size + 1) (w4.alloc (.cells #[.int .i64 a, .bool b, .slice A4 tx.length c4] 77)) w8 := (hB6.mono (by omega)).trans (hb68.mono (by omega))
          have hb48 : Below w4.heap.size w4 w8 := ((Below.refl _ w4).alloc (Nat.le_refl _) _).trans (hb58.mono (by omega))
          have hb38 : Below w3.heap.size w3 w8 := hB4.trans (hb48.mono (by omega))
          have q0 : w8.cell? ⟨w4.heap.size, 0, none⟩ = some (.int .i64 a) := (hb58.cell (p := ⟨w4.heap.size, 0, none⟩) (by simp)).trans ((cell_new1 w4 _ 77 _ rfl 0).trans rfl)
          have q1 : w8.cell? ⟨w4.heap.size, 1, none⟩ = some (.bool b) := (hb58.cell (p := ⟨w4.heap.size, 1, none⟩) (by simp)).trans ((cell_new1 w4 _ 77 _ rfl 1).trans rfl)
          have q2 : w8.cell? ⟨w4.heap.size, 2, none⟩ = some (.slice A4 tx.length c4) := (hb58.cell (p := ⟨w4.heap.size, 2, none⟩) (by simp)).trans ((cell_new1 w4 _ 77 _ rfl 2).trans rfl)
          have p0 : w8.cell? ⟨w6.heap.size, 0, none⟩ = some (.int .i64 a) := (hB8.cell (p := ⟨w6.heap.size, 0, none⟩) (by simp)).trans ((cell_new1 w6 _ 77 _ rfl 0).trans rfl)
          have p1 : w8.cell? ⟨w6.heap.size, 1, none⟩ = some (.bool b) := (hB8.cell (p := ⟨w6.heap.size, 1, none⟩) (by simp)).trans ((cell_new1 w6 _ 77 _ rfl 1).trans rfl)
          have p2 : w8.cell? ⟨w6.heap.size, 2, none⟩ = some (.slice A6 tx.length c6) := (hB8.cell (p := ⟨w6.heap.size, 2, none⟩) (by simp)).trans ((cell_new1 w6 _ 77 _ rfl 2).trans rfl)
          have hR48 := hid (Kd.R_lower (Kd.R_below hR4 hb48) (Nat.le_refl _))
          have hR68 := hid (Kd.R_lower (Kd.R_below hR6 hb68) (show w3.heap.size ≤ _ by omega))
          have hPok8 := hid (pok_move hPok hb38.block)
          have HBW := hid (((HB.out.trans (HB1.out.mono HB.out.size)).trans (hB3.mono (Nat.le_trans HB.out.size HB1.out.size))).trans (hb38.mono (Nat.le_trans (Nat.le_trans HB.out.size HB1.out.size) y3)))
          have Q := hid (And.intro q0 (And.intro q1 (And.intro q2 (And.intro p0 (And.intro p1 p2)))))
          have x4 : w3.heap.size ≤ w4.heap.size := y4
          have x6 : w3.heap.size ≤ w6.heap.size := by omega
          have xB : w.heap.size ≤ wr.heap.size := Nat.le_trans HB.out.size HB1.out.size
          obtain ⟨ns, hns⟩ : ∃ ns : List Nat, ns = l.map fun p => p.f6.length := ⟨_, rfl⟩
          have hnl : ns.length = l.length := by rw [hns]; exact List.length_map _
          have hnl := hid hnl
          have hn4 : ∀ i (h : i < ns.length), ns[i] ≤ 4000 := by
            intro i h
            have h' : i < l.length := by rw [hnl.out] at h; exact h
            have : ns[i] = l[i].f6.length := by simp only [hns, List.getElem_map]
            rw [this]
            exact hsh.out _ (List.getElem_mem h')
          have hn4 := hid hn4
          rw [← hns] at hPok8
          obtain ⟨B, hB⟩ : ∃ B : Nat, B = wr.heap.size := ⟨_, rfl⟩
          rw [← hB] at hPok8 xB
          clear hns hB hsh HB1 HB
          clear q0 q1 q2 p0 p1 p2 hB8 hD8 z5 z7 y6 hb68 hb58 hb48 hb38 hR4 hR6 hPok hC4 hC6 hr5 hB6 hB4 HRF hWh hS hCo hrW hB3 y4 y3
          go_wp2
          go_loopw [92] (fun v92 wx => ∃ i : Nat, i ≤ l.length ∧ v92 = .int .i64 i ∧ Hid (Pok wx Ao ns B w3.heap.size) ∧ Hid (Mid B w3.heap.size w8 wx)) (fun v92 _ => l.length - (intOf v92).toNat)
          case atStart => exact ⟨0, Nat.zero_le _, rfl, hPok8, hid (Mid.refl _ _ _)⟩
          case round =>
            clear hPok8
            obtain ⟨i, hi, rfl, HP, HM⟩ := hrel
            by_cases hil : i < l.length
            · have hin : i < ns.length := by rw [hnl.out]; exact hil
              have hm4 := hn4.out i hin
              obtain ⟨ad, A9, c9, rfl, hadB, hcl, hc9, _⟩ := HP.out i hin
              have hq : (i : Int).toNat = i := Int.toNat_natCast i
              obtain ⟨m, hm⟩ : ∃ m : Nat, m = ns[i] := ⟨_, rfl⟩
              rw [← hm] at hm4 hcl hc9
              have hm := hid hm
              go_wp2
              go_loopw [101] (fun v101 wx => ∃ k : Nat, k ≤ m ∧ v101 = .int .i64 k ∧ Hid (Pok wx (some ad) ns B w3.heap.size) ∧ Hid (Mid B w3.heap.size w8 wx)) (fun v101 _ => m - (intOf v101).toNat)
              case atStart => exact ⟨0, Nat.zero_le _, rfl, HP, HM⟩
              case round =>
                clear HP HM hcl hc9
                obtain ⟨k, hk, rfl, HP, HM⟩ := hrel
                by_cases hkm : k < m
                · obtain ⟨ad', A8, c8, e8, _, hcl, hc8, hks⟩ := HP.out i hin
                  cases e8
                  rw [← hm.out] at hcl hc8 hks
                  obtain ⟨a6, x, rfl, b1, b2, b3, b4, b5⟩ := hks k hkm
                  clear hks
                  have hqk : (k : Int).toNat = k := Int.toNat_natCast k
                  go_wp2
                  go_roundw
                  case rel => exact ⟨k + 1, by omega, by go_num, hid (pok_set HP.out (fun ad2 e => by cases e; rw [add_block]; exact b3) _), hid (HM.out.set (by rw [add_block]; exact b1) (by rw [add_block]; exact b2) _)⟩
                  case measure => simp [intOf]; omega
                · obtain rfl : k = m := by omega
                  go_wp2
                  go_roundw
                  case rel => exact ⟨i + 1, by omega, by go_num, HP, HM⟩
                  case measure => simp [intOf]; omega
            · obtain rfl : i = l.length := by omega
              obtain ⟨q0, q1, q2, p0, p1, p2⟩ := Q.out
              replace q0 := (HM.out.cell ⟨w4.heap.size, 0, none⟩ (.inr x4)).trans q0
              replace q1 := (HM.out.cell ⟨w4.heap.size, 1, none⟩ (.inr x4)).trans q1
              replace q2 := (HM.out.cell ⟨w4.heap.size, 2, none⟩ (.inr x4)).trans q2
              replace p0 := (HM.out.cell ⟨w6.heap.size, 0, none⟩ (.inr x6)).trans p0
              replace p1 := (HM.out.cell ⟨w6.heap.size, 1, none⟩ (.inr x6)).trans p1
              replace p2 := (HM.out.cell ⟨w6.heap.size, 2, none⟩ (.inr x6)).trans p2
              have r4 := HM.out.R (Nat.le_refl _) hR48.out
              have r6 := HM.out.R (Nat.le_refl _) hR68.out
              have hfin := hid (HM.out.below HBW.out xB)
              have g4 := (Kd.R_reads' r4).2.2
              have g6 := (Kd.R_reads' r6).2.2
              clear r4 r6
              have l4 : w4.heap.size < wr.heap.size := Base.lt_of_cell q0
              have l6 : w6.heap.size < wr.heap.size := Base.lt_of_cell p0
              go_wp2_with (go_at_call 47; refine (messages_calls _ 1 _ 1 [(⟨a, b, tx⟩ : S77)] _ ?m1 ?m2).mono ?_)
              case m1 => exact msg_row (Kd.C_alloc (Kd.C_alloc g4 _) _) hc4 ((cell_old1 _ _ _ (by simp) 0).trans ((cell_new1 wr _ 77 _ rfl 0).trans rfl)) ((cell_old1 _ _ _ (by simp) 1).trans ((cell_new1 wr _ 77 _ rfl 1).trans rfl)) ((cell_old1 _ _ _ (by simp) 2).trans ((cell_new1 wr _ 77 _ rfl 2).trans rfl))
              case m2 => exact msg_row (Kd.C_alloc (Kd.C_alloc g6 _) _) hc6 ((cell_new1 _ _ 77 _ (by simp) 0).trans rfl) ((cell_new1 _ _ 77 _ (by simp) 1).trans rfl) ((cell_new1 _ _ 77 _ (by simp) 2).trans rfl)
              rintro e wz ⟨rfl, hDz⟩
              have hfz := hid (((hfin.out.alloc hfin.out.size _).alloc (by simp; have := hfin.out.size; omega) _).trans (hDz.below.mono (by simp; have := hfin.out.size; omega)))
              clear hDz
              go_wp2
              go_ret
              exact ⟨rfl, hfz.out⟩
      · obtain ⟨rfl, rfl⟩ := Prod.mk.inj hcase
        clear hcase hF hG
        go_wp2_with (go_at_call 46; refine (frag_Whole.calls 101 Ao co l a b tx (some 2) _ hCo hco hWh).mono ?_)
        rintro e w4 ⟨v4, rfl, hR4, hB4⟩
        obtain ⟨A4, c4, rfl, hc4, hC4⟩ := Kd.R_reads hR4
        rw [errW_some]
        have hr5 := Kd.C_alloc (Kd.C_below (Kd.C_below hrW hB3) hB4) (.cells #[.int .i64 a, .bool b, .slice A4 tx.length c4] 77)
        go_wp2_with (go_at_call 49; refine (HRF.out _ hr5 hc (by omega) HG.out).mono ?_)
        rintro e w6 ⟨v6, rfl, hR6, hB6⟩
        obtain ⟨A6, c6, rfl, hc6, hC6⟩ := Kd.R_reads hR6
        dsimp only
        go_upto_region 15 with (fail)
        go_cut [64] (fun s64 wx => ∃ cb : Bool, s64 = .bool cb ∧ Hid (cb = decide (1 ≤ n ∧ n ≤ 400 ∧ 1 ≤ s ∧ s ≤ 64)) ∧ wx = w6.alloc (.cells #[.int .i64 a, .bool b, .slice A6 tx.length c6] 77))
        case first =>
          by_cases n1 : 1 ≤ n
          rotate_left
          · go_wp2
            go_meet
            exact ⟨_, rfl, hid (decide_eq_false (by omega)).symm, rfl⟩
          by_cases n2 : n ≤ 400
          rotate_left
          · go_wp2
            go_meet
            exact ⟨_, rfl, hid (decide_eq_false (by omega)).symm, rfl⟩
          by_cases n3 : 1 ≤ s
          rotate_left
          · go_wp2
            go_meet
            exact ⟨_, rfl, hid (decide_eq_false (by omega)).symm, rfl⟩
          by_cases n4 : s ≤ 64
          rotate_left
          · go_wp2
            go_meet
            exact ⟨_, rfl, hid (decide_eq_false (by omega)).symm, rfl⟩
          go_wp2
          go_meet
          exact ⟨_, rfl, hid (decide_eq_true (p := (1 ≤ n ∧ n ≤ 400 ∧ 1 ≤ s ∧ s ≤ 64)) ⟨n1, n2, n3, n4⟩).symm, rfl⟩
        obtain ⟨cb, rfl, hcb, rfl⟩ := hcut
        go_upto_if 64 with (fail)
        go_cut [15] (fun s15 wx => s15 = .int .i64 (FL.manyB n s) ∧ wx = w6.alloc (.cells #[.int .i64 a, .bool b, .slice A6 tx.length c6] 77))
        case first =>
          cases cb with
          | true =>
            have nn := of_decide_eq_true hcb.out.symm
            have e := hid (many_in n s nn)
            have es : ¬ s = 0 := by omega
            clear hcb
            go_wp2
            go_meet
            exact ⟨by rw [e.out], rfl⟩
          | false =>
            have nn := of_decide_eq_false hcb.out.symm
            have e : FL.manyB n s = 0 := by unfold FL.manyB; rw [if_neg nn]
            have e := hid e
            clear hcb nn
            go_wp2
            go_meet
            exact ⟨by rw [e.out], rfl⟩
        case rest =>
          obtain ⟨rfl, rfl⟩ := hcut
          go_wp2_with (go_at_call 37; refine (weftlinenum_Is.calls (some 2) 2 true _ rfl).mono ?_)
          rintro e w8a ⟨rfl, hDa⟩
          have hBa := hDa.below
          clear hDa
          go_wp2_with (go_at_call 43; refine (frag_Many.calls n s _ _ (FL.manyB_eq n s)).mono ?_)
          rintro e w8 ⟨rfl, hD8⟩
          have hB8 := hBa.trans (hD8.below.mono hBa.size)
          clear hBa
          have z5 : (w4.alloc (.cells #[.int .i64 a, .bool b, .slice A4 tx.length c4] 77)).heap.size = w4.heap.size + 1 := by simp
          have z7 : (w6.alloc (.cells #[.int .i64 a, .bool b, .slice A6 tx.length c6] 77)).heap.size = w6.heap.size + 1 := by simp
          have y4 := hB4.size
          have y6 := hB6.size
          have y3 := hB3.size
          have hb68 : Below w6.heap.size w6 w8 := ((Below.refl _ w6).alloc (Nat.le_refl _) _).trans (hB8.mono (by omega))
          have hb58 : Below (w4.heap.size + 1) (w4.alloc (.cells #[.int .i64 a, .bool b, .slice A4 tx.length c4] 77)) w8 := (hB6.mono (by omega)).trans (hb68.mono (by omega))
          have hb48 : Below w4.heap.size w4 w8 := ((Below.refl _ w4).alloc (Nat.le_refl _) _).trans (hb58.mono (by omega))
          have hb38 : Below w3.heap.size w3 w8 := hB4.trans (hb48.mono (by omega))
          have q0 : w8.cell? ⟨w4.heap.size, 0, none⟩ = some (.int .i64 a) := (hb58.cell (p := ⟨w4.heap.size, 0, none⟩) (by simp)).trans ((cell_new1 w4 _ 77 _ rfl 0).trans rfl)
          have q1 : w8.cell? ⟨w4.heap.size, 1, none⟩ = some (.bool b) := (hb58.cell (p := ⟨w4.heap.size, 1, none⟩) (by simp)).trans ((cell_new1 w4 _ 77 _ rfl 1).trans rfl)
          have q2 : w8.cell? ⟨w4.heap.size, 2, none⟩ = some (.slice A4 tx.length c4) := (hb58.cell (p := ⟨w4.heap.size, 2, none⟩) (by simp)).trans ((cell_new1 w4 _ 77 _ rfl 2).trans rfl)
          have p0 : w8.cell? ⟨w6.heap.size, 0, none⟩ = some (.int .i64 a) := (hB8.cell (p := ⟨w6.heap.size, 0, none⟩) (by simp)).trans ((cell_new1 w6 _ 77 _ rfl 0).trans rfl)
          have p1 : w8.cell? ⟨w6.heap.size, 1, none⟩ = some (.bool b) := (hB8.cell (p := ⟨w6.heap.size, 1, none⟩) (by simp)).trans ((cell_new1 w6 _ 77 _ rfl 1).trans rfl)
          have p2 : w8.cell? ⟨w6.heap.size, 2, none⟩ = some (.slice A6 tx.length c6) := (hB8.cell (p := ⟨w6.heap.size, 2, none⟩) (by simp)).trans ((cell_new1 w6 _ 77 _ rfl 2).trans rfl)
          have hR48 := hid (Kd.R_lower (Kd.R_below hR4 hb48) (Nat.le_refl _))
          have hR68 := hid (Kd.R_lower (Kd.R_below hR6 hb68) (show w3.heap.size ≤ _ by omega))
          have hPok8 := hid (pok_move hPok hb38.block)
          have HBW := hid (((HB.out.trans (HB1.out.mono HB.out.size)).trans (hB3.mono (Nat.le_trans HB.out.size HB1.out.size))).trans (hb38.mono (Nat.le_trans (Nat.le_trans HB.out.size HB1.out.size) y3)))
          have Q := hid (And.intro q0 (And.intro q1 (And.intro q2 (And.intro p0 (And.intro p1 p2)))))
          have x4 : w3.heap.size ≤ w4.heap.size := y4
          have x6 : w3.heap.size ≤ w6.heap.size := by omega
          have xB : w.heap.size ≤ wr.heap.size := Nat.le_trans HB.out.size HB1.out.size
          obtain ⟨ns, hns⟩ : ∃ ns : List Nat, ns = l.map fun p => p.f6.length := ⟨_, rfl⟩
          have hnl : ns.length = l.length := by rw [hns]; exact List.length_map _
          have hnl := hid hnl
          have hn4 : ∀ i (h : i < ns.length), ns[i] ≤ 4000 := by
            intro i h
            have h' : i < l.length := by rw [hnl.out] at h; exact h
            have : ns[i] = l[i].f6.length := by simp only [hns, List.getElem_map]
            rw [this]
            exact hsh.out _ (List.getElem_mem h')
          have hn4 := hid hn4
          rw [← hns] at hPok8
          obtain ⟨B, hB⟩ : ∃ B : Nat, B = wr.heap.size := ⟨_, rfl⟩
          rw [← hB] at hPok8 xB
          clear hns hB hsh HB1 HB
          clear q0 q1 q2 p0 p1 p2 hB8 hD8 z5 z7 y6 hb68 hb58 hb48 hb38 hR4 hR6 hPok hC4 hC6 hr5 hB6 hB4 HRF hWh hS hCo hrW hB3 y4 y3
          go_wp2
          go_loopw [92] (fun v92 wx => ∃ i : Nat, i ≤ l.length ∧ v92 = .int .i64 i ∧ Hid (Pok wx Ao ns B w3.heap.size) ∧ Hid (Mid B w3.heap.size w8 wx)) (fun v92 _ => l.length - (intOf v92).toNat)
          case atStart => exact ⟨0, Nat.zero_le _, rfl, hPok8, hid (Mid.refl _ _ _)⟩
          case round =>
            clear hPok8
            obtain ⟨i, hi, rfl, HP, HM⟩ := hrel
            by_cases hil : i < l.length
            · have hin : i < ns.length := by rw [hnl.out]; exact hil
              have hm4 := hn4.out i hin
              obtain ⟨ad, A9, c9, rfl, hadB, hcl, hc9, _⟩ := HP.out i hin
              have hq : (i : Int).toNat = i := Int.toNat_natCast i
              obtain ⟨m, hm⟩ : ∃ m : Nat, m = ns[i] := ⟨_, rfl⟩
              rw [← hm] at hm4 hcl hc9
              have hm := hid hm
              go_wp2
              go_loopw [101] (fun v101 wx => ∃ k : Nat, k ≤ m ∧ v101 = .int .i64 k ∧ Hid (Pok wx (some ad) ns B w3.heap.size) ∧ Hid (Mid B w3.heap.size w8 wx)) (fun v101 _ => m - (intOf v101).toNat)
              case atStart => exact ⟨0, Nat.zero_le _, rfl, HP, HM⟩
              case round =>
                clear HP HM hcl hc9
                obtain ⟨k, hk, rfl, HP, HM⟩ := hrel
                by_cases hkm : k < m
                · obtain ⟨ad', A8, c8, e8, _, hcl, hc8, hks⟩ := HP.out i hin
                  cases e8
                  rw [← hm.out] at hcl hc8 hks
                  obtain ⟨a6, x, rfl, b1, b2, b3, b4, b5⟩ := hks k hkm
                  clear hks
                  have hqk : (k : Int).toNat = k := Int.toNat_natCast k
                  go_wp2
                  go_roundw
                  case rel => exact ⟨k + 1, by omega, by go_num, hid (pok_set HP.out (fun ad2 e => by cases e; rw [add_block]; exact b3) _), hid (HM.out.set (by rw [add_block]; exact b1) (by rw [add_block]; exact b2) _)⟩
                  case measure => simp [intOf]; omega
                · obtain rfl : k = m := by omega
                  go_wp2
                  go_roundw
                  case rel => exact ⟨i + 1, by omega, by go_num, HP, HM⟩
                  case measure => simp [intOf]; omega
            · obtain rfl : i = l.length := by omega
              obtain ⟨q0, q1, q2, p0, p1, p2⟩ := Q.out
              replace q0 := (HM.out.cell ⟨w4.heap.size, 0, none⟩ (.inr x4)).trans q0
              replace q1 := (HM.out.cell ⟨w4.heap.size, 1, none⟩ (.inr x4)).trans q1
              replace q2 := (HM.out.cell ⟨w4.heap.size, 2, none⟩ (.inr x4)).trans q2
              replace p0 := (HM.out.cell ⟨w6.heap.size, 0, none⟩ (.inr x6)).trans p0
              replace p1 := (HM.out.cell ⟨w6.heap.size, 1, none⟩ (.inr x6)).trans p1
              replace p2 := (HM.out.cell ⟨w6.heap.size, 2, none⟩ (.inr x6)).trans p2
              have r4 := HM.out.R (Nat.le_refl _) hR48.out
              have r6 := HM.out.R (Nat.le_refl _) hR68.out
              have hfin := hid (HM.out.below HBW.out xB)
              have g4 := (Kd.R_reads' r4).2.2
              have g6 := (Kd.R_reads' r6).2.2
              clear r4 r6
              have l4 : w4.heap.size < wr.heap.size := Base.lt_of_cell q0
              have l6 : w6.heap.size < wr.heap.size := Base.lt_of_cell p0
              go_wp2_with (go_at_call 47; refine (messages_calls _ 1 _ 1 [(⟨a, b, tx⟩ : S77)] _ ?m1 ?m2).mono ?_)
              case m1 => exact msg_row (Kd.C_alloc (Kd.C_alloc g4 _) _) hc4 ((cell_old1 _ _ _ (by simp) 0).trans ((cell_new1 wr _ 77 _ rfl 0).trans rfl)) ((cell_old1 _ _ _ (by simp) 1).trans ((cell_new1 wr _ 77 _ rfl 1).trans rfl)) ((cell_old1 _ _ _ (by simp) 2).trans ((cell_new1 wr _ 77 _ rfl 2).trans rfl))
              case m2 => exact msg_row (Kd.C_alloc (Kd.C_alloc g6 _) _) hc6 ((cell_new1 _ _ 77 _ (by simp) 0).trans rfl) ((cell_new1 _ _ 77 _ (by simp) 1).trans rfl) ((cell_new1 _ _ 77 _ (by simp) 2).trans rfl)
              rintro e wz ⟨rfl, hDz⟩
              have hfz := hid (((hfin.out.alloc hfin.out.size _).alloc (by simp; have := hfin.out.size; omega) _).trans (hDz.below.mono (by simp; have := hfin.out.size; omega)))
              clear hDz
              go_wp2
              go_ret
              exact ⟨rfl, hfz.out⟩
end Go.Proofs.Ytgbjbmakjilddaa.QFrag
