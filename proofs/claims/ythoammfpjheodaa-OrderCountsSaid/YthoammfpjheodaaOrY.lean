import Derived.Test.YthoammfpjheodaaOrX
namespace Go.Proofs.Ythoammfpjheodaa.Or
open Go.ChangeShapes Go.WideShapes Go.ChangeAt Go.RowKit Go.Shelf MK
open Base (hid cell_new1 cell_old1 froz_new1 froz_old1)
open Rz (below_alloc lt_of_cell add_block Txt box_at box_new box_old setCells_grown grown_setAt own_low own_base txt_row nil_row clone_calls)
attribute [local go_sem] Oper.semAt_some
set_option linter.unusedVariables false
set_option linter.unusedSimpArgs false
set_option maxRecDepth 100000
/-! OrderCounts: the walk -/
variable {w w' : World} {bp mb n : Nat} {d : Ds} {f : SK → Option Mg} {L : List Mg} {A : Option Addr} {c : Nat}
/-- A row that is none of the caller's. -/
def Own0 (w : World) (r : Option Nat) : Prop := ∀ k, r = some k → w.heap.size ≤ k
theorem Own0.nw {w w1 : World} {r r' : Option Nat} (h : Own0 w r) (hn : Nw w1 r r') (hs : w.heap.size ≤ w1.heap.size) : Own0 w r' := fun k e => by
  rcases hn with h1 | ⟨g, h1, hg⟩
  · rw [h1] at e; exact h k e
  · rw [h1] at e
    have := Option.some.inj e
    omega
def popD (d : Ds) : Ds := ⟨d.nx, d.ws, d.rd.tail⟩
theorem Inv.pop {d : Ds} (h : Inv d) : Inv (popD d) := ⟨h.nxl, h.nxr, h.wf, h.srt, fun m hm => h.rdg m (List.mem_of_mem_tail hm)⟩
theorem errV_ne {er : Int} (h : er ≠ 0) : errV er = .iface 81 (.int .i64 er) := by unfold errV; rw [if_neg h]
/-- A block that was made behind a desk lies as it lay. -/
theorem Dk.box_mv (h : Dk w bp mb n d f L A c) {W w5 : World} {o : Obj} {b : Nat} (hb : w.heap.size ≤ b) (hm : Mv W w5 bp mb (blk A)) (ho : W.heap[b]? = some o) : w5.heap[b]? = some o :=
  (hm.block b (Array.getElem?_eq_some_iff.1 ho).1 (by have := h.lt; omega) (by have := h.lt; omega) (fun e => by
    cases hA : A with
    | none => rw [hA] at e; cases e
    | some a =>
      rw [hA] at e
      have e2 : b = a.block := Option.some.inj e
      have := h.rdy.lt a hA
      omega)).trans ho
set_option maxHeartbeats 8000000 in
theorem counts_calls (w : World) (A0 : Option Addr) (c0 : Nat) (l : List Ac) (h : AR w A0 c0 l) :
    Calls Try.prog 4 #[.slice A0 l.length c0] w fun e w' => e = .returned (.bool true) ∧ Below w.heap.size w w' := by
  have H := hid h
  have hlen := h.len
  clear h
  cases hlg : longA l with
  | true =>
    have HLG := hid hlg
    clear hlg
    go_enter Try.func4, Try.ntmps4
    go_wp2_with (first
      | (go_at_call 18; go_must (refine (alive_calls _).mono ?_; rintro e w1 ⟨rfl, hb1⟩; have HB1 := hid hb1; clear hb1))
      | (go_at_call 19; go_must (refine (long_calls _ A0 c0 l (H.out.below HB1.out)).mono ?_; rintro e w2 ⟨he, hb2⟩; rw [HLG.out] at he; subst he; have HB2 := hid (below_step HB1.out hb2); clear hb2)))
    go_ret
    exact ⟨rfl, HB2.out⟩
  | false =>
    have hl51 : l.length ≤ 51 := by
      unfold longA at hlg
      simp only [Bool.or_eq_false_iff, decide_eq_false_iff_not] at hlg
      omega
    have HLG := hid hlg
    clear hlg
    go_enter Try.func4, Try.ntmps4
    go_wp2_with (first
      | (go_at_call 18; go_must (refine (alive_calls _).mono ?_; rintro e w1 ⟨rfl, hb1⟩; have HB1 := hid hb1; clear hb1))
      | (go_at_call 19; go_must (refine (long_calls _ A0 c0 l (H.out.below HB1.out)).mono ?_; rintro e w2 ⟨he, hb2⟩; rw [HLG.out] at he; subst he; have HB2 := hid (below_step HB1.out hb2); clear hb2))
      | (go_at_call 20; go_must (refine (new_calls _).mono ?_; rintro e w3 ⟨bp, mb, rfl, hd3, hbp, hmb, hb3⟩; have HD3 := hid hd3; have HB3 := hid (below_step HB2.out hb3); have HBP : Hid (w.heap.size ≤ bp ∧ w.heap.size ≤ mb) := hid ⟨Nat.le_trans HB2.out.size hbp, Nat.le_trans HB2.out.size hmb⟩; clear hd3 hb3 hbp hmb)))
    go_loopw [4, 5, 19] (fun v4 v5 v19 wr => ∃ (i n cm wt : Nat) (d : Ds) (f : SK → Option Mg) (L : List Mg) (A : Option Addr) (c : Nat), i ≤ l.length ∧ v19 = .int .i64 i ∧ v4 = .int .i64 cm ∧ v5 = .int .i64 wt ∧ n ≤ i ∧ cm ≤ i ∧ Hid (many d + wt = cm) ∧ Hid (Inv d) ∧ Hid (Dk wr bp mb n d f L A c) ∧ Hid (Own0 w (blk A)) ∧ Hid (Below w.heap.size w wr)) (fun _ _ v19 _ => l.length - numV v19)
    case atStart => exact ⟨0, 0, 0, 0, d0, _, [], none, 0, Nat.zero_le _, rfl, rfl, rfl, Nat.le_refl _, Nat.le_refl _, hid rfl, hid Inv.zero, HD3, hid (fun k e => by cases e), HB3⟩
    case round =>
      obtain ⟨i, n, cm, wt, d, f, L, A, c, hil, rfl, rfl, rfl, hni, hci, HM, HI, HD, HO, HW⟩ := hrel
      by_cases hlt : i < l.length
      · obtain ⟨ad, rfl, hbl, k0, k1, k2, k3, k4⟩ := (H.out.below HW.out).at i hlt
        obtain ⟨p, hp⟩ : ∃ p, l[i] = p := ⟨_, rfl⟩
        rw [hp] at k0 k1 k2 k3 k4
        have hpm : p ∈ l := hp ▸ List.getElem_mem hlt
        have hpi := (H.out.inp p hpm).below HW.out
        have hpq := H.out.q p hpm
        clear hp hpm
        obtain ⟨out, q, s, u, B, x, kk⟩ := p
        dsimp only at k0 k1 k2 k3 k4 hpi hpq
        have HPI := hid hpi
        have HPQ := hid hpq
        clear hpi hpq
        obtain ⟨W, hW⟩ : ∃ W, W = wr.alloc (.cells #[.bool out, .int .u16 q, .int .i64 s, .bool u, .slice B x.length kk] 56) := ⟨_, rfl⟩
        have HB4 : Hid (Below wr.heap.size wr W) := hid (by rw [hW]; exact below_alloc (Below.refl _ _) _)
        have hbx : W.heap[wr.heap.size]? = some (.cells #[.bool out, .int .u16 q, .int .i64 s, .bool u, .slice B x.length kk] 56) := by rw [hW]; exact box_new _ _ rfl
        have HBX := hid hbx
        have HWW := hid hW
        have HWr := hid (below_step HW.out HB4.out)
        have HD4 := hid (HD.out.below HB4.out)
        clear hbx hW
        go_upto_region 10 with fail
        rw [← HWW.out]
        obtain ⟨x0, _⟩ := box_at HBX.out 0
        cases out with
        | true =>
          have hwt : wt ≤ 60 := by have := HM.out; omega
          cases L with
          | nil =>
            go_wp2_with (go_at_call 21; go_must (refine (pop_none W bp mb n d f A c HD4.out).mono ?_; rintro e w5 ⟨rfl, hb5⟩; have HB5 := hid hb5; clear hb5))
            go_roundw
            case rel => exact ⟨i + 1, n, cm, wt, d, f, [], A, c, by omega, by go_num, rfl, rfl, by omega, by omega, HM, HI, hid ((HD4.out.below HB5.out).below (below_alloc (Below.refl _ _) _)), HO, hid (below_step (below_step HWr.out HB5.out) (below_alloc (Below.refl _ _) _))⟩
            case measure => simp [numV]; omega
          | cons m0 L =>
            go_wp2_with (go_at_call 21; go_must (refine (pop_some W bp mb n d f m0 L A c HD4.out).mono ?_; rintro e w5 ⟨A5, c5, rfl, hd5, hm5, hba5, ho5⟩; have HD5 := hid hd5; have HB5 : Hid (Below w.heap.size w w5) := hid (below_mv HWr.out hm5 HBP.out.1 HBP.out.2 (fun k e => by cases e)); have HO5 : Hid (Own0 w (blk A5)) := hid (by rw [hba5]; exact HO.out); clear hd5 hm5 hba5 ho5))
            have hmany : many (popD d) + (wt + 1) = cm := by
              have h1 := HM.out
              have h2 := HD.out.rdl
              unfold many popD at *
              simp only [List.length_cons, List.length_tail] at *
              omega
            have HMN := hid hmany
            clear hmany
            go_roundw
            case rel => exact ⟨i + 1, n, cm, wt + 1, popD d, f, L, A5, c5, by omega, by go_num, rfl, by go_num, by omega, by omega, HMN, hid HI.out.pop, hid (HD5.out.below (below_alloc (Below.refl _ _) _)), HO5, hid (below_step HB5.out (below_alloc (Below.refl _ _) _))⟩
            case measure => simp [numV]; omega
        | false =>
          obtain ⟨x1, _⟩ := box_at HBX.out 1
          obtain ⟨x2, _⟩ := box_at HBX.out 2
          obtain ⟨x3, _⟩ := box_at HBX.out 3
          obtain ⟨x4, _⟩ := box_at HBX.out 4
          have hcm : cm ≤ 60 := by omega
          have hput := put_calls W bp mb n d f L A c HD4.out HI.out (by have := HM.out; omega) (by omega) ⟨s, u, B, x, kk⟩ q HPQ.out (HPI.out.txt.below HB4.out) HPI.out.nil
          rw [show (Mg.mk s u B x kk).cm = ⟨s, u, x⟩ from rfl] at hput
          obtain ⟨d', k, hpd⟩ : ∃ d' k, putD d ⟨s, u, x⟩ q = (d', k) := ⟨_, _, rfl⟩
          by_cases her : mayD d ⟨s, u, x⟩ q = 0
          · have hmy := many_put her
            have hu1 : u = true → k = 1 := fun hu => by
              unfold putD at hpd
              rw [if_neg (by simpa using her), if_pos hu] at hpd
              exact (Prod.mk.inj hpd).2.symm
            have hip := HI.out.put (m := ⟨s, u, x⟩) HPQ.out
            rw [hpd] at hput hmy hip
            rw [her, show errV 0 = .nilIface from rfl] at hput
            dsimp only at hput hmy hip
            have HPUT := hid hput
            have HMY := hid hmy
            have HIP := hid hip
            have hrw : d'.rd.length + d'.ws.length + wt = cm + 1 := by
              have := HM.out
              unfold many at hmy this
              omega
            have HRW := hid hrw
            have hml : many d' ≤ 100 := by have := HM.out; omega
            have HU1 := hid hu1
            clear her hmy hip hput hpd hrw hu1
            go_upto_region 15 with (go_at_call 22; go_must (refine HPUT.out.mono ?_; rintro e w5 ⟨n5, f5, L5, A5, c5, rfl, hd5, hn5, hm5, hw5⟩; have HD5 := hid hd5; have HB5 : Hid (Below w.heap.size w w5) := hid (below_mv HWr.out hm5 HBP.out.1 HBP.out.2 HO.out); have HO5 : Hid (Own0 w (blk A5)) := hid (HO.out.nw hw5 HWr.out.size); have hbx5 := HD.out.box_mv (Nat.le_refl _) hm5 HBX.out; have HBX5 := hid hbx5; clear hd5 hm5 hw5 hbx5))
            clear x0 x1 x2 x3 x4
            obtain ⟨x3, _⟩ := box_at HBX5.out 3
            have hwtb : wt ≤ 60 := by have := HM.out; omega
            have hk1 : u = true → ((k : Int) != 1) = false := fun hu => by simp [HU1.out hu]
            have HK1 := hid hk1
            clear hk1
            cases u with
            | true =>
              have hk2 := HK1.out rfl
              go_wp2_with (first
              | (go_at_call 23; go_must (refine (ready_calls w5 bp mb n5 d' f5 L5 A5 c5 HD5.out HIP.out.rdg (by unfold many at hml; omega)).mono ?_; rintro e w6 ⟨A6, c6, L6, rfl, hc6, hb6⟩; have hl6 : L6.length = d'.rd.length := hc6.len; have HL6 := hid hl6; have HB6 := hid hb6; clear hc6 hb6 hl6))
              | (go_at_call 24; go_must (refine (waiting_calls w6 bp mb n5 d' f5 L5 A5 c5 (HD5.out.below HB6.out) HIP.out (by unfold many at hml; omega)).mono ?_; rintro e w7 ⟨A7, c7, L7, rfl, hc7, hb7⟩; have hl7 : L7.length = d'.ws.length := hc7.len; have HB7 := hid (below_step HB6.out hb7); have hsum : ((L6.length : Int) + (L7.length : Int) + (wt : Int) != (cm : Int) + 1) = false := (by have h1 := HL6.out; have h2 := HRW.out; simp; omega); have hb1 : L6.length ≤ 100 := (by have h1 := HL6.out; unfold many at hml; omega); have hb2 : L7.length ≤ 100 := (by unfold many at hml; omega); clear hc7 hb7 hl7)))
              go_roundw
              case rel => exact ⟨i + 1, n5, cm + 1, wt, d', f5, L5, A5, c5, by omega, by go_num, by go_num, rfl, by omega, by omega, hid (by have := HRW.out; unfold many; omega), HIP, hid (HD5.out.below HB7.out), HO5, hid (below_step HB5.out HB7.out)⟩
              case measure => simp [numV]; omega
            | false =>
              go_wp2_with (first
              | (go_at_call 23; go_must (refine (ready_calls w5 bp mb n5 d' f5 L5 A5 c5 HD5.out HIP.out.rdg (by unfold many at hml; omega)).mono ?_; rintro e w6 ⟨A6, c6, L6, rfl, hc6, hb6⟩; have hl6 : L6.length = d'.rd.length := hc6.len; have HL6 := hid hl6; have HB6 := hid hb6; clear hc6 hb6 hl6))
              | (go_at_call 24; go_must (refine (waiting_calls w6 bp mb n5 d' f5 L5 A5 c5 (HD5.out.below HB6.out) HIP.out (by unfold many at hml; omega)).mono ?_; rintro e w7 ⟨A7, c7, L7, rfl, hc7, hb7⟩; have hl7 : L7.length = d'.ws.length := hc7.len; have HB7 := hid (below_step HB6.out hb7); have hsum : ((L6.length : Int) + (L7.length : Int) + (wt : Int) != (cm : Int) + 1) = false := (by have h1 := HL6.out; have h2 := HRW.out; simp; omega); have hb1 : L6.length ≤ 100 := (by have h1 := HL6.out; unfold many at hml; omega); have hb2 : L7.length ≤ 100 := (by unfold many at hml; omega); clear hc7 hb7 hl7)))
              go_roundw
              case rel => exact ⟨i + 1, n5, cm + 1, wt, d', f5, L5, A5, c5, by omega, by go_num, by go_num, rfl, by omega, by omega, hid (by have := HRW.out; unfold many; omega), HIP, hid (HD5.out.below HB7.out), HO5, hid (below_step HB5.out HB7.out)⟩
              case measure => simp [numV]; omega
          · have hpb := put_bad (m := ⟨s, u, x⟩) (q := q) (d := d) her
            rw [hpb, errV_ne her] at hput
            dsimp only at hput
            have HPUT := hid hput
            have hml : many d ≤ 100 := by have := HM.out; omega
            have hwtb : wt ≤ 60 := by have := HM.out; omega
            clear hput hpb hpd
            generalize mayD d ⟨s, u, x⟩ q = er at her HPUT
            go_wp2_with (first
              | (go_at_call 22; go_must (refine HPUT.out.mono ?_; rintro e w5 ⟨n5, f5, L5, A5, c5, rfl, hd5, hn5, hm5, hw5⟩; have HD5 := hid hd5; have HB5 : Hid (Below w.heap.size w w5) := hid (below_mv HWr.out hm5 HBP.out.1 HBP.out.2 HO.out); have HO5 : Hid (Own0 w (blk A5)) := hid (HO.out.nw hw5 HWr.out.size); clear hd5 hm5 hw5))
              | (go_at_call 23; go_must (refine (ready_calls w5 bp mb n5 d f5 L5 A5 c5 HD5.out HI.out.rdg (by unfold many at hml; omega)).mono ?_; rintro e w6 ⟨A6, c6, L6, rfl, hc6, hb6⟩; have hl6 : L6.length = d.rd.length := hc6.len; have HL6 := hid hl6; have HB6 := hid hb6; clear hc6 hb6 hl6))
              | (go_at_call 24; go_must (refine (waiting_calls w6 bp mb n5 d f5 L5 A5 c5 (HD5.out.below HB6.out) HI.out (by unfold many at hml; omega)).mono ?_; rintro e w7 ⟨A7, c7, L7, rfl, hc7, hb7⟩; have hl7 : L7.length = d.ws.length := hc7.len; have HB7 := hid (below_step HB6.out hb7); have hsum : ((L6.length : Int) + (L7.length : Int) + (wt : Int) != (cm : Int)) = false := (by have h1 := HL6.out; have h2 := HM.out; unfold many at h2; simp; omega); have hb1 : L6.length ≤ 100 := (by have h1 := HL6.out; unfold many at hml; omega); have hb2 : L7.length ≤ 100 := (by unfold many at hml; omega); clear hc7 hb7 hl7)))
            go_roundw
            case rel => exact ⟨i + 1, n5, cm, wt, d, f5, L5, A5, c5, by omega, by go_num, rfl, rfl, by omega, by omega, HM, HI, hid (HD5.out.below HB7.out), HO5, hid (below_step HB5.out HB7.out)⟩
            case measure => simp [numV]; omega
      · obtain rfl : i = l.length := by omega
        go_wp2
        go_ret
        exact ⟨rfl, HW.out⟩
end Go.Proofs.Ythoammfpjheodaa.Or
