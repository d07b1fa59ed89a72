import Derived.Test.YthoammfpjheodaaRaZ
namespace Go.Proofs.Ythoammfpjheodaa.Rz
open Go.ChangeShapes Go.WideShapes Go.ChangeAt Go.RowKit Go.Shelf MK Go.Joins
open Base (hid cell_new1 cell_old1 froz_new1 froz_old1)
attribute [local go_sem] Oper.semAt_some
set_option linter.unusedVariables false
set_option linter.unusedSimpArgs false
set_option maxRecDepth 100000
/-! Load -/
theorem bk_more {m : List Pm} : ∀ (n : Nat) (p : Pm) (k : Nat), (bk m n p).length < n → bk m (n + k) p = bk m n p
  | 0, _, _, h => absurd h (Nat.not_lt_zero _)
  | n + 1, p, k, h => by
    rw [show n + 1 + k = (n + k) + 1 by omega]
    rw [bk] at h ⊢
    conv => rhs; rw [bk]
    split
    · rfl
    · rename_i he
      rw [if_neg he] at h
      cases ha : look m (step p.t (-1)) with
      | none => rfl
      | some a =>
        rw [ha] at h
        simp only at h ⊢
        split
        · rfl
        · rename_i hb
          rw [if_neg hb, List.length_append, List.length_singleton] at h
          rw [bk_more n a k (by omega)]
/-- The program's part of a piece that lies there is the document's. -/
theorem part_in {m : List Pm} {p p' : Pm} (hm : m.length ≤ 1000000) (hp' : p' ∈ m) (hc : core p' = core p) (hn : (keys m).Nodup) (hall : ∀ q ∈ m, U32 q.t) : Sim (part m p) (rpart m p) := by
  obtain ⟨e1, e2, e3, e4, e5, e6, e7⟩ := core_eq hc
  have hu : U32 p.t := by rw [e1]; exact hall p' hp'
  have hk : p.t ∈ keys m := List.mem_map.2 ⟨p', hp', e1.symm⟩
  obtain ⟨h0, r, hr, h1⟩ := back_bk hn m.length p p' hp' e1.symm e4.symm hu
  have hf : back m m.length p = p ∨ back m m.length p ∈ m := back_mem m m.length p
  have hfk : (back m m.length p).t ∈ keys m := by
    rcases hf with h | h
    · rw [h]; exact hk
    · exact List.mem_map.2 ⟨_, h, rfl⟩
  have hfu : U32 (back m m.length p).t := by
    rcases hf with h | h
    · rw [h]; exact hu
    · exact hall _ h
  obtain ⟨j, r', hF, hj⟩ := fwd_total (m := m) (f := back m m.length p) (by omega) m.length 0 _ _ (FwdAt.zero hfu hfk) (Nat.zero_le _) (by omega)
  have hlen := hF.len
  have h2 := h1 (m.length - (bk m m.length p).length)
  rw [show (bk m m.length p).length + (m.length - (bk m m.length p).length) = m.length by omega] at h2
  rw [h2, List.length_append, List.length_cons] at hlen
  have h3 := fwd_more (m := m) (m.length - (bk m m.length p).length) r ((bk m m.length p).length + 1) (by omega)
  rw [show m.length - (bk m m.length p).length + ((bk m m.length p).length + 1) = m.length + 1 by omega] at h3
  have h4 := bk_more (m := m) m.length p 1 (by omega)
  have hp : part m p = bk m m.length p ++ (r :: fwd m (m.length + 1) r) := by
    unfold part
    rw [h2, h3]
  have hrt : r.t = p.t ∧ r.e = p.e ∧ core r = core p := by
    rcases hr with rfl | rfl
    · exact ⟨rfl, rfl, rfl⟩
    · exact ⟨e1.symm, e5.symm, hc⟩
  rw [hp]
  unfold rpart
  rw [h4, List.append_assoc]
  refine (Sim.refl _).app ?_
  have := fwd_sim (Sim.refl m) (m.length + 1) r p hrt.1.symm hrt.2.1.symm
  unfold Sim at *
  rw [List.map_cons, List.singleton_append, List.map_cons, hrt.2.2, this]
theorem closed_in {m l : List Pm} {p : Pm} (hm : m.length ≤ 1000000) (hs : Sim m l) (hp : p ∈ l) (hn : (keys m).Nodup) (hall : ∀ q ∈ m, U32 q.t) : closed (part m p) = closed (rpart l p) := by
  obtain ⟨p', hp', e⟩ := hs.symm.mem hp
  exact closed_sim ((part_in hm hp' e.symm hn hall).trans (rpart_sim hs rfl))
theorem clo_calls (w : World) (bp mb n pc : Nat) (m : List Pm) (p : Pm) (h : Bn w bp mb n m) (hpc : w.cell? ⟨pc, 0, none⟩ = some (.pointer (some ⟨bp, 0, none⟩))) (hu : U32 p.t) (hk : p.t ∈ keys m) (hm : m.length ≤ 1000) :
    Calls Try.prog 85 #[p.val, .pointer (some ⟨pc, 0, none⟩)] w fun e w' => e = .returned (.bool (closed (part m p))) ∧ Below w.heap.size w w' := by
  have hpcl := lt_of_cell hpc
  obtain ⟨w1, hw1⟩ : ∃ w1, w1 = w.alloc (.cells #[.int .u32 p.t, .int .u16 p.s, .int .u16 p.q, .bool p.b, .bool p.e, .bool p.u, .slice p.A p.x.length p.c] 40) := ⟨_, rfl⟩
  have hb1 : Below w.heap.size w w1 := by rw [hw1]; exact below_alloc (Below.refl _ _) _
  have hbx : Box w1 w.heap.size p := by rw [hw1]; exact Box.new w p
  have hpc1 : w1.cell? ⟨pc, 0, none⟩ = some (.pointer (some ⟨bp, 0, none⟩)) := (hb1.cell (p := ⟨pc, 0, none⟩) hpcl).trans hpc
  have hpart := part_calls w1 bp mb n m p (h.below hb1) hu hk (by omega)
  have hok := (part_ok (by omega) hu hk (fun q hq => (h.ok q hq).u)).len
  have HPART := hid hpart
  have HB1 := hid hb1
  have HW1 := hid hw1
  have HV : Hid (p.val = .agg #[.int .u32 p.t, .int .u16 p.s, .int .u16 p.q, .bool p.b, .bool p.e, .bool p.u, .slice p.A p.x.length p.c]) := hid rfl
  rw [HV.out]
  obtain ⟨P, hP⟩ : ∃ P, P = part m p := ⟨_, rfl⟩
  rw [← hP] at HPART hok ⊢
  clear hpart hb1 hw1 h hP
  obtain ⟨x0, x1, x2, x3, x4, x5, x6, xf⟩ := hbx
  go_enter Try.func85, Try.ntmps85
  go_upto_region 1 with fail
  rw [← HW1.out]
  go_wp2_with (first
    | (go_at_call 49; rw [← HV.out]; go_must (refine HPART.out.mono ?_; rintro e w2 ⟨A2, c2, rfl, hr2, hb2⟩; have HR2 := hid hr2; have HB2 := hid hb2; clear hr2 hb2))
    | (go_at_call 50; go_must (refine (closed_calls w2 w1.heap.size A2 c2 P HR2.out hok.1 (by omega)).mono ?_; rintro e w' ⟨rfl, rfl⟩)))
  go_ret
  exact ⟨rfl, below_step HB1.out HB2.out⟩
set_option maxHeartbeats 2000000 in
theorem index_calls (w : World) (bp mb n pc : Nat) (m : List Pm) (A : Option Addr) (c : Nat) (l : List Pm) (h : Bn w bp mb n m) (hpc : w.cell? ⟨pc, 0, none⟩ = some (.pointer (some ⟨bp, 0, none⟩))) (hl : InR w A c l) (hs : Sim m l) (hm : m.length ≤ 1000) :
    Calls Try.prog 111 #[.slice A l.length c, .func (.func 85) #[] #[.pointer (some ⟨pc, 0, none⟩)]] w fun e w' => ∃ k : Int, e = .returned (.int .i64 k) ∧ decide (0 ≤ k) = l.any (fun p => closed (rpart l p)) ∧ Below w.heap.size w w' := by
  have H := hid h
  have HPC := hid hpc
  have HL := hid hl
  have HS := hid hs
  have hpcl := lt_of_cell hpc
  clear h hpc hl hs
  go_enter Try.func111, Try.ntmps111
  go_wp2_with fail
  go_loopw [8] (fun v8 wr => ∃ i : Nat, i ≤ l.length ∧ v8 = .int .i64 i ∧ Hid (∀ j (hj : j < l.length), j < i → closed (rpart l l[j]) = false) ∧ Hid (Below w.heap.size w wr)) (fun v8 _ => l.length - numV v8)
  case atStart => exact ⟨0, Nat.zero_le _, rfl, hid (fun j hj h => absurd h (Nat.not_lt_zero _)), hid (Below.refl _ _)⟩
  case round =>
    obtain ⟨i, hil, rfl, HJ, HW⟩ := hrel
    by_cases hlt : i < l.length
    · obtain ⟨p, hp⟩ : ∃ p, l[i] = p := ⟨_, rfl⟩
      have HIr := hid (HL.out.below HW.out)
      obtain ⟨ad, rfl, hbl, k0, k1, k2, k3, k4, k5, k6⟩ := HIr.out.at i hlt
      rw [hp] at k0 k1 k2 k3 k4 k5 k6
      have hlen := HIr.out.len
      have hpm : p ∈ l := by rw [← hp]; exact List.getElem_mem hlt
      have hk : p.t ∈ keys m := by rw [HS.out.keys]; exact List.mem_map.2 ⟨p, hpm, rfl⟩
      have hc := clo_calls wr bp mb n pc m p (H.out.below HW.out) ((HW.out.cell (p := ⟨pc, 0, none⟩) hpcl).trans HPC.out) (HL.out.inp p hpm).u hk hm
      rw [closed_in (by omega) HS.out hpm H.out.nod (fun q hq => (H.out.ok q hq).u)] at hc
      have HP := hid hp
      have HPM := hid hpm
      have HV : Hid (p.val = .agg #[.int .u32 p.t, .int .u16 p.s, .int .u16 p.q, .bool p.b, .bool p.e, .bool p.u, .slice p.A p.x.length p.c]) := hid rfl
      cases hcl : closed (rpart l p) with
      | true =>
        rw [hcl] at hc
        have HC := hid hc
        have HA : Hid (l.any (fun p => closed (rpart l p)) = true) := hid (List.any_eq_true.2 ⟨p, hpm, hcl⟩)
        clear hc hcl hp hpm hk
        go_wp2_with (go_at_call 85; rw [← HV.out]; go_must (refine HC.out.mono ?_; rintro e w2 ⟨rfl, hb2⟩; have HB2 := hid hb2; clear hb2))
        go_ret
        exact ⟨i, rfl, by rw [HA.out]; simp, below_step HW.out HB2.out⟩
      | false =>
        rw [hcl] at hc
        have HC := hid hc
        have HJ2 : Hid (∀ j (hj : j < l.length), j < i + 1 → closed (rpart l l[j]) = false) := hid (fun j hj hji => by
          rcases Nat.lt_or_ge j i with h' | h'
          · exact HJ.out j hj h'
          · obtain rfl : j = i := by omega
            rw [HP.out]
            exact hcl)
        clear hc hcl hp hpm hk
        go_wp2_with (go_at_call 85; rw [← HV.out]; go_must (refine HC.out.mono ?_; rintro e w2 ⟨rfl, hb2⟩; have HB2 := hid hb2; clear hb2))
        go_roundw
        case rel => exact ⟨i + 1, by omega, by simp, HJ2, hid (below_step HW.out HB2.out)⟩
        case measure => simp [numV]; omega
    · obtain rfl : i = l.length := by omega
      have HA : Hid (l.any (fun p => closed (rpart l p)) = false) := hid (by
        rw [List.any_eq_false]
        intro p hp
        obtain ⟨i, hi, rfl⟩ := List.getElem_of_mem hp
        rw [HJ.out i hi hi]
        decide)
      go_wp2
      go_ret
      exact ⟨-1, rfl, by rw [HA.out]; rfl, HW.out⟩
end Go.Proofs.Ythoammfpjheodaa.Rz
