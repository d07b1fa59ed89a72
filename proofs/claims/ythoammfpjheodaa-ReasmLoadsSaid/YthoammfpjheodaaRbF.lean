import Derived.Test.YthoammfpjheodaaRbE
namespace Go.Proofs.Ythoammfpjheodaa.Rz
open Go.ChangeShapes Go.WideShapes Go.ChangeAt Go.RowKit Go.Shelf MK Go.Joins
open Base (hid cell_new1 cell_old1 froz_new1 froz_old1)
attribute [local go_sem] Oper.semAt_some
set_option linter.unusedVariables false
set_option linter.unusedSimpArgs false
set_option maxRecDepth 100000
/-! Load, whole -/
theorem errV_ne (n : Int) (h : n ≠ 0) : errV n = .iface 81 (.int .i64 n) := if_neg h
/-- Whether a bench is loaded. -/
def loadP (l : List Pm) : Bool := ((List.range l.length).all fun i => (l[i]?.map fun p => decide (mayE (l.take i) p = 0)).getD true) && !(l.any fun p => closed (rpart l p))
theorem loadP_no {l : List Pm} {i : Nat} (hi : i < l.length) (h : mayE (l.take i) l[i] ≠ 0) : loadP l = false := by
  unfold loadP
  rw [Bool.and_eq_false_iff]
  left
  rw [List.all_eq_false]
  exact ⟨i, List.mem_range.2 hi, by rw [List.getElem?_eq_getElem hi]; simp [h]⟩
theorem loadP_yes {l : List Pm} (h : ∀ i (hi : i < l.length), mayE (l.take i) l[i] = 0) : loadP l = !(l.any fun p => closed (rpart l p)) := by
  unfold loadP
  rw [List.all_eq_true.2, Bool.true_and]
  intro i hi
  have hi := List.mem_range.1 hi
  rw [List.getElem?_eq_getElem hi]
  simpa using h i hi
theorem contains_calls (w : World) (bp mb n pc : Nat) (m : List Pm) (A : Option Addr) (c : Nat) (l : List Pm) (h : Bn w bp mb n m) (hpc : w.cell? ⟨pc, 0, none⟩ = some (.pointer (some ⟨bp, 0, none⟩))) (hl : InR w A c l) (hs : Sim m l) (hm : m.length ≤ 1000) :
    Calls Try.prog 84 #[.slice A l.length c, .func (.func 85) #[] #[.pointer (some ⟨pc, 0, none⟩)]] w fun e w' => e = .returned (.bool (l.any (fun p => closed (rpart l p)))) ∧ Below w.heap.size w w' := by
  have hi := index_calls w bp mb n pc m A c l h hpc hl hs hm
  have HI := hid hi
  clear h hpc hl hs hi
  go_enter Try.func84, Try.ntmps84
  go_wp2_with (go_at_call 111; go_must (refine HI.out.mono ?_; rintro e w1 ⟨k, rfl, hk, hb⟩; have HB := hid hb; have HK := hid hk; clear hb hk))
  go_ret
  exact ⟨by rw [← HK.out]; rfl, HB.out⟩
/-- What Load answers. -/
def LoadPost (w : World) (l : List Pm) (e : Ending) (w' : World) : Prop :=
  (loadP l = false ∧ e = .returned (.tuple #[.pointer none, .iface 81 (.int .i64 2)])) ∨
  (loadP l = true ∧ ∃ bp mb n m, e = .returned (.tuple #[.pointer (some ⟨bp, 0, none⟩), .nilIface]) ∧ Bn w' bp mb n m ∧ n ≤ l.length ∧ Sim m l ∧ w.heap.size ≤ bp ∧ w.heap.size ≤ mb ∧ held m ≤ 2000 ∧ (∀ p ∈ m, 1 ≤ p.x.length ∧ p.x.length ≤ 64) ∧ (∀ p ∈ m, ∀ ad, p.A = some ad → w.heap.size ≤ ad.block))
set_option maxHeartbeats 4000000 in
theorem load_calls (w : World) (A : Option Addr) (c : Nat) (l : List Pm) (h : InR w A c l) (hm : l.length ≤ 900) (hx : ∀ p ∈ l, p.x.length ≤ 1000000) :
    Calls Try.prog 39 #[.slice A l.length c] w fun e w' => Below w.heap.size w w' ∧ LoadPost w l e w' := by
  have H := hid h
  have HX := hid hx
  clear h hx
  go_enter Try.func39, Try.ntmps39
  go_upto_block 0 with (go_at_call 13; go_must (refine (new_calls w).mono ?_; rintro e w1 ⟨bp, mb, rfl, hb, hbp, hmb, hB⟩; have HB1 := hid hb; have HB2 := hid hB; clear hb hB))
  have hz1 := HB2.out.size
  obtain ⟨w2, hw2⟩ : ∃ w2, w2 = w1.alloc (.cells #[.pointer (some ⟨bp, 0, none⟩)] 41) := ⟨_, rfl⟩
  have hb2 : Below w1.heap.size w1 w2 := by rw [hw2]; exact below_alloc (Below.refl _ _) _
  have hz2 : w2.heap.size = w1.heap.size + 1 := by rw [hw2]; simp
  have hpc : w2.cell? ⟨w1.heap.size, 0, none⟩ = some (.pointer (some ⟨bp, 0, none⟩)) := by rw [hw2]; exact cell_new1 _ _ _ _ rfl 0
  have hbl := HB1.out.lt
  have HBN2 := hid (HB1.out.below hb2)
  have HPC := hid hpc
  have HB02 : Hid (Below w.heap.size w w2) := hid (below_step HB2.out hb2)
  have HW2 := hid hw2
  have HERR : Hid (∀ X, loadP l = false → LoadPost w l (.returned (.tuple #[.pointer none, .iface 81 (.int .i64 2)])) X) := hid fun X h => .inl ⟨h, rfl⟩
  clear hb2 hw2 hpc
  rw [← HW2.out]
  go_cut [11] (fun v11 wx => Hid (∃ n m, Bn wx bp mb n m ∧ n ≤ l.length ∧ m.length ≤ l.length ∧ Sim m l ∧ (∀ j (hj : j < l.length), mayE (l.take j) l[j] = 0) ∧ held m ≤ 2000 ∧ (∀ p ∈ m, 1 ≤ p.x.length ∧ p.x.length ≤ 64) ∧ (∀ p ∈ m, ∀ ad, p.A = some ad → w.heap.size ≤ ad.block) ∧ Mv w2 wx bp mb))
  case first =>
    go_wp2_with fail
    go_loopw [11] (fun v11 wr => ∃ (i n : Nat) (m : List Pm), i ≤ l.length ∧ v11 = .int .i64 i ∧ n ≤ i ∧ m.length ≤ i ∧ Hid (Bn wr bp mb n m) ∧ Hid (Sim m (l.take i)) ∧ Hid (∀ j (hj : j < l.length), j < i → mayE (l.take j) l[j] = 0) ∧ Hid (held m ≤ 2000) ∧ Hid (∀ p ∈ m, 1 ≤ p.x.length ∧ p.x.length ≤ 64) ∧ Hid (∀ p ∈ m, ∀ ad, p.A = some ad → w.heap.size ≤ ad.block) ∧ Hid (Mv w2 wr bp mb)) (fun v11 _ => l.length - numV v11)
    case atStart => exact ⟨0, 0, [], Nat.zero_le _, rfl, Nat.le_refl _, Nat.le_refl _, HBN2, hid rfl, hid (fun j hj h => absurd h (Nat.not_lt_zero _)), hid (Nat.zero_le _), hid (fun p hp => by cases hp), hid (fun p hp => by cases hp), hid (Mv.of_below (Below.refl _ _))⟩
    case round =>
      obtain ⟨i, n, m, hil, rfl, hni, hmi, HB, HS, HJ, HH, HM64, HFR, HMW⟩ := hrel
      have hzr := HMW.out.size
      have hb0r : Below w.heap.size w wr := Mv.below HB02.out HMW.out hbp hmb HB02.out.size
      by_cases hlt : i < l.length
      · obtain ⟨p, hp⟩ : ∃ p, l[i] = p := ⟨_, rfl⟩
        have HIr := hid (H.out.below hb0r)
        obtain ⟨ad, rfl, hbl', k0, k1, k2, k3, k4, k5, k6⟩ := HIr.out.at i hlt
        rw [hp] at k0 k1 k2 k3 k4 k5 k6
        have hlen := HIr.out.len
        have hpm : p ∈ l := by rw [← hp]; exact List.getElem_mem hlt
        have hpi : Inp wr p := HIr.out.inp p hpm
        have hpx := HX.out p hpm
        obtain ⟨w3, hw3⟩ : ∃ w3, w3 = wr.alloc (.cells #[.int .u32 p.t, .int .u16 p.s, .int .u16 p.q, .bool p.b, .bool p.e, .bool p.u, .slice p.A p.x.length p.c] 40) := ⟨_, rfl⟩
        have hb3 : Below wr.heap.size wr w3 := by rw [hw3]; exact below_alloc (Below.refl _ _) _
        have hz3 : w3.heap.size = wr.heap.size + 1 := by rw [hw3]; simp
        have hbx : Box w3 wr.heap.size p := by rw [hw3]; exact Box.new wr p
        have hpcr : wr.cell? ⟨w1.heap.size, 0, none⟩ = some (.pointer (some ⟨bp, 0, none⟩)) := (World.cell?_of_block (w := w2) (a := ⟨w1.heap.size, 0, none⟩) (HMW.out.block w1.heap.size (by omega) (by omega) (by omega))).trans HPC.out
        have hpc3 : w3.cell? ⟨w1.heap.size, 0, none⟩ = some (.pointer (some ⟨bp, 0, none⟩)) := (hb3.cell (p := ⟨w1.heap.size, 0, none⟩) (by show w1.heap.size < _; omega)).trans hpcr
        have hmay := may_calls w3 bp mb n m p (HB.out.below hb3) hpi.u hpx (by have := HH.out; omega)
        rw [mayE_sim HS.out rfl] at hmay
        have HP := hid hp
        have HPI := hid hpi
        have HMAY := hid hmay
        have HB3 := hid hb3
        have HBX := hid hbx
        have HW3 := hid hw3
        have HPC3 := hid hpc3
        have HB0r := hid hb0r
        clear hp hpi hmay hb3 hbx hw3 hpcr hpc3 hb0r hpm
        have HV : Hid (p.val = .agg #[.int .u32 p.t, .int .u16 p.s, .int .u16 p.q, .bool p.b, .bool p.e, .bool p.u, .slice p.A p.x.length p.c]) := hid rfl
        by_cases hme : mayE (l.take i) p = 0
        · have hme2 : mayE m p = 0 := by rw [mayE_sim HS.out rfl]; exact hme
          obtain ⟨hr1, hr2, hr3⟩ := may_zero hme2
          rw [hme] at HMAY
          have HMAY2 : Hid (Calls Try.prog 47 #[.pointer (some ⟨bp, 0, none⟩), p.val] w3 fun e w' => e = .returned .nilIface ∧ Below w3.heap.size w3 w') := HMAY
          have HJ2 : Hid (∀ j (hj : j < l.length), j < i + 1 → mayE (l.take j) l[j] = 0) := hid (fun j hj hji => by
            rcases Nat.lt_or_ge j i with h' | h'
            · exact HJ.out j hj h'
            · obtain rfl : j = i := by omega
              rw [HP.out]
              exact hme)
          have HR := hid (And.intro hr1 (And.intro hr2 hr3))
          clear hme hme2 hr1 hr2 hr3
          go_upto_region 5 with fail
          rw [← HW3.out]
          clear k0 k1 k2 k3 k4 k5 k6
          obtain ⟨x0, x1, x2, x3, x4, x5, x6, xf⟩ := HBX.out
          have hpc3 := HPC3.out
          go_upto_region 8 with (go_at_call 47; rw [← HV.out]; go_must (refine HMAY2.out.mono ?_; rintro e w4 ⟨rfl, hb4⟩; have HB4 := hid hb4; clear hb4))
          obtain ⟨x0, x1, x2, x3, x4, x5, x6, xf⟩ := HBX.out.below HB4.out
          have hpc4 : w4.cell? ⟨w1.heap.size, 0, none⟩ = some (.pointer (some ⟨bp, 0, none⟩)) := (HB4.out.cell (p := ⟨w1.heap.size, 0, none⟩) (by show w1.heap.size < _; omega)).trans hpc3
          have hb34 : Below wr.heap.size wr w4 := below_step HB3.out HB4.out
          have hlay := lay_calls w4 bp mb n m p (HB.out.below hb34) (by omega) ((HPI.out.ok hpx).below hb34) HR.out.2.1 (by have := HH.out; omega)
          have HLAY := hid hlay
          have HB34 := hid hb34
          clear hlay hb34
          go_wp2_with (go_at_call 48; rw [← HV.out]; go_must (refine HLAY.out.mono ?_; rintro e w5 ⟨v, A', c', rfl, hb5, hm5, ho5⟩; have HB5 := hid hb5; have HM5 := hid hm5; have HO5 := hid ho5; clear hb5 hm5 ho5))
          have hmv : Mv w2 w5 bp mb := (HMW.out.below2 HB34.out).trans HM5.out
          have htk : l.take (i + 1) = l.take i ++ [p] := by rw [List.take_succ_eq_append_getElem hlt, HP.out]
          have hs5 : Sim (m ++ [{ p with A := A', c := c' }]) (l.take (i + 1)) := by rw [htk]; exact HS.out.app rfl
          have hh5 : held (m ++ [{ p with A := A', c := c' }]) ≤ 2000 := by rw [held_app]; exact HR.out.2.2
          have h64 : ∀ q ∈ m ++ [{ p with A := A', c := c' }], 1 ≤ q.x.length ∧ q.x.length ≤ 64 := fun q hq => by
            rcases List.mem_append.1 hq with hq | hq
            · exact HM64.out q hq
            · rw [List.mem_singleton.1 hq]
              have := HR.out.1
              unfold rightP at this
              simp only [Bool.and_eq_true, decide_eq_true_eq] at this
              exact this.1
          have hfr5 : ∀ q ∈ m ++ [{ p with A := A', c := c' }], ∀ ad, q.A = some ad → w.heap.size ≤ ad.block := fun q hq ad e => by
            rcases List.mem_append.1 hq with hq | hq
            · exact HFR.out q hq ad e
            · rw [List.mem_singleton.1 hq] at e
              have ho := HO5.out
              rw [show A' = some ad from e] at ho
              have := (own_addr ho).1
              have := HB34.out.size
              have := HB0r.out.size
              omega
          have HMV := hid hmv
          have HS5 := hid hs5
          have HH5 := hid hh5
          have H64 := hid h64
          have HFR5 := hid hfr5
          clear hmv htk hs5 hh5 h64 hfr5
          go_wp2
          go_roundw
          case rel => exact ⟨i + 1, n + 1, _, by omega, by simp, by omega, by simp; omega, HB5, HS5, HJ2, HH5, H64, HFR5, HMV⟩
          case measure => simp [numV]; omega
        · have hno := loadP_no hlt (by rw [HP.out]; exact hme)
          rw [errV_ne _ hme] at HMAY
          have HE := hid (HERR.out wr hno)
          have HNO := hid hno
          clear hno hme
          go_upto_region 5 with fail
          rw [← HW3.out]
          clear k0 k1 k2 k3 k4 k5 k6
          obtain ⟨x0, x1, x2, x3, x4, x5, x6, xf⟩ := HBX.out
          have hpc3 := HPC3.out
          go_wp2_with (go_at_call 47; rw [← HV.out]; go_must (refine HMAY.out.mono ?_; rintro e w4 ⟨rfl, hb4⟩; have HB4 := hid hb4; clear hb4))
          go_ret2
          exact ⟨below_step HB0r.out (below_step HB3.out HB4.out), .inl ⟨HNO.out, rfl⟩⟩
      · obtain rfl : i = l.length := by omega
        have hs := HS.out
        rw [List.take_length] at hs
        have HSS := hid hs
        clear hs hb0r
        go_wp2
        go_meet
        case rel => exact hid ⟨n, m, HB.out, hni, hmi, HSS.out, fun j hj => HJ.out j hj hj, HH.out, HM64.out, HFR.out, HMW.out⟩
  case rest =>
    obtain ⟨n, m, hB, hn, hmm, hs, hj, hh, h64, hfr, hmv⟩ := hcut.out
    have hb0c : Below w.heap.size w wc := Mv.below HB02.out hmv hbp hmb HB02.out.size
    have hpcc : wc.cell? ⟨w1.heap.size, 0, none⟩ = some (.pointer (some ⟨bp, 0, none⟩)) := (World.cell?_of_block (w := w2) (a := ⟨w1.heap.size, 0, none⟩) (hmv.block w1.heap.size (by omega) (by omega) (by omega))).trans HPC.out
    have hy := loadP_yes hj
    have hcc := contains_calls wc bp mb n w1.heap.size m A c l hB hpcc (H.out.below hb0c) hs (by omega)
    have HALL := hid (And.intro hB (And.intro hn (And.intro hs (And.intro hh (And.intro h64 hfr)))))
    have HB0C := hid hb0c
    clear hcut hB hs hj hh h64 hfr hmv hb0c
    cases hcl : l.any (fun p => closed (rpart l p)) with
    | true =>
      rw [hcl] at hcc hy
      have HCC := hid hcc
      have HY := hid hy
      clear hcc hy hcl
      go_wp2_with (go_at_call 84; go_must (refine HCC.out.mono ?_; rintro e w4 ⟨rfl, hb4⟩; have HB4 := hid hb4; clear hb4))
      go_ret2
      exact ⟨below_step HB0C.out HB4.out, .inl ⟨HY.out, rfl⟩⟩
    | false =>
      rw [hcl] at hcc hy
      have HCC := hid hcc
      have HY := hid hy
      have hcl1 : w1.heap.size < wc.heap.size := lt_of_cell hpcc
      clear hcc hy hcl
      go_wp2_with (go_at_call 84; go_must (refine HCC.out.mono ?_; rintro e w4 ⟨rfl, hb4⟩; have HB4 := hid hb4; have hpc4 : w4.cell? ⟨w1.heap.size, 0, none⟩ = some (.pointer (some ⟨bp, 0, none⟩)) := (hb4.cell (p := ⟨w1.heap.size, 0, none⟩) hcl1).trans hpcc; clear hb4))
      go_ret2
      obtain ⟨a1, a2, a3, a4, a5, a6⟩ := HALL.out
      exact ⟨below_step HB0C.out HB4.out, .inr ⟨HY.out, bp, mb, n, m, rfl, a1.below HB4.out, a2, a3, hbp, hmb, a4, a5, a6⟩⟩
end Go.Proofs.Ythoammfpjheodaa.Rz
