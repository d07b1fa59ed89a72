import Derived.Test.YtidbkkebkgeioaaSd
namespace Go.Proofs.Ytidbkkebkgeioaa.Sl
open Go.ChangeShapes Go.WideShapes Go.ChangeAt Go.RowKit Go.Shelf Go.Sort
open Base (hid cell_new1 cell_old1 froz_new1 froz_old1)
open TmA (own_some)
attribute [local go_sem] Oper.semAt_some
set_option linter.unusedVariables false
set_option linter.unusedSimpArgs false
set_option maxRecDepth 100000
theorem info3 : (Try.prog.info? 3).map (fun i => (i.zero, i.size, i.bytes)) = some (some (.int .i64 0), 1, 8) := by kernel_rfl
theorem own_base {w : World} {B : Nat} {e : TypeId} {size : Nat} {v : Value} {n : Nat} {xs : List Value} (h : w.ownsRow B e size v n xs) {k : Nat} (hk : v.ownBlock = some k) : B ≤ k ∧ k < w.heap.size := by
  rcases h.2 with ⟨rfl, _⟩ | ⟨g, cap, cur, rfl, hb, hg, _⟩
  · simp [Value.ownBlock] at hk
  · simp [Value.ownBlock] at hk
    subst hk
    exact ⟨hb, (Array.getElem?_eq_some_iff.1 hg).1⟩
theorem below_own {B : Nat} {w wr w2 : World} {e : TypeId} {size : Nat} {v : Value} {n : Nat} {xs : List Value} (o : Obj) (hb : Below B w wr) (hB : B ≤ wr.heap.size) (ho : wr.ownsRow B e size v n xs) (hg : (wr.alloc o).grownBy w2 v.ownBlock) : Below B w w2 :=
  (hb.alloc hB o).grown hg (by simp; omega) (fun k e => (own_base ho e).1)
theorem news1 (w : World) (x : Int) : ∀ j u, [Value.int .i64 x][j]? = some u → (w.alloc (.cells #[.int .i64 x] 3)).cell? ((⟨w.heap.size, 0, none⟩ : Addr).add j) = some u := by
  intro j u hj
  rw [TmA.add0, cell_new1 _ _ _ _ rfl]
  simpa using hj
theorem rstep_len (f x : Int) (s : Bool × List Int) (y : Int) : (rstep f x s y).2.length + (if s.1 then 1 else 0) ≤ s.2.length + 1 + (if (rstep f x s y).1 then 1 else 0) := by
  unfold rstep
  obtain ⟨b, acc⟩ := s
  cases b <;> by_cases h : far f x ≤ far f y <;> by_cases e : y = x <;> simp [h, e]
theorem cell_at {w : World} {B : Nat} {A : Option Addr} {n c : Nat} {xs : List Int} (h : w.ownsRow B 3 1 (.slice A n c) n (xs.map (.int .i64))) (hn : n = xs.length) (i : Nat) (hi : i < xs.length) : ∃ g, A = some ⟨g, 0, none⟩ ∧ w.cell? ⟨g, i, none⟩ = some (.int .i64 xs[i]) := by
  obtain ⟨g, c', e, _⟩ := own_some h (by omega)
  simp only [Value.slice.injEq] at e
  obtain ⟨rfl, _, _⟩ := e
  refine ⟨g, rfl, ?_⟩
  have := h.cells (g := g) rfl i (.int .i64 xs[i]) (by simp [hi])
  rw [TmA.add0] at this
  exact this
set_option maxHeartbeats 16000000 in
theorem rsort_calls (f : Int) (A : Option Addr) (c B : Nat) (l : List Int) (w : World) (hf : U f) (hu : ∀ x ∈ l, U x) (hl : l.length ≤ 1000) (h : w.ownsRow B 3 1 (.slice A l.length c) l.length (l.map (.int .i64))) :
    Calls Try.prog 14 #[.int .i64 f, .slice A l.length c, .int .i64 4294967296] w fun e w' => ∃ A' c', e = .returned (.slice A' (rsort f l).length c') ∧ w'.ownsRow w.heap.size 3 1 (.slice A' (rsort f l).length c') (rsort f l).length ((rsort f l).map (.int .i64)) ∧ Below w.heap.size w w' := by
  obtain ⟨i0, hi, hi0, hi1, hi2⟩ := info_parts info3
  have HL := hid h
  have HU := hid hu
  have HUF := hid hf
  clear h hu hf
  go_enter Try.func14, Try.ntmps14
  go_wp2
  go_loopw [7, 8] (fun v7 v8 wr => ∃ (i n : Nat) (os : List Int) (A7 : Option Addr) (c7 : Nat), i ≤ l.length ∧ v7 = .slice A7 n c7 ∧ v8 = .int .i64 i ∧ n ≤ i ∧ Hid (n = os.length) ∧ Hid (os = rsort f (l.take i)) ∧ Hid (wr.ownsRow w.heap.size 3 1 (.slice A7 n c7) n (os.map (.int .i64))) ∧ Hid (Below w.heap.size w wr)) (fun _ v8 _ => l.length - (intOf v8).toNat)
  case atStart => exact ⟨0, 0, [], none, 0, Nat.zero_le _, rfl, rfl, Nat.le_refl _, hid rfl, hid rfl, hid (World.ownsRow_nil _ _ _ _), hid (Below.refl _ _)⟩
  case round =>
    obtain ⟨i, n, os, A7, c7, hil, rfl, rfl, hni, HNO, HOS, HO7, HB⟩ := hrel
    have hsr := HB.out.size
    by_cases hlt : i < l.length
    · obtain ⟨x, hx⟩ : ∃ x, l[i] = x := ⟨_, rfl⟩
      have hux : U x := HU.out x (hx ▸ List.getElem_mem hlt)
      obtain ⟨gl, rfl, cl0⟩ := cell_at HL.out rfl i hlt
      rw [hx] at cl0
      have htl : l.take (i + 1) = l.take i ++ [x] := by rw [List.take_succ_eq_append_getElem hlt, hx]
      have huo : ∀ y ∈ os, U y := by
        intro y hy
        rw [HOS.out] at hy
        exact HU.out y (List.take_subset _ _ (((rsort_str f _ _ rfl (fun z hz => HU.out z (List.take_subset _ _ hz))).2 y).1 hy))
      have HTL := hid htl
      have HUX := hid hux
      have HUO := hid huo
      have HCL := hid cl0
      have hgl := TmA.lt_of_cell cl0
      clear hx htl hux huo cl0
      obtain ⟨W0, hW0⟩ : ∃ W0, W0 = wr := ⟨_, rfl⟩
      have hsW : w.heap.size ≤ W0.heap.size := by rw [hW0]; exact hsr
      have HO7' : Hid (W0.ownsRow w.heap.size 3 1 (.slice A7 n c7) n (os.map (.int .i64))) := by rw [hW0]; exact HO7
      have HBW : Hid (Below w.heap.size w W0) := by rw [hW0]; exact HB
      clear HO7
      rw [← hW0]
      clear hW0 HB hsr
      go_wp2
      go_loopw [9, 10, 11] (fun v9 v10 v11 wr => ∃ (k m : Nat) (s : Bool × List Int) (A9 : Option Addr) (c9 : Nat), k ≤ n ∧ v9 = .slice A9 m c9 ∧ v10 = .bool s.1 ∧ v11 = .int .i64 k ∧ Hid (m = s.2.length) ∧ m ≤ k + (if s.1 then 1 else 0) ∧ Hid (s = rfold f x (os.take k)) ∧ Hid (wr.ownsRow W0.heap.size 3 1 (.slice A9 m c9) m (s.2.map (.int .i64))) ∧ Hid (Below W0.heap.size W0 wr)) (fun _ _ v11 _ => n - (intOf v11).toNat)
      case atStart => exact ⟨0, 0, (false, []), none, 0, Nat.zero_le _, rfl, rfl, rfl, hid rfl, by simp, hid rfl, hid (World.ownsRow_nil _ _ _ _), hid (Below.refl _ _)⟩
      case round =>
        obtain ⟨k, m, ⟨b, acc⟩, A9, c9, hkn, rfl, rfl, rfl, HM, hmk, HS, HO9, HBq⟩ := hrel
        by_cases hlk : k < n
        · have hko : k < os.length := by have := HNO.out; omega
          obtain ⟨y, hy⟩ : ∃ y, os[k] = y := ⟨_, rfl⟩
          have huy : U y := HUO.out y (hy ▸ List.getElem_mem _)
          obtain ⟨go, rfl, cy0⟩ := cell_at HO7'.out HNO.out k hko
          rw [hy] at cy0
          have htk : os.take (k + 1) = os.take k ++ [y] := by rw [List.take_succ_eq_append_getElem hko, hy]
          have hgo := TmA.lt_of_cell cy0
          have HTK := hid htk
          have HUY := hid huy
          have HCY := hid cy0
          clear hy htk huy cy0
          have q0 : wr.cell? ⟨gl, i, none⟩ = some (.int .i64 x) := ((HBW.out.trans (HBq.out.mono hsW)).cell (p := ⟨gl, i, none⟩) hgl).trans HCL.out
          have q1 : wr.cell? ⟨go, k, none⟩ = some (.int .i64 y) := (HBq.out.cell (p := ⟨go, k, none⟩) hgo).trans HCY.out
          have hszwr := HBq.out.size
          cases b with
          | true =>
            dsimp only at hmk ⊢
            simp only [if_true] at hmk
            go_wp2
            go_quiet (fail)
            have ho_ := Base.ownsRow_later HO9.out (TmA.below_drewN (Below.refl _ _) nq)
            have hb_ := HBq.out.trans (It.below_drewN' _ wr nq)
            generalize wr.drewN nq = Wa at *
            have HOa := hid ho_
            have HBa := hid hb_
            clear ho_ hb_ q0 q1
            have q0 : Wa.cell? ⟨gl, i, none⟩ = some (.int .i64 x) := ((HBW.out.trans (HBa.out.mono hsW)).cell (p := ⟨gl, i, none⟩) hgl).trans HCL.out
            have q1 : Wa.cell? ⟨go, k, none⟩ = some (.int .i64 y) := (HBa.out.cell (p := ⟨go, k, none⟩) hgo).trans HCY.out
            have hszWa := HBa.out.size
            by_cases hyx : y = x
            · have hd3 : (y != x) = false := by simpa using hyx
              have HNE := hid hyx
              clear hyx
              go_wp2
              go_quiet (fail)
              go_wp2
              have ho_ := Base.ownsRow_later HOa.out (TmA.below_drewN (Below.refl _ _) nq)
              have hb_ := HBa.out.trans (It.below_drewN' _ Wa nq)
              generalize Wa.drewN nq = We at *
              have HOe := hid ho_
              have HBe := hid hb_
              clear ho_ hb_ q0 q1
              go_roundw
              case rel =>
                refine ⟨k + 1, m, (true, acc), A9, c9, by omega, by first | trivial | rfl, by first | trivial | rfl, by go_num, hid (by have := HM.out; simp at this ⊢; omega), by simp; omega, hid ?_, HOe, HBe⟩
                rw [HTK.out, rfold_snoc, ← HS.out]
                simp [rstep, HNE.out]
              case measure => simp [intOf]; omega
            · have hd3 : (y != x) = true := by simpa using hyx
              have HNE := hid hyx
              clear hyx
              go_wp2
              go_quiet (fail)
              have ho_ := Base.ownsRow_later HOa.out (TmA.below_drewN (Below.refl _ _) nq)
              have hb_ := HBa.out.trans (It.below_drewN' _ Wa nq)
              generalize Wa.drewN nq = We at *
              have HOe := hid ho_
              have HBe := hid hb_
              clear ho_ hb_ q0 q1
              have q0 : We.cell? ⟨gl, i, none⟩ = some (.int .i64 x) := ((HBW.out.trans (HBe.out.mono hsW)).cell (p := ⟨gl, i, none⟩) hgl).trans HCL.out
              have q1 : We.cell? ⟨go, k, none⟩ = some (.int .i64 y) := (HBe.out.cell (p := ⟨go, k, none⟩) hgo).trans HCY.out
              have hszWe := HBe.out.size
              go_wp2_with (at_builtin; go_must (refine wpList_append_own_at _ rfl _ _ 25 rfl W0.heap.size 3 i0 (.int .i64 0) 1 8 Try.underlying25 hi hi0 hi1 hi2 rfl (by decide) _ _ _ rfl (Base.ownsRow_later HOe.out (TmA.below_alloc (Below.refl _ _) _)) ⟨We.heap.size, 0, none⟩ 1 1 [.int .i64 y] rfl rfl ?newsza ?oneza ?c3za ?c4za ?c5za ?_))
              case newsza => exact news1 We y
              case oneza => exact fun x hx => by rw [List.mem_singleton.1 hx]; rfl
              case c3za => unfold maxLen; omega
              case c4za => omega
              case c5za => simp; omega
              intro vza Wf ownza hgza _ _
              obtain ⟨Aza, dza, rfl, _⟩ := Base.slice_of_row ownza
              have HBf := hid (below_own _ HBe.out hszWe HOe.out hgza)
              have HOf : Hid (Wf.ownsRow W0.heap.size 3 1 (.slice Aza (m + 1) dza) (m + 1) ((acc ++ [y]).map (.int .i64))) := hid (by simpa using ownza)
              clear ownza hgza q0 q1
              go_wp2
              go_roundw
              case rel =>
                refine ⟨k + 1, m + 1, (true, acc ++ [y]), Aza, dza, by omega, by first | trivial | rfl, by first | trivial | rfl, by go_num, hid (by have := HM.out; simp at this ⊢; omega), by simp; omega, hid ?_, HOf, HBf⟩
                rw [HTK.out, rfold_snoc, ← HS.out]
                simp [rstep, HNE.out]
              case measure => simp [intOf]; omega
          | false =>
            dsimp only at hmk ⊢
            simp only [if_false, Bool.false_eq_true] at hmk
            by_cases hle : far f x ≤ far f y
            · have hd1 : decide (far f x ≤ far f y) = true := by simpa using hle
              have HLE := hid hle
              clear hle
              go_wp2
              have huf_ := HUF.out
              have hux_ := HUX.out
              have huy_ := HUY.out
              go_quiet ((go_at_call 37; exact Calls.quiet_of_same ((rfar_calls _ _ (by assumption) (by assumption) _).mono fun e w' h => ⟨h.1, h.2.symm⟩)))
              clear huf_ hux_ huy_
              have ho_ := Base.ownsRow_later HO9.out (TmA.below_drewN (Below.refl _ _) nq)
              have hb_ := HBq.out.trans (It.below_drewN' _ wr nq)
              generalize wr.drewN nq = Wa at *
              have HOa := hid ho_
              have HBa := hid hb_
              clear ho_ hb_ q0 q1
              have q0 : Wa.cell? ⟨gl, i, none⟩ = some (.int .i64 x) := ((HBW.out.trans (HBa.out.mono hsW)).cell (p := ⟨gl, i, none⟩) hgl).trans HCL.out
              have q1 : Wa.cell? ⟨go, k, none⟩ = some (.int .i64 y) := (HBa.out.cell (p := ⟨go, k, none⟩) hgo).trans HCY.out
              have hszWa := HBa.out.size
              go_wp2_with (at_builtin; go_must (refine wpList_append_own_at _ rfl _ _ 25 rfl W0.heap.size 3 i0 (.int .i64 0) 1 8 Try.underlying25 hi hi0 hi1 hi2 rfl (by decide) _ _ _ rfl (Base.ownsRow_later HOa.out (TmA.below_alloc (Below.refl _ _) _)) ⟨Wa.heap.size, 0, none⟩ 1 1 [.int .i64 x] rfl rfl ?newsy ?oney ?c3y ?c4y ?c5y ?_))
              case newsy => exact news1 Wa x
              case oney => exact fun x hx => by rw [List.mem_singleton.1 hx]; rfl
              case c3y => unfold maxLen; omega
              case c4y => omega
              case c5y => simp; omega
              intro vy Wb owny hgy _ _
              obtain ⟨Ay, dy, rfl, _⟩ := Base.slice_of_row owny
              have HBb := hid (below_own _ HBa.out hszWa HOa.out hgy)
              have HOb : Hid (Wb.ownsRow W0.heap.size 3 1 (.slice Ay (m + 1) dy) (m + 1) ((acc ++ [x]).map (.int .i64))) := hid (by simpa using owny)
              clear owny hgy q0 q1
              have q0 : Wb.cell? ⟨gl, i, none⟩ = some (.int .i64 x) := ((HBW.out.trans (HBb.out.mono hsW)).cell (p := ⟨gl, i, none⟩) hgl).trans HCL.out
              have q1 : Wb.cell? ⟨go, k, none⟩ = some (.int .i64 y) := (HBb.out.cell (p := ⟨go, k, none⟩) hgo).trans HCY.out
              have hszWb := HBb.out.size
              by_cases hyx : y = x
              · have hd3 : (y != x) = false := by simpa using hyx
                have HNE := hid hyx
                clear hyx
                go_wp2
                go_quiet (fail)
                go_wp2
                have ho_ := Base.ownsRow_later HOb.out (TmA.below_drewN (Below.refl _ _) nq)
                have hb_ := HBb.out.trans (It.below_drewN' _ Wb nq)
                generalize Wb.drewN nq = We at *
                have HOe := hid ho_
                have HBe := hid hb_
                clear ho_ hb_ q0 q1
                go_roundw
                case rel =>
                  refine ⟨k + 1, (m + 1), (true, (acc ++ [x])), Ay, dy, by omega, by first | trivial | rfl, by first | trivial | rfl, by go_num, hid (by have := HM.out; simp at this ⊢; omega), by simp; omega, hid ?_, HOe, HBe⟩
                  rw [HTK.out, rfold_snoc, ← HS.out]
                  simp [rstep, HLE.out, HNE.out]
                case measure => simp [intOf]; omega
              · have hd3 : (y != x) = true := by simpa using hyx
                have HNE := hid hyx
                clear hyx
                go_wp2
                go_quiet (fail)
                have ho_ := Base.ownsRow_later HOb.out (TmA.below_drewN (Below.refl _ _) nq)
                have hb_ := HBb.out.trans (It.below_drewN' _ Wb nq)
                generalize Wb.drewN nq = We at *
                have HOe := hid ho_
                have HBe := hid hb_
                clear ho_ hb_ q0 q1
                have q0 : We.cell? ⟨gl, i, none⟩ = some (.int .i64 x) := ((HBW.out.trans (HBe.out.mono hsW)).cell (p := ⟨gl, i, none⟩) hgl).trans HCL.out
                have q1 : We.cell? ⟨go, k, none⟩ = some (.int .i64 y) := (HBe.out.cell (p := ⟨go, k, none⟩) hgo).trans HCY.out
                have hszWe := HBe.out.size
                go_wp2_with (at_builtin; go_must (refine wpList_append_own_at _ rfl _ _ 25 rfl W0.heap.size 3 i0 (.int .i64 0) 1 8 Try.underlying25 hi hi0 hi1 hi2 rfl (by decide) _ _ _ rfl (Base.ownsRow_later HOe.out (TmA.below_alloc (Below.refl _ _) _)) ⟨We.heap.size, 0, none⟩ 1 1 [.int .i64 y] rfl rfl ?newszb ?onezb ?c3zb ?c4zb ?c5zb ?_))
                case newszb => exact news1 We y
                case onezb => exact fun x hx => by rw [List.mem_singleton.1 hx]; rfl
                case c3zb => unfold maxLen; omega
                case c4zb => omega
                case c5zb => simp; omega
                intro vzb Wf ownzb hgzb _ _
                obtain ⟨Azb, dzb, rfl, _⟩ := Base.slice_of_row ownzb
                have HBf := hid (below_own _ HBe.out hszWe HOe.out hgzb)
                have HOf : Hid (Wf.ownsRow W0.heap.size 3 1 (.slice Azb ((m + 1) + 1) dzb) ((m + 1) + 1) (((acc ++ [x]) ++ [y]).map (.int .i64))) := hid (by simpa using ownzb)
                clear ownzb hgzb q0 q1
                go_wp2
                go_roundw
                case rel =>
                  refine ⟨k + 1, (m + 1) + 1, (true, (acc ++ [x]) ++ [y]), Azb, dzb, by omega, by first | trivial | rfl, by first | trivial | rfl, by go_num, hid (by have := HM.out; simp at this ⊢; omega), by simp; omega, hid ?_, HOf, HBf⟩
                  rw [HTK.out, rfold_snoc, ← HS.out]
                  simp [rstep, HLE.out, HNE.out]
                case measure => simp [intOf]; omega
            · have hd1 : decide (far f x ≤ far f y) = false := by simpa using hle
              have HLE := hid hle
              clear hle
              go_wp2
              have huf_ := HUF.out
              have hux_ := HUX.out
              have huy_ := HUY.out
              go_quiet ((go_at_call 37; exact Calls.quiet_of_same ((rfar_calls _ _ (by assumption) (by assumption) _).mono fun e w' h => ⟨h.1, h.2.symm⟩)))
              clear huf_ hux_ huy_
              have ho_ := Base.ownsRow_later HO9.out (TmA.below_drewN (Below.refl _ _) nq)
              have hb_ := HBq.out.trans (It.below_drewN' _ wr nq)
              generalize wr.drewN nq = Wa at *
              have HOa := hid ho_
              have HBa := hid hb_
              clear ho_ hb_ q0 q1
              have q0 : Wa.cell? ⟨gl, i, none⟩ = some (.int .i64 x) := ((HBW.out.trans (HBa.out.mono hsW)).cell (p := ⟨gl, i, none⟩) hgl).trans HCL.out
              have q1 : Wa.cell? ⟨go, k, none⟩ = some (.int .i64 y) := (HBa.out.cell (p := ⟨go, k, none⟩) hgo).trans HCY.out
              have hszWa := HBa.out.size
              by_cases hyx : y = x
              · have hd3 : (y != x) = false := by simpa using hyx
                have HNE := hid hyx
                clear hyx
                go_wp2
                go_quiet (fail)
                go_wp2
                have ho_ := Base.ownsRow_later HOa.out (TmA.below_drewN (Below.refl _ _) nq)
                have hb_ := HBa.out.trans (It.below_drewN' _ Wa nq)
                generalize Wa.drewN nq = We at *
                have HOe := hid ho_
                have HBe := hid hb_
                clear ho_ hb_ q0 q1
                go_roundw
                case rel =>
                  refine ⟨k + 1, m, (false, acc), A9, c9, by omega, by first | trivial | rfl, by first | trivial | rfl, by go_num, hid (by have := HM.out; simp at this ⊢; omega), by simp; omega, hid ?_, HOe, HBe⟩
                  rw [HTK.out, rfold_snoc, ← HS.out]
                  first
                    | (exfalso; have h1 := HLE.out; have h2 := HNE.out; rw [h2] at h1; omega)
                    | (simp only [rstep, Bool.not_false, Bool.true_and, decide_eq_false (show ¬ far f x ≤ far f y by have := HLE.out; omega)]; simp [HNE.out])
                case measure => simp [intOf]; omega
              · have hd3 : (y != x) = true := by simpa using hyx
                have HNE := hid hyx
                clear hyx
                go_wp2
                go_quiet (fail)
                have ho_ := Base.ownsRow_later HOa.out (TmA.below_drewN (Below.refl _ _) nq)
                have hb_ := HBa.out.trans (It.below_drewN' _ Wa nq)
                generalize Wa.drewN nq = We at *
                have HOe := hid ho_
                have HBe := hid hb_
                clear ho_ hb_ q0 q1
                have q0 : We.cell? ⟨gl, i, none⟩ = some (.int .i64 x) := ((HBW.out.trans (HBe.out.mono hsW)).cell (p := ⟨gl, i, none⟩) hgl).trans HCL.out
                have q1 : We.cell? ⟨go, k, none⟩ = some (.int .i64 y) := (HBe.out.cell (p := ⟨go, k, none⟩) hgo).trans HCY.out
                have hszWe := HBe.out.size
                go_wp2_with (at_builtin; go_must (refine wpList_append_own_at _ rfl _ _ 25 rfl W0.heap.size 3 i0 (.int .i64 0) 1 8 Try.underlying25 hi hi0 hi1 hi2 rfl (by decide) _ _ _ rfl (Base.ownsRow_later HOe.out (TmA.below_alloc (Below.refl _ _) _)) ⟨We.heap.size, 0, none⟩ 1 1 [.int .i64 y] rfl rfl ?newszc ?onezc ?c3zc ?c4zc ?c5zc ?_))
                case newszc => exact news1 We y
                case onezc => exact fun x hx => by rw [List.mem_singleton.1 hx]; rfl
                case c3zc => unfold maxLen; omega
                case c4zc => omega
                case c5zc => simp; omega
                intro vzc Wf ownzc hgzc _ _
                obtain ⟨Azc, dzc, rfl, _⟩ := Base.slice_of_row ownzc
                have HBf := hid (below_own _ HBe.out hszWe HOe.out hgzc)
                have HOf : Hid (Wf.ownsRow W0.heap.size 3 1 (.slice Azc (m + 1) dzc) (m + 1) ((acc ++ [y]).map (.int .i64))) := hid (by simpa using ownzc)
                clear ownzc hgzc q0 q1
                go_wp2
                go_roundw
                case rel =>
                  refine ⟨k + 1, m + 1, (false, acc ++ [y]), Azc, dzc, by omega, by first | trivial | rfl, by first | trivial | rfl, by go_num, hid (by have := HM.out; simp at this ⊢; omega), by simp; omega, hid ?_, HOf, HBf⟩
                  rw [HTK.out, rfold_snoc, ← HS.out]
                  first
                    | (exfalso; have h1 := HLE.out; have h2 := HNE.out; rw [h2] at h1; omega)
                    | (simp only [rstep, Bool.not_false, Bool.true_and, decide_eq_false (show ¬ far f x ≤ far f y by have := HLE.out; omega)]; simp [HNE.out])
                case measure => simp [intOf]; omega
        · have hkn2 : k = n := by omega
          have hst : rfold f x os = (b, acc) := by
            rw [HS.out, List.take_of_length_le (by have := HNO.out; omega)]
          have hro : rsort f (l.take (i + 1)) = if b then acc else acc ++ [x] := by
            rw [HTL.out, rsort_snoc, ← HOS.out]
            unfold rone
            rw [hst]
          have HRO := hid hro
          have hszr := HBq.out.size
          have q0 : wr.cell? ⟨gl, i, none⟩ = some (.int .i64 x) := ((HBW.out.trans (HBq.out.mono hsW)).cell (p := ⟨gl, i, none⟩) hgl).trans HCL.out
          have q1 := q0
          clear hst hro
          cases b with
          | true =>
            simp only [if_true] at hmk
            dsimp only
            go_wp2
            go_roundw
            case rel => exact ⟨i + 1, m, acc, A9, c9, by omega, by first | trivial | rfl, by go_num, by omega, HM, hid (by rw [HRO.out]; rfl), hid (Base.ownsRow_base HO9.out hsW), hid (HBW.out.trans (HBq.out.mono hsW))⟩
            case measure => simp [intOf]; omega
          | false =>
            simp only [if_false, Bool.false_eq_true] at hmk
            dsimp only
            have hszwr := hszr
            go_wp2_with (at_builtin; go_must (refine wpList_append_own_at _ rfl _ _ 25 rfl W0.heap.size 3 i0 (.int .i64 0) 1 8 Try.underlying25 hi hi0 hi1 hi2 rfl (by decide) _ _ _ rfl (Base.ownsRow_later HO9.out (TmA.below_alloc (Below.refl _ _) _)) ⟨wr.heap.size, 0, none⟩ 1 1 [.int .i64 x] rfl rfl ?newszg ?onezg ?c3zg ?c4zg ?c5zg ?_))
            case onezg => rfl
            case c3zg => unfold maxLen; omega
            case c4zg => omega
            case c5zg => omega
            intro vzg Wg ownzg hgzg _ _
            obtain ⟨Azg, dzg, rfl, _⟩ := Base.slice_of_row ownzg
            have HBg := hid (below_own _ HBq.out hszwr HO9.out hgzg)
            have HOg : Hid (Wg.ownsRow W0.heap.size 3 1 (.slice Azg (m + 1) dzg) (m + 1) ((acc ++ [x]).map (.int .i64))) := hid (by simpa using ownzg)
            clear ownzg hgzg q0 q1
            go_wp2
            go_roundw
            case rel => exact ⟨i + 1, m + 1, acc ++ [x], Azg, dzg, by omega, by first | trivial | rfl, by go_num, by omega, hid (by have := HM.out; simp at this ⊢; omega), hid (by rw [HRO.out]; rfl), hid (Base.ownsRow_base HOg.out hsW), hid (HBW.out.trans (HBg.out.mono hsW))⟩
            case measure => simp [intOf]; omega
    · have hil2 : i = l.length := by omega
      have hos := HOS.out
      rw [hil2, List.take_length] at hos
      have HOSF := hid hos
      clear hos
      go_wp2
      go_ret
      rw [← HOSF.out, ← HNO.out]
      exact ⟨A7, c7, rfl, HO7.out, HB.out⟩
end Go.Proofs.Ytidbkkebkgeioaa.Sl
