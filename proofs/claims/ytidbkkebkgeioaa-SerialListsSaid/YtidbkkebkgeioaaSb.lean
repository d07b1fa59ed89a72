import Derived.Test.YtidbkkebkgeioaaSa
import Derived.Lib.SliceRun
namespace Go.Proofs.Ytidbkkebkgeioaa.Sl
open Go.ChangeShapes Go.WideShapes Go.ChangeAt Go.RowKit Go.Shelf Go.Sort
open Base (hid cell_new1 cell_old1 froz_new1 froz_old1)
attribute [local go_sem] Oper.semAt_some
set_option linter.unusedVariables false
set_option linter.unusedSimpArgs false
set_option maxRecDepth 100000
/-- A list in a block of its own. -/
structure Mem (W : World) (g cap : Nat) (ys : List Int) : Prop where
  shape : ∃ cur : Array Value, W.heap[g]? = some (.cells cur 22 (0, 0)) ∧ cur.size = cap
  cell : ∀ j (h : j < ys.length), W.cell? ⟨g, j, none⟩ = some (.int .u32 ys[j])
theorem Mem.of {W : World} {g cap B : Nat} {ys : List Int} (h : W.ownsRow B 22 1 (.slice (some ⟨g, 0, none⟩) ys.length cap) ys.length (ys.map (.int .u32))) : Mem W g cap ys ∧ B ≤ g ∧ ys.length ≤ cap ∧ cap ≤ maxLen := by
  have h0 := h
  rcases h.2 with ⟨e, _⟩ | ⟨g', cap', cur, e, hb, hg, r1, r2, r3, r4⟩
  · cases e
  · cases e
    refine ⟨⟨⟨cur, hg, by simpa using r3⟩, fun j hj => ?_⟩, hb, r1, r2⟩
    have := h0.cells (g := g) rfl j (.int .u32 ys[j]) (by simp [hj])
    rw [TmA.add0] at this
    exact this
theorem Mem.own {W : World} {g cap B : Nat} {ys : List Int} (h : Mem W g cap ys) (hB : B ≤ g) (k : Nat) (hk : k ≤ ys.length) (hc : ys.length ≤ cap) (hm : cap ≤ maxLen) : W.ownsRow B 22 1 (.slice (some ⟨g, 0, none⟩) k cap) k ((ys.take k).map (.int .u32)) := by
  obtain ⟨cur, hg, hs⟩ := h.shape
  refine ⟨by simp; omega, .inr ⟨g, cap, cur, rfl, hB, hg, by omega, hm, by simpa using hs, ?_⟩⟩
  apply List.ext_getElem?
  intro j
  by_cases hj : j < k
  · have hc' := h.cell j (by omega)
    have e : W.cell? ⟨g, j, none⟩ = cur[j]? := by simp [World.cell?, hg]
    rw [e] at hc'
    rw [List.getElem?_take_of_lt (by omega), Array.getElem?_toList, hc']
    simp [List.getElem?_take_of_lt hj, List.getElem?_eq_getElem (show j < ys.length by omega)]
  · rw [List.getElem?_eq_none (by simp; omega), List.getElem?_eq_none (by simp; omega)]
theorem Mem.frozen {W : World} {g cap : Nat} {ys : List Int} (h : Mem W g cap ys) (j : Nat) : W.frozen? ⟨g, j, none⟩ = false := by
  obtain ⟨cur, hg, hs⟩ := h.shape
  simp [World.frozen?, hg]
theorem Mem.drew {W : World} {g cap : Nat} {ys : List Int} (h : Mem W g cap ys) (q : Nat) : Mem (W.drewN q) g cap ys := ⟨h.shape, h.cell⟩
theorem shape_set {W : World} {g cap : Nat} (h : ∃ cur : Array Value, W.heap[g]? = some (.cells cur 22 (0, 0)) ∧ cur.size = cap) (j : Nat) (v : Value) : ∃ cur : Array Value, (W.setCell ⟨g, j, none⟩ v).heap[g]? = some (.cells cur 22 (0, 0)) ∧ cur.size = cap := by
  obtain ⟨cur, hg, hs⟩ := h
  refine ⟨_, by simp only [World.setCell, Array.getElem?_modify, if_pos, hg, Option.map_some]; rfl, ?_⟩
  simp [hs]
theorem Mem.set {W : World} {g cap : Nat} {ys : List Int} (h : Mem W g cap ys) (k : Nat) (hk : k < ys.length) (v : Int) : Mem (W.setCell ⟨g, k, none⟩ (.int .u32 v)) g cap (ys.set k v) := by
  refine ⟨shape_set h.shape k _, fun j hj => ?_⟩
  rw [List.length_set] at hj
  by_cases e : k = j
  · subst e
    rw [World.cell?_setCell_same _ _ _ (h.cell k hk), List.getElem_set_self]
  · rw [World.cell?_setCell_other _ _ _ _ (by simp [e]), h.cell j hj, List.getElem_set_ne e]
theorem setCells_grown (g : Nat) : ∀ (vs : List Value) (o : Nat) (W : World), W.grownBy (W.setCells g o vs) (some g)
  | [], _, W => World.grownBy.refl _ _
  | v :: vs, o, W => (show W.grownBy (W.setCell ⟨g, o, none⟩ v) (some g) from ⟨rfl, rfl, rfl, by simp [World.setCell], fun k h1 h2 => by
      have : g ≠ k := fun e => h2 (by rw [e])
      simp [World.setCell, Array.getElem?_modify, this]⟩).trans (setCells_grown g vs (o + 1) _)
theorem grown_setAt (W : World) (g o : Nat) (v : Value) : W.grownBy (W.setCell ⟨g, o, none⟩ v) (some g) := setCells_grown g [v] o W
theorem shape_sets {g cap : Nat} : ∀ (vs : List Value) (o : Nat) {W : World} (h : ∃ cur : Array Value, W.heap[g]? = some (.cells cur 22 (0, 0)) ∧ cur.size = cap), ∃ cur : Array Value, (W.setCells g o vs).heap[g]? = some (.cells cur 22 (0, 0)) ∧ cur.size = cap
  | [], _, _, h => h
  | v :: vs, o, _, h => shape_sets vs (o + 1) (shape_set h o v)
theorem Mem.clear {W : World} {g cap : Nat} {ys : List Int} (h : Mem W g cap ys) (k : Nat) (hk : k ≤ ys.length) (vs : List Value) : Mem (W.setCells g k vs) g cap (ys.take k) := by
  refine ⟨shape_sets vs k h.shape, fun j hj => ?_⟩
  rw [List.length_take] at hj
  rw [World.cell?_setCells_out _ _ _ _ _ (fun _ _ => .inl (by show j < k; omega)), h.cell j (by omega), List.getElem_take]
set_option maxHeartbeats 8000000 in
theorem compact_calls (g cap B : Nat) (xs : List Int) (w : World) (hr : w.ownsRow B 22 1 (.slice (some ⟨g, 0, none⟩) xs.length cap) xs.length (xs.map (.int .u32))) (hl : xs.length ≤ 1000) :
    Calls Try.prog 33 #[.slice (some ⟨g, 0, none⟩) xs.length cap] w fun e w' => e = .returned (.slice (some ⟨g, 0, none⟩) (cp xs).length cap) ∧ w'.ownsRow B 22 1 (.slice (some ⟨g, 0, none⟩) (cp xs).length cap) (cp xs).length ((cp xs).map (.int .u32)) ∧ w.grownBy w' (some g) := by
  obtain ⟨hm, hB, hcap, hcm⟩ := Mem.of hr
  have HM := hid hm
  by_cases h2 : xs.length < 2
  · have hd : decide ((xs.length : Int) < 2) = true := by simp; omega
    have hcp : cp xs = xs := by
      match xs, h2 with
      | [], _ => rfl
      | [x], _ => rfl
    rw [hcp]
    have HR := hid hr
    clear hr hm hcp
    go_enter Try.func33, Try.ntmps33
    go_wp2
    go_ret
    exact ⟨rfl, HR.out, World.grownBy.refl _ _⟩
  · have hd : decide ((xs.length : Int) < 2) = false := by simp; omega
    have h2' : 2 ≤ xs.length := by omega
    clear h2 hr hm
    go_enter Try.func33, Try.ntmps33
    go_wp2
    go_loopw [3] (fun v3 wr => ∃ k : Nat, 1 ≤ k ∧ k ≤ xs.length ∧ v3 = .int .i64 k ∧ Hid (cp (xs.take k) = xs.take k) ∧ Hid (∃ q, wr = w.drewN q)) (fun v3 _ => xs.length - (intOf v3).toNat)
    case atStart =>
      refine ⟨1, Nat.le_refl _, by omega, rfl, hid ?_, hid ⟨0, rfl⟩⟩
      match xs, h2' with
      | x :: y :: l, _ => rfl
    case round =>
      obtain ⟨k, hk1, hk, rfl, HC, HQ⟩ := hrel
      have HMr : Hid (Mem wr g cap xs) := by
        obtain ⟨q, rfl⟩ := HQ.out
        exact hid (HM.out.drew q)
      by_cases hlt : k < xs.length
      · obtain ⟨x, hx⟩ : ∃ x, xs[k] = x := ⟨_, rfl⟩
        obtain ⟨y, hy⟩ : ∃ y, xs[k - 1]'(by omega) = y := ⟨_, rfl⟩
        have c0 : wr.cell? ⟨g, k, none⟩ = some (.int .u32 x) := hx ▸ HMr.out.cell k hlt
        have c1 : wr.cell? ⟨g, k - 1, none⟩ = some (.int .u32 y) := hy ▸ HMr.out.cell (k - 1) (by omega)
        have hct := cp_take xs k hk1 hlt
        rw [hx, hy] at hct
        have hw1 : IntKind.i64.wrap ((k : Int) - 1) = ((k - 1 : Nat) : Int) := by rw [IntKind.wrap_i64]; omega
        have hw2 : ((k : Int) - 1).toNat = k - 1 := by omega
        have hb1 : (0 : Int) ≤ (k : Int) - 1 := by omega
        have hb2 : (k : Int) - 1 < (xs.length : Int) := by omega
        have HX := hid hx
        have HY := hid hy
        clear hx hy
        by_cases hxy : x = y
        · have hd : (x == y) = true := by simpa using hxy
          rw [if_pos hxy, HC.out] at hct
          have HCT := hid hct
          have HXY := hid hxy
          clear hct hxy
          go_wp2
          go_quiet (fail)
          have hck : ¬ cap = k := by omega
          go_wp2
          have HM2 : Hid (Mem (wr.drewN nq) g cap xs) := hid (HMr.out.drew _)
          have HG2 : Hid (w.grownBy (wr.drewN nq) (some g)) := hid (by
            obtain ⟨q, hq⟩ := HQ.out
            rw [hq]
            exact (It.grown_drewN _ _ _).trans (It.grown_drewN _ _ _))
          generalize wr.drewN nq = W0 at *
          clear c0 c1 hw1 hw2 hb1 hb2 hd
          go_loopw [3, 5] (fun v3 v5 wr => ∃ (kk i : Nat) (ys : List Int), 1 ≤ i ∧ 1 ≤ kk ∧ k + i ≤ xs.length ∧ kk + 1 ≤ k + i ∧ v3 = .int .i64 kk ∧ v5 = .int .i64 i ∧ Hid (ys.length = xs.length) ∧ Hid (cp (xs.take (k + i)) = ys.take kk) ∧ Hid (∀ j (h : j < ys.length) (h' : j < xs.length), k + i ≤ j + 1 → ys[j] = xs[j]) ∧ Hid (Mem wr g cap ys) ∧ Hid (w.grownBy wr (some g))) (fun _ v5 _ => xs.length - (intOf v5).toNat)
          case atStart => exact ⟨k, 1, xs, Nat.le_refl _, hk1, by omega, by omega, rfl, rfl, hid rfl, hid HCT.out, hid (fun _ _ _ _ => rfl), HM2, HG2⟩
          case round =>
            obtain ⟨kk, i, ys, hi1, hkk, hki, hkk2, rfl, rfl, HYL, HCP, HSAME, HMY, HGY⟩ := hrel
            have hyl := HYL.out
            by_cases hlt2 : i < xs.length - k
            · have hj0 : k + i < ys.length := by omega
              have hj1 : k + i - 1 < ys.length := by omega
              obtain ⟨x2, hx2⟩ : ∃ x2, xs[k + i]'(by omega) = x2 := ⟨_, rfl⟩
              obtain ⟨y2, hy2⟩ : ∃ y2, xs[k + i - 1]'(by omega) = y2 := ⟨_, rfl⟩
              have e0 : wr.cell? ⟨g, k + i, none⟩ = some (.int .u32 x2) := by
                rw [HMY.out.cell (k + i) hj0, HSAME.out (k + i) hj0 (by omega) (by omega), hx2]
              have e1 : wr.cell? ⟨g, k + (i - 1), none⟩ = some (.int .u32 y2) := by
                have h1 := HMY.out.cell (k + i - 1) hj1
                rw [HSAME.out (k + i - 1) hj1 (by omega) (by omega), hy2] at h1
                rw [show k + (i - 1) = k + i - 1 by omega]
                exact h1
              have hct2 := cp_take xs (k + i) (by omega) (by omega)
              rw [hx2, hy2] at hct2
              have hw1 : IntKind.i64.wrap ((i : Int) - 1) = ((i - 1 : Nat) : Int) := by rw [IntKind.wrap_i64]; omega
              have hw2 : ((i : Int) - 1).toNat = i - 1 := by omega
              have hb1 : (0 : Int) ≤ (i : Int) - 1 := by omega
              have hb2 : (i : Int) - 1 < ((xs.length - k : Nat) : Int) := by omega
              have hb3 : (i : Int) < ((xs.length - k : Nat) : Int) := by omega
              have HX2 := hid hx2
              clear hx2 hy2 hj1
              by_cases hxy2 : x2 = y2
              · have hd2 : (x2 != y2) = false := by simpa using hxy2
                rw [if_pos hxy2] at hct2
                have HCT2 := hid hct2
                clear hct2 hxy2
                go_wp2
                go_quiet (fail)
                go_wp2
                go_roundw
                case rel => exact ⟨kk, i + 1, ys, by omega, hkk, by omega, by omega, by first | trivial | rfl, by go_num, HYL, hid (by rw [← HCP.out, ← HCT2.out]; rfl), hid (fun j h h' hj => HSAME.out j h h' (by omega)), hid (HMY.out.drew _), hid (HGY.out.trans (It.grown_drewN _ _ _))⟩
                case measure => simp [intOf]; omega
              · have hd2 : (x2 != y2) = true := by simpa using hxy2
                rw [if_neg hxy2] at hct2
                have HCT2 := hid hct2
                have hkl : kk < ys.length := by omega
                have e2 : wr.cell? ⟨g, kk, none⟩ = some (.int .u32 ys[kk]) := HMY.out.cell kk hkl
                have e3 : wr.frozen? ⟨g, kk, none⟩ = false := HMY.out.frozen kk
                have hb4 : (kk : Int) < (xs.length : Int) := by omega
                clear hct2 hxy2
                go_wp2
                go_quiet (fail)
                go_wp2
                have HM3 := hid ((HMY.out.drew nq).set kk hkl x2)
                have HG3 := hid ((HGY.out.trans (It.grown_drewN _ nq _)).trans (grown_setAt _ g kk (.int .u32 x2)))
                go_roundw
                case rel =>
                  refine ⟨kk + 1, i + 1, ys.set kk x2, by omega, by omega, by omega, by omega, by go_num, by go_num, hid (by rw [List.length_set]; exact hyl), hid ?_, hid (fun j h h' hj => ?_), HM3, HG3⟩
                  · show cp (xs.take (k + i + 1)) = _
                    rw [HCT2.out, HCP.out, List.take_succ_eq_append_getElem (by rw [List.length_set]; exact hkl), List.getElem_set_self, List.take_set_of_le (Nat.le_refl _)]
                  · rw [List.getElem_set_ne (by omega)]
                    exact HSAME.out j (by rw [List.length_set] at h; exact h) h' (by omega)
                case measure => simp [intOf]; omega
            · have hke : k + i = xs.length := by omega
              have hcp := HCP.out
              rw [hke, List.take_length] at hcp
              have hkl : kk ≤ ys.length := by omega
              have hkc : kk ≤ cap := by omega
              have hck2 : ¬ cap = kk := by omega
              have z22 := Try.zeroValue22
              have hcl : ∀ ty, (Builtin.clear_ #[23] ty #[.slice (some ⟨g, kk, none⟩) (xs.length - kk) (cap - kk)]).run Try.prog wr = .ok (.tuple #[]) (wr.setCells g kk (List.replicate (xs.length - kk) (.int .u32 0))) :=
                fun ty => Lib.run_clear_slice wr 23 22 ty (.int .u32 0) Try.underlying23 z22 rfl rfl g kk _ _ (by omega) (fun j hj => by rw [HMY.out.cell (kk + j) (by omega)]; rfl) (fun j hj => HMY.out.frozen _)
              have HM3 := hid (HMY.out.clear kk hkl (List.replicate (xs.length - kk) (.int .u32 0)))
              have HG3 := hid (HGY.out.trans (setCells_grown g (List.replicate (xs.length - kk) (.int .u32 0)) kk wr))
              have HCPF := hid hcp
              have hlc : (cp xs).length = kk := by rw [hcp, List.length_take]; omega
              clear hcp
              go_wp2
              go_ret
              rw [hlc]
              have ho := HM3.out.own hB kk (by rw [List.length_take]; omega) (by rw [List.length_take]; omega) hcm
              rw [List.take_take, Nat.min_self, ← HCPF.out] at ho
              exact ⟨rfl, ho, HG3.out⟩
        · have hd : (x == y) = false := by simpa using hxy
          rw [if_neg hxy, HC.out] at hct
          have HCT := hid hct
          clear hct hxy
          go_wp2
          go_quiet (fail)
          go_wp2
          go_roundw
          case rel => exact ⟨k + 1, by omega, by omega, by go_num, hid (by rw [HCT.out, List.take_succ_eq_append_getElem hlt, HX.out]), hid (by obtain ⟨q, hq⟩ := HQ.out; rw [hq]; exact ⟨_, World.drewN_drewN _ _ _⟩)⟩
          case measure => simp [intOf]; omega
      · obtain rfl : k = xs.length := by omega
        have hcp := HC.out
        rw [List.take_length] at hcp
        have HCP := hid hcp
        clear hcp
        go_wp2
        go_ret
        rw [HCP.out]
        obtain ⟨q, hq⟩ := HQ.out
        have ho := HMr.out.own hB xs.length (Nat.le_refl _) hcap hcm
        rw [List.take_length] at ho
        exact ⟨rfl, ho, by rw [hq]; exact It.grown_drewN _ _ _⟩
end Go.Proofs.Ytidbkkebkgeioaa.Sl
