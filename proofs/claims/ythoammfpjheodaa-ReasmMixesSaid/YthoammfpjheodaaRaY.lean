import Derived.Test.YthoammfpjheodaaRaX
import Derived.Test.YthoammfpjheodaaRaP
namespace Go.Proofs.Ythoammfpjheodaa.Rz
open Go.ChangeShapes Go.WideShapes Go.ChangeAt Go.RowKit Go.Shelf MK Go.Joins
open Base (hid cell_new1 cell_old1 froz_new1 froz_old1)
open Sl (far Str)
attribute [local go_sem] Oper.semAt_some
set_option linter.unusedVariables false
set_option linter.unusedSimpArgs false
set_option maxRecDepth 100000
/-! the document's Pieces -/
theorem cellsP_take (l : List Pm) (k : Nat) : ∀ (j : Nat) (u : Value), (cellsP (l.take k))[j]? = some u → (cellsP l)[j]? = some u := by
  intro j u h
  have e : cellsP l = cellsP (l.take k) ++ cellsP (l.drop k) := by rw [← cellsP_app, List.take_append_drop]
  rw [e, List.getElem?_append_left (List.getElem?_eq_some_iff.1 h).1]
  exact h
theorem cellsP_drop (l : List Pm) (k : Nat) (hk : k ≤ l.length) : ∀ (j : Nat) (u : Value), (cellsP (l.drop k))[j]? = some u → (cellsP l)[k * 7 + j]? = some u := by
  intro j u h
  have e : cellsP l = cellsP (l.take k) ++ cellsP (l.drop k) := by rw [← cellsP_app, List.take_append_drop]
  have hl : (cellsP (l.take k)).length = k * 7 := by rw [cellsP_len, List.length_take, Nat.min_eq_left hk]
  rw [e, List.getElem?_append_right (by omega), show k * 7 + j - (cellsP (l.take k)).length = j by omega]
  exact h
theorem Src.take {w : World} {A : Option Addr} {c : Nat} {l : List Pm} (h : Src w A c l) (k : Nat) : Src w A c (l.take k) := ⟨fun j u hj => h.cells j u (cellsP_take l k j u hj), h.nil⟩
/-- Where a tail begins. -/
def tlP (g c k : Nat) : Addr := if c = k then ⟨g, 0, none⟩ else ⟨g, k * 7, none⟩
theorem Src.drop {w : World} {g c : Nat} {l : List Pm} (h : Src w (some ⟨g, 0, none⟩) c l) (k : Nat) (hk : k ≤ l.length) (hc : l.length ≤ c) : Src w (some (tlP g c k)) (c - k) (l.drop k) := by
  refine ⟨fun j u hj => ?_, fun e => by cases e⟩
  obtain ⟨ad, e, hcell⟩ := h.cells _ _ (cellsP_drop l k hk j u hj)
  cases e
  refine ⟨_, rfl, ?_⟩
  have hj' : j < (cellsP (l.drop k)).length := (List.getElem?_eq_some_iff.1 hj).1
  rw [cellsP_len, List.length_drop] at hj'
  unfold tlP
  rw [if_neg (by omega)]
  rw [add0] at hcell
  rw [show ((⟨g, k * 7, none⟩ : Addr).add j) = ⟨g, k * 7 + j, none⟩ by unfold Addr.add; split <;> simp_all]
  exact hcell
set_option maxHeartbeats 8000000 in
theorem rpieces_calls (w : World) (A : Option Addr) (c : Nat) (r : List Pm) (f : Int) (h : InR w A c r) (hm : r.length ≤ 1000) :
    Calls Try.prog 83 #[.slice A r.length c, .int .u32 f] w fun e w' => ∃ A' c', e = .returned (.slice A' (rpiecesP f r).length c') ∧ Row w' w.heap.size A' c' (rpiecesP f r) ∧ Below w.heap.size w w' := by
  have H := hid h
  clear h
  go_enter Try.func83, Try.ntmps83
  go_wp2_with fail
  go_loopw [5, 6] (fun v5 v6 wr => ∃ (i : Nat) (L : List Pm) (A5 : Option Addr) (c5 : Nat), i ≤ r.length ∧ v6 = .int .i64 i ∧ v5 = .slice A5 L.length c5 ∧ L.length ≤ i ∧ i ≤ L.length ∧ Hid (i = 0 → A5 = none ∧ c5 = 0) ∧ Hid (L = rpiecesP f (r.take i)) ∧ Hid (Row wr w.heap.size A5 c5 L) ∧ Hid (Below w.heap.size w wr)) (fun _ v6 _ => r.length - numV v6)
  case atStart => exact ⟨0, [], none, 0, Nat.zero_le _, rfl, rfl, Nat.le_refl _, Nat.le_refl _, hid (fun _ => ⟨rfl, rfl⟩), hid rfl, hid (World.ownsRow_nil _ _ _ _), hid (Below.refl _ _)⟩
  case round =>
    obtain ⟨i, L, A5, c5, hil, rfl, rfl, hLi, hiL, HN, HL, HR, HW⟩ := hrel
    obtain ⟨W0, hW0⟩ : ∃ W0, W0 = wr := ⟨_, rfl⟩
    rw [← hW0] at HR HW ⊢
    clear hW0
    clear wr
    have hz0 := HW.out.size
    by_cases hlt : i < r.length
    · obtain ⟨p, hp⟩ : ∃ p, r[i] = p := ⟨_, rfl⟩
      have HIr := hid (H.out.below HW.out)
      obtain ⟨ad, rfl, hbl, _⟩ := HIr.out.at i hlt
      have hlen := HIr.out.len
      have hstep : rpiecesP f (r.take (i + 1)) = rinsP f L p := by
        rw [List.take_succ_eq_append_getElem hlt, hp, rpiecesP_snoc, HL.out]
      have HST := hid hstep
      have HP := hid hp
      have hcap : L.length ≤ c5 := by
        obtain ⟨a, c', e, h2⟩ := Base.slice_of_row HR.out
        cases e
        exact h2
      have hkl := rkP_le f L p L.length
      obtain ⟨K, hK⟩ : ∃ K, K = rkP f L p L.length := ⟨_, rfl⟩
      rw [← hK] at hkl
      have HK := hid hK
      clear hstep hp hK
      go_upto_block 2 with fail
      go_cut [7] (fun v7 wx => v7 = .int .i64 K ∧ Hid (Below W0.heap.size W0 wx))
      case first =>
        go_wp2_with fail
        go_loopw [7] (fun v7 wr => ∃ k : Nat, v7 = .int .i64 k ∧ k ≤ L.length ∧ Hid (K = rkP f L p k) ∧ Hid (Below W0.heap.size W0 wr)) (fun v7 _ => numV v7)
        case atStart => exact ⟨L.length, rfl, Nat.le_refl _, HK, hid (Below.refl _ _)⟩
        case round =>
          obtain ⟨k, rfl, hkL, HKK, HW1⟩ := hrel
          have hz1 := HW1.out.size
          obtain ⟨ad', e', _, c0, _⟩ := (HIr.out.below HW1.out).at i hlt
          cases e'
          rw [HP.out] at c0
          have hd9 : ∀ n, Below W0.heap.size W0 (wr.drewN n) := fun n => HW1.out.drewN' n
          have HD9 := hid hd9
          clear hd9
          rcases Nat.eq_zero_or_pos k with hk0 | hk0
          · subst hk0
            have e : K = 0 := HKK.out
            have HE := hid e
            clear e c0
            have d0 : decide ((0 : Int) < ((0 : Nat) : Int)) = false := rfl
            go_wp2_with fail
            go_quiet (fail)
            go_wp2
            go_meet
            case rel => exact ⟨by rw [HE.out], hid (HD9.out _)⟩
          · obtain ⟨g, rfl, _, hgl, k0, _⟩ := Row.cells (Base.ownsRow_later HR.out (HW1.out.mono (by omega))) (k - 1) (by omega)
            obtain ⟨q, hq⟩ : ∃ q, L[k - 1]'(by omega) = q := ⟨_, rfl⟩
            rw [hq] at k0
            have hw1 : wrap64 ((k : Int) - 1) = ((k - 1 : Nat) : Int) := by unfold wrap64; omega
            have hn1 : ((k - 1 : Nat) : Int).toNat = k - 1 := by omega
            have hb1 : (0 : Int) ≤ ((k - 1 : Nat) : Int) ∧ ((k - 1 : Nat) : Int) < (L.length : Int) := by omega
            have hrk : rkP f L p k = if far f p.t < far f q.t then rkP f L p (k - 1) else k := by
              obtain ⟨k', rfl⟩ : ∃ k', k = k' + 1 := ⟨k - 1, by omega⟩
              rw [rkP, List.getElem?_eq_getElem (by omega)]
              simp only [Option.map_some, Option.getD_some]
              simp only [Nat.add_sub_cancel] at hq ⊢
              rw [hq]
            have d0 : decide ((0 : Int) < (k : Int)) = true := by simp; omega
            have e1 : (q.t - f) % 4294967296 = far f q.t := rfl
            have e2 : (p.t - f) % 4294967296 = far f p.t := rfl
            have HRK := hid hrk
            clear hrk hq
            by_cases hc : far f p.t < far f q.t
            · have d1 : decide (far f p.t < far f q.t) = true := by simpa using hc
              have e : K = rkP f L p (k - 1) := by rw [HKK.out, HRK.out, if_pos hc]
              have HE := hid e
              clear e
              go_wp2_with fail
              go_quiet (fail)
              go_wp2
              go_roundw
              case rel => exact ⟨k - 1, by congr 1; omega, by omega, HE, hid (HD9.out _)⟩
              case measure => simp [numV]; omega
            · have d1 : decide (far f p.t < far f q.t) = false := by simpa using hc
              have e : K = k := by rw [HKK.out, HRK.out, if_neg hc]
              have HE := hid e
              clear e
              go_wp2_with fail
              go_quiet (fail)
              go_wp2
              go_meet
              case rel => exact ⟨by rw [HE.out], hid (HD9.out _)⟩
      case rest =>
        obtain ⟨rfl, HWC⟩ := hcut
        have hzc := HWC.out.size
        have HKT : Hid ((L.take K).length = K) := hid (by rw [List.length_take, Nat.min_eq_left hkl])
        have HKT2 : Hid (0 + K = ([] ++ L.take K).length) := hid (by rw [List.nil_append, HKT.out, Nat.zero_add])
        have HKT3 : Hid (0 + K + 1 = ([] ++ L.take K ++ [p]).length) := hid (by rw [List.length_append, ← HKT2.out]; rfl)
        have HKT4 : Hid (L.length - K = (L.drop K).length) := hid (by rw [List.length_drop])
        have hRc : Row wc W0.heap.size A5 c5 L → False ∨ True := fun _ => .inr trivial
        have hrc := Base.ownsRow_later HR.out HWC.out
        have HRC := hid hrc
        obtain ⟨ad', e', hbc, c0, c1, c2, c3, c4, c5', c6⟩ := (HIr.out.below HWC.out).at i hlt
        cases e'
        rw [HP.out] at c0 c1 c2 c3 c4 c5' c6
        have hbc' : (ad.add (i * 7)).block < wc.heap.size := by rw [add_block]; exact hbc
        clear hRc hrc
        have hkc : K ≤ c5 := Nat.le_trans hkl hcap
        rcases Nat.eq_zero_or_pos i with hi0 | hi0
        · obtain ⟨rfl, rfl⟩ := HN.out hi0
          have hK0 : K = 0 := by omega
          have hL0 : L = [] := List.eq_nil_of_length_eq_zero (by omega)
          subst hK0 hL0 hi0
          have hadd : ad.add (0 * 7) = ad := by unfold Addr.add; simp
          rw [hadd] at c0 c1 c2 c3 c4 c5' c6
          have HAD := hid hadd
          clear hadd
          have HRS : Hid (∀ X, Below wc.heap.size wc X → Src X none 0 (([] : List Pm).take 0) ∧ InR X (some ad) c r ∧ Src X none 0 (([] : List Pm).drop 0)) := hid fun X hX =>
            ⟨⟨fun j u h => by simp [cellsP] at h, fun _ => rfl⟩, HIr.out.below (HWC.out.trans (hX.mono hzc)), ⟨fun j u h => by simp [cellsP] at h, fun _ => rfl⟩⟩
          go_wp2_with fail
          go_region_law (first
            | (refine step_app40 rfl (.tmp 38) (.tmp 41) rfl W0.heap.size (some ⟨wc.heap.size, 0, none⟩) 0 [] 0 rfl (by simp [Act.eval, Act.put]) (by first | exact own_low (rowE wc _ rfl) (by omega) | exact own_low (Base.ownsRow_later (rowE wc _ rfl) (Below.drew (Below.refl _ _))) (by omega)) none 0 0 (([] : List Pm).take 0) HKT.out.symm (by simp [Act.eval, Act.put]) (by refine (HRS.out _ ?_).1; first | exact below_alloc (Below.refl _ _) _ | exact Below.drew (below_alloc (Below.refl _ _) _)) (by omega) (by first | omega | (simp; omega)) ?_
               intro A4 c4 w4 hr4 hg4 ho4
               have hx4 : Below wc.heap.size wc w4 := Below.grown (by first | exact below_alloc (Below.refl _ _) _ | exact Below.drew (below_alloc (Below.refl _ _) _)) hg4 (by first | omega | (simp; done) | (simp; omega)) (fun k e => by simp [Value.ownBlock] at e; omega)
               skip
               obtain ⟨ad4, e4, _, y0, y1, y2, y3, y4, y5, y6⟩ := (HRS.out w4 hx4).2.1.at 0 hlt
               cases e4
               rw [HP.out] at y0 y1 y2 y3 y4 y5 y6
               rw [HAD.out] at y0 y1 y2 y3 y4 y5 y6
               have HR4 := hid hr4
               have HX4 := hid hx4
               have hz4 := hx4.size
               have hrow : ∀ k, (Value.slice A4 (0 + 0) c4).ownBlock = some k → wc.heap.size ≤ k := fun k e => by
                 rcases ho4 with h | h
                 · rw [h] at e
                   simp [Value.ownBlock] at e
                   omega
                 · rw [h] at e
                   have := Option.some.inj e
                   try simp at this
                   omega
               have HROW := hid hrow
               clear hr4 hx4 hg4 ho4 hrow)
            | (refine step_app40 rfl (.tmp 38) (.tmp 41) rfl W0.heap.size (some ⟨wc.heap.size, 0, none⟩) 0 [] 0 rfl (by simp [Act.eval, Act.put]) (by first | exact own_low (Base.ownsRow_later (rowE wc _ rfl) (below_alloc (Below.refl _ _) _)) (by omega) | exact own_low (Base.ownsRow_later (rowE wc _ rfl) (Below.drew (below_alloc (Below.refl _ _) _))) (by omega)) none 0 0 (([] : List Pm).take 0) HKT.out.symm (by simp [Act.eval, Act.put]) (by refine (HRS.out _ ?_).1; first | exact below_alloc (below_alloc (Below.refl _ _) _) _ | exact Below.drew (below_alloc (below_alloc (Below.refl _ _) _) _)) (by omega) (by first | omega | (simp; omega)) ?_
               intro A4 c4 w4 hr4 hg4 ho4
               have hx4 : Below wc.heap.size wc w4 := Below.grown (by first | exact below_alloc (below_alloc (Below.refl _ _) _) _ | exact Below.drew (below_alloc (below_alloc (Below.refl _ _) _) _)) hg4 (by first | omega | (simp; done) | (simp; omega)) (fun k e => by simp [Value.ownBlock] at e; omega)
               have HS56 : Hid (Src w4 (some ⟨wc.heap.size + 1, 0, none⟩) 1 [p]) := hid (Src.one ((Box.new' (wc.alloc (.cells #[] 40)) p (wc.heap.size + 1) (by simp)).block (hg4.block _ (by simp) (by simp [Value.ownBlock]))))
               obtain ⟨ad4, e4, _, y0, y1, y2, y3, y4, y5, y6⟩ := (HRS.out w4 hx4).2.1.at 0 hlt
               cases e4
               rw [HP.out] at y0 y1 y2 y3 y4 y5 y6
               rw [HAD.out] at y0 y1 y2 y3 y4 y5 y6
               have HR4 := hid hr4
               have HX4 := hid hx4
               have hz4 := hx4.size
               have hrow : ∀ k, (Value.slice A4 (0 + 0) c4).ownBlock = some k → wc.heap.size ≤ k := fun k e => by
                 rcases ho4 with h | h
                 · rw [h] at e
                   simp [Value.ownBlock] at e
                   omega
                 · rw [h] at e
                   have := Option.some.inj e
                   try simp at this
                   omega
               have HROW := hid hrow
               clear hr4 hx4 hg4 ho4 hrow)
            | (refine step_app40 rfl (.tmp 38) (.tmp 41) rfl W0.heap.size (some ⟨wc.heap.size + 1, 0, none⟩) 0 [] 0 rfl (by simp [Act.eval, Act.put]) (by first | exact own_low (rowE (wc.alloc (.cells #[.int .u32 p.t, .int .u16 p.s, .int .u16 p.q, .bool p.b, .bool p.e, .bool p.u, .slice p.A p.x.length p.c] 40)) _ (by simp)) (by omega) | exact own_low (Base.ownsRow_later (rowE (wc.alloc (.cells #[.int .u32 p.t, .int .u16 p.s, .int .u16 p.q, .bool p.b, .bool p.e, .bool p.u, .slice p.A p.x.length p.c] 40)) _ (by simp)) (Below.drew (Below.refl _ _))) (by omega)) none 0 0 (([] : List Pm).take 0) HKT.out.symm (by simp [Act.eval, Act.put]) (by refine (HRS.out _ ?_).1; first | exact below_alloc (below_alloc (Below.refl _ _) _) _ | exact Below.drew (below_alloc (below_alloc (Below.refl _ _) _) _)) (by omega) (by first | omega | (simp; omega)) ?_
               intro A4 c4 w4 hr4 hg4 ho4
               have hx4 : Below wc.heap.size wc w4 := Below.grown (by first | exact below_alloc (below_alloc (Below.refl _ _) _) _ | exact Below.drew (below_alloc (below_alloc (Below.refl _ _) _) _)) hg4 (by first | omega | (simp; done) | (simp; omega)) (fun k e => by simp [Value.ownBlock] at e; omega)
               have HS56 : Hid (Src w4 (some ⟨wc.heap.size, 0, none⟩) 1 [p]) := hid (Src.one (((Box.new wc p).below (below_alloc (Below.refl _ _) (.cells #[] 40))).block (hg4.block _ (by simp; omega) (by simp [Value.ownBlock]))))
               obtain ⟨ad4, e4, _, y0, y1, y2, y3, y4, y5, y6⟩ := (HRS.out w4 hx4).2.1.at 0 hlt
               cases e4
               rw [HP.out] at y0 y1 y2 y3 y4 y5 y6
               rw [HAD.out] at y0 y1 y2 y3 y4 y5 y6
               have HR4 := hid hr4
               have HX4 := hid hx4
               have hz4 := hx4.size
               have hrow : ∀ k, (Value.slice A4 (0 + 0) c4).ownBlock = some k → wc.heap.size ≤ k := fun k e => by
                 rcases ho4 with h | h
                 · rw [h] at e
                   simp [Value.ownBlock] at e
                   omega
                 · rw [h] at e
                   have := Option.some.inj e
                   try simp at this
                   omega
               have HROW := hid hrow
               clear hr4 hx4 hg4 ho4 hrow)
            | (refine step_app40 rfl (.tmp 42) (.tmp 47) rfl W0.heap.size A4 c4 ([] ++ ([] : List Pm).take 0) (0 + 0) HKT2.out (by simp [Act.eval, Act.put]) (by first | exact Base.ownsRow_later HR4.out (below_alloc (Below.refl _ _) _) | exact Base.ownsRow_later HR4.out (Below.drew (below_alloc (Below.refl _ _) _))) (some ⟨w4.heap.size, 0, none⟩) 1 1 [p] rfl (by simp [Act.eval, Act.put]) (by first | exact Src.one (Box.new w4 p) | exact (Src.one (Box.new w4 p)).below (Below.drew (Below.refl _ _))) (by omega) (by first | omega | (simp; omega)) ?_
               intro A5' c5' w5 hr5 hg5 ho5
               have hx5 : Below wc.heap.size wc w5 := Below.grown (by first | exact HX4.out.trans ((below_alloc (Below.refl _ _) _).mono hz4) | exact HX4.out.trans ((Below.drew (below_alloc (Below.refl _ _) _)).mono hz4)) hg5 (by first | omega | (simp; done) | (simp; omega)) HROW.out
               have hrow5 : ∀ k, (Value.slice A5' (0 + 0 + 1) c5').ownBlock = some k → wc.heap.size ≤ k := fun k e => by
                 rcases ho5 with h | h
                 · rw [h] at e
                   exact HROW.out _ e
                 · rw [h] at e
                   have := Option.some.inj e
                   try simp at this
                   omega
               have HROW5 := hid hrow5
               have HR5 := hid hr5
               have HX5 := hid hx5
               have hz5 := hx5.size
               clear hr5 hx5 hrow5 hg5 ho5)
            | (refine step_app40 rfl (.tmp 42) (.tmp 47) rfl W0.heap.size A4 c4 ([] ++ ([] : List Pm).take 0) (0 + 0) HKT2.out (by simp [Act.eval, Act.put]) (by exact HR4.out) (some ⟨wc.heap.size + 1, 0, none⟩) 1 1 [p] rfl (by simp [Act.eval, Act.put]) (by exact HS56.out) (by omega) (by first | omega | (simp; omega)) ?_
               intro A5' c5' w5 hr5 hg5 ho5
               have hx5 : Below wc.heap.size wc w5 := Below.grown (by exact HX4.out) hg5 (by first | omega | (simp; done) | (simp; omega)) HROW.out
               have hrow5 : ∀ k, (Value.slice A5' (0 + 0 + 1) c5').ownBlock = some k → wc.heap.size ≤ k := fun k e => by
                 rcases ho5 with h | h
                 · rw [h] at e
                   exact HROW.out _ e
                 · rw [h] at e
                   have := Option.some.inj e
                   try simp at this
                   omega
               have HROW5 := hid hrow5
               have HR5 := hid hr5
               have HX5 := hid hx5
               have hz5 := hx5.size
               clear hr5 hx5 hrow5 hg5 ho5)
            | (refine step_app40 rfl (.tmp 42) (.tmp 47) rfl W0.heap.size A4 c4 ([] ++ ([] : List Pm).take 0) (0 + 0) HKT2.out (by simp [Act.eval, Act.put]) (by exact HR4.out) (some ⟨wc.heap.size, 0, none⟩) 1 1 [p] rfl (by simp [Act.eval, Act.put]) (by exact HS56.out) (by omega) (by first | omega | (simp; omega)) ?_
               intro A5' c5' w5 hr5 hg5 ho5
               have hx5 : Below wc.heap.size wc w5 := Below.grown (by exact HX4.out) hg5 (by first | omega | (simp; done) | (simp; omega)) HROW.out
               have hrow5 : ∀ k, (Value.slice A5' (0 + 0 + 1) c5').ownBlock = some k → wc.heap.size ≤ k := fun k e => by
                 rcases ho5 with h | h
                 · rw [h] at e
                   exact HROW.out _ e
                 · rw [h] at e
                   have := Option.some.inj e
                   try simp at this
                   omega
               have HROW5 := hid hrow5
               have HR5 := hid hr5
               have HX5 := hid hx5
               have hz5 := hx5.size
               clear hr5 hx5 hrow5 hg5 ho5)
            | (refine step_app40 rfl (.tmp 48) (.tmp 51) rfl W0.heap.size A5' c5' ([] ++ ([] : List Pm).take 0 ++ [p]) (0 + 0 + 1) HKT3.out (by simp [Act.eval, Act.put]) HR5.out none 0 0 (([] : List Pm).drop 0) HKT4.out (by simp [Act.eval, Act.put]) (HRS.out w5 HX5.out).2.2 (by omega) (by omega) ?_
               intro A7 c7 w7 hr7 hg7 ho7
               have hx7 : Below wc.heap.size wc w7 := HX5.out.grown hg7 hz5 HROW5.out
               have HR7 := hid hr7
               have HX7 := hid hx7
               clear hr7 hx7 hg7 ho7)
            | fail)
          all_goals
            have hlen7 : 0 + 1 + (0) = (rinsP f ([] : List Pm) p).length := by rw [rinsP_len]; omega
            have hlen7' : 0 + 0 + 1 + (0) = (rinsP f ([] : List Pm) p).length := by rw [rinsP_len]; omega
            have hl7 : (rinsP f ([] : List Pm) p).length = 0 + 1 := by rw [rinsP_len]; omega
            have HR8 : Hid (Row w7 W0.heap.size A7 c7 (rinsP f ([] : List Pm) p)) := hid (by
              have := HR7.out
              rw [show ([] ++ ([] : List Pm).take 0 ++ [p] ++ ([] : List Pm).drop 0) = rinsP f ([] : List Pm) p by unfold rinsP; rw [← HK.out]; simp] at this
              exact this)
            have HL7 := hid hlen7
            have HL7' := hid hlen7'
            have HL8 := hid hl7
            have hbw : Below w.heap.size w w7 := HW.out.trans ((HWC.out.mono (by omega)).trans (HX7.out.mono (by omega)))
            have HBW := hid hbw
            clear hlen7 hlen7' hl7 hbw
            go_wp2
            go_roundw
            case rel => exact ⟨0 + 1, rinsP f ([] : List Pm) p, A7, c7, by omega, by simp, by first | rw [HL7.out] | rw [HL7'.out] | rw [HL8.out], by rw [HL8.out]; exact Nat.le_refl _, by rw [HL8.out]; exact Nat.le_refl _, hid (fun h => absurd h (Nat.succ_ne_zero _)), hid (by rw [HST.out]), hid (own_low HR8.out hz0), HBW⟩
            case measure => simp [numV]; omega
        · obtain ⟨g, rfl, _⟩ := Row.cells HRC.out 0 (by omega)
          have HRS : Hid (∀ X, Below wc.heap.size wc X → Src X (some ⟨g, 0, none⟩) c5 (L.take K) ∧ InR X (some ad) c r ∧ Src X (some (tlP g c5 K)) (c5 - K) (L.drop K)) := hid fun X hX =>
            ⟨((Row.src HRC.out).below hX).take K, HIr.out.below (HWC.out.trans (hX.mono hzc)), ((Row.src HRC.out).below hX).drop K hkl hcap⟩
          go_wp2_with fail
          go_region_law (first
            | (refine step_app40 rfl (.tmp 38) (.tmp 41) rfl W0.heap.size (some ⟨wc.heap.size, 0, none⟩) 0 [] 0 rfl (by simp [Act.eval, Act.put]) (by first | exact own_low (rowE wc _ rfl) (by omega) | exact own_low (Base.ownsRow_later (rowE wc _ rfl) (Below.drew (Below.refl _ _))) (by omega)) (some ⟨g, 0, none⟩) K c5 (L.take K) HKT.out.symm (by simp [Act.eval, Act.put]) (by refine (HRS.out _ ?_).1; first | exact below_alloc (Below.refl _ _) _ | exact Below.drew (below_alloc (Below.refl _ _) _)) (by omega) (by first | omega | (simp; omega)) ?_
               intro A4 c4 w4 hr4 hg4 ho4
               have hx4 : Below wc.heap.size wc w4 := Below.grown (by first | exact below_alloc (Below.refl _ _) _ | exact Below.drew (below_alloc (Below.refl _ _) _)) hg4 (by first | omega | (simp; done) | (simp; omega)) (fun k e => by simp [Value.ownBlock] at e; omega)
               skip
               obtain ⟨ad4, e4, _, y0, y1, y2, y3, y4, y5, y6⟩ := (HRS.out w4 hx4).2.1.at i hlt
               cases e4
               rw [HP.out] at y0 y1 y2 y3 y4 y5 y6
               have HR4 := hid hr4
               have HX4 := hid hx4
               have hz4 := hx4.size
               have hrow : ∀ k, (Value.slice A4 (0 + K) c4).ownBlock = some k → wc.heap.size ≤ k := fun k e => by
                 rcases ho4 with h | h
                 · rw [h] at e
                   simp [Value.ownBlock] at e
                   omega
                 · rw [h] at e
                   have := Option.some.inj e
                   try simp at this
                   omega
               have HROW := hid hrow
               clear hr4 hx4 hg4 ho4 hrow)
            | (refine step_app40 rfl (.tmp 38) (.tmp 41) rfl W0.heap.size (some ⟨wc.heap.size, 0, none⟩) 0 [] 0 rfl (by simp [Act.eval, Act.put]) (by first | exact own_low (Base.ownsRow_later (rowE wc _ rfl) (below_alloc (Below.refl _ _) _)) (by omega) | exact own_low (Base.ownsRow_later (rowE wc _ rfl) (Below.drew (below_alloc (Below.refl _ _) _))) (by omega)) (some ⟨g, 0, none⟩) K c5 (L.take K) HKT.out.symm (by simp [Act.eval, Act.put]) (by refine (HRS.out _ ?_).1; first | exact below_alloc (below_alloc (Below.refl _ _) _) _ | exact Below.drew (below_alloc (below_alloc (Below.refl _ _) _) _)) (by omega) (by first | omega | (simp; omega)) ?_
               intro A4 c4 w4 hr4 hg4 ho4
               have hx4 : Below wc.heap.size wc w4 := Below.grown (by first | exact below_alloc (below_alloc (Below.refl _ _) _) _ | exact Below.drew (below_alloc (below_alloc (Below.refl _ _) _) _)) hg4 (by first | omega | (simp; done) | (simp; omega)) (fun k e => by simp [Value.ownBlock] at e; omega)
               have HS56 : Hid (Src w4 (some ⟨wc.heap.size + 1, 0, none⟩) 1 [p]) := hid (Src.one ((Box.new' (wc.alloc (.cells #[] 40)) p (wc.heap.size + 1) (by simp)).block (hg4.block _ (by simp) (by simp [Value.ownBlock]))))
               obtain ⟨ad4, e4, _, y0, y1, y2, y3, y4, y5, y6⟩ := (HRS.out w4 hx4).2.1.at i hlt
               cases e4
               rw [HP.out] at y0 y1 y2 y3 y4 y5 y6
               have HR4 := hid hr4
               have HX4 := hid hx4
               have hz4 := hx4.size
               have hrow : ∀ k, (Value.slice A4 (0 + K) c4).ownBlock = some k → wc.heap.size ≤ k := fun k e => by
                 rcases ho4 with h | h
                 · rw [h] at e
                   simp [Value.ownBlock] at e
                   omega
                 · rw [h] at e
                   have := Option.some.inj e
                   try simp at this
                   omega
               have HROW := hid hrow
               clear hr4 hx4 hg4 ho4 hrow)
            | (refine step_app40 rfl (.tmp 38) (.tmp 41) rfl W0.heap.size (some ⟨wc.heap.size + 1, 0, none⟩) 0 [] 0 rfl (by simp [Act.eval, Act.put]) (by first | exact own_low (rowE (wc.alloc (.cells #[.int .u32 p.t, .int .u16 p.s, .int .u16 p.q, .bool p.b, .bool p.e, .bool p.u, .slice p.A p.x.length p.c] 40)) _ (by simp)) (by omega) | exact own_low (Base.ownsRow_later (rowE (wc.alloc (.cells #[.int .u32 p.t, .int .u16 p.s, .int .u16 p.q, .bool p.b, .bool p.e, .bool p.u, .slice p.A p.x.length p.c] 40)) _ (by simp)) (Below.drew (Below.refl _ _))) (by omega)) (some ⟨g, 0, none⟩) K c5 (L.take K) HKT.out.symm (by simp [Act.eval, Act.put]) (by refine (HRS.out _ ?_).1; first | exact below_alloc (below_alloc (Below.refl _ _) _) _ | exact Below.drew (below_alloc (below_alloc (Below.refl _ _) _) _)) (by omega) (by first | omega | (simp; omega)) ?_
               intro A4 c4 w4 hr4 hg4 ho4
               have hx4 : Below wc.heap.size wc w4 := Below.grown (by first | exact below_alloc (below_alloc (Below.refl _ _) _) _ | exact Below.drew (below_alloc (below_alloc (Below.refl _ _) _) _)) hg4 (by first | omega | (simp; done) | (simp; omega)) (fun k e => by simp [Value.ownBlock] at e; omega)
               have HS56 : Hid (Src w4 (some ⟨wc.heap.size, 0, none⟩) 1 [p]) := hid (Src.one (((Box.new wc p).below (below_alloc (Below.refl _ _) (.cells #[] 40))).block (hg4.block _ (by simp; omega) (by simp [Value.ownBlock]))))
               obtain ⟨ad4, e4, _, y0, y1, y2, y3, y4, y5, y6⟩ := (HRS.out w4 hx4).2.1.at i hlt
               cases e4
               rw [HP.out] at y0 y1 y2 y3 y4 y5 y6
               have HR4 := hid hr4
               have HX4 := hid hx4
               have hz4 := hx4.size
               have hrow : ∀ k, (Value.slice A4 (0 + K) c4).ownBlock = some k → wc.heap.size ≤ k := fun k e => by
                 rcases ho4 with h | h
                 · rw [h] at e
                   simp [Value.ownBlock] at e
                   omega
                 · rw [h] at e
                   have := Option.some.inj e
                   try simp at this
                   omega
               have HROW := hid hrow
               clear hr4 hx4 hg4 ho4 hrow)
            | (refine step_app40 rfl (.tmp 42) (.tmp 47) rfl W0.heap.size A4 c4 ([] ++ L.take K) (0 + K) HKT2.out (by simp [Act.eval, Act.put]) (by first | exact Base.ownsRow_later HR4.out (below_alloc (Below.refl _ _) _) | exact Base.ownsRow_later HR4.out (Below.drew (below_alloc (Below.refl _ _) _))) (some ⟨w4.heap.size, 0, none⟩) 1 1 [p] rfl (by simp [Act.eval, Act.put]) (by first | exact Src.one (Box.new w4 p) | exact (Src.one (Box.new w4 p)).below (Below.drew (Below.refl _ _))) (by omega) (by first | omega | (simp; omega)) ?_
               intro A5' c5' w5 hr5 hg5 ho5
               have hx5 : Below wc.heap.size wc w5 := Below.grown (by first | exact HX4.out.trans ((below_alloc (Below.refl _ _) _).mono hz4) | exact HX4.out.trans ((Below.drew (below_alloc (Below.refl _ _) _)).mono hz4)) hg5 (by first | omega | (simp; done) | (simp; omega)) HROW.out
               have hrow5 : ∀ k, (Value.slice A5' (0 + K + 1) c5').ownBlock = some k → wc.heap.size ≤ k := fun k e => by
                 rcases ho5 with h | h
                 · rw [h] at e
                   exact HROW.out _ e
                 · rw [h] at e
                   have := Option.some.inj e
                   try simp at this
                   omega
               have HROW5 := hid hrow5
               have HR5 := hid hr5
               have HX5 := hid hx5
               have hz5 := hx5.size
               clear hr5 hx5 hrow5 hg5 ho5)
            | (refine step_app40 rfl (.tmp 42) (.tmp 47) rfl W0.heap.size A4 c4 ([] ++ L.take K) (0 + K) HKT2.out (by simp [Act.eval, Act.put]) (by exact HR4.out) (some ⟨wc.heap.size + 1, 0, none⟩) 1 1 [p] rfl (by simp [Act.eval, Act.put]) (by exact HS56.out) (by omega) (by first | omega | (simp; omega)) ?_
               intro A5' c5' w5 hr5 hg5 ho5
               have hx5 : Below wc.heap.size wc w5 := Below.grown (by exact HX4.out) hg5 (by first | omega | (simp; done) | (simp; omega)) HROW.out
               have hrow5 : ∀ k, (Value.slice A5' (0 + K + 1) c5').ownBlock = some k → wc.heap.size ≤ k := fun k e => by
                 rcases ho5 with h | h
                 · rw [h] at e
                   exact HROW.out _ e
                 · rw [h] at e
                   have := Option.some.inj e
                   try simp at this
                   omega
               have HROW5 := hid hrow5
               have HR5 := hid hr5
               have HX5 := hid hx5
               have hz5 := hx5.size
               clear hr5 hx5 hrow5 hg5 ho5)
            | (refine step_app40 rfl (.tmp 42) (.tmp 47) rfl W0.heap.size A4 c4 ([] ++ L.take K) (0 + K) HKT2.out (by simp [Act.eval, Act.put]) (by exact HR4.out) (some ⟨wc.heap.size, 0, none⟩) 1 1 [p] rfl (by simp [Act.eval, Act.put]) (by exact HS56.out) (by omega) (by first | omega | (simp; omega)) ?_
               intro A5' c5' w5 hr5 hg5 ho5
               have hx5 : Below wc.heap.size wc w5 := Below.grown (by exact HX4.out) hg5 (by first | omega | (simp; done) | (simp; omega)) HROW.out
               have hrow5 : ∀ k, (Value.slice A5' (0 + K + 1) c5').ownBlock = some k → wc.heap.size ≤ k := fun k e => by
                 rcases ho5 with h | h
                 · rw [h] at e
                   exact HROW.out _ e
                 · rw [h] at e
                   have := Option.some.inj e
                   try simp at this
                   omega
               have HROW5 := hid hrow5
               have HR5 := hid hr5
               have HX5 := hid hx5
               have hz5 := hx5.size
               clear hr5 hx5 hrow5 hg5 ho5)
            | (refine step_app40 rfl (.tmp 48) (.tmp 51) rfl W0.heap.size A5' c5' ([] ++ L.take K ++ [p]) (0 + K + 1) HKT3.out (by simp [Act.eval, Act.put]) HR5.out (some (tlP g c5 K)) (L.length - K) (c5 - K) (L.drop K) HKT4.out (by simp [Act.eval, Act.put, tlP]; split <;> rfl) (HRS.out w5 HX5.out).2.2 (by omega) (by omega) ?_
               intro A7 c7 w7 hr7 hg7 ho7
               have hx7 : Below wc.heap.size wc w7 := HX5.out.grown hg7 hz5 HROW5.out
               have HR7 := hid hr7
               have HX7 := hid hx7
               clear hr7 hx7 hg7 ho7)
            | fail)
          all_goals
            have hlen7 : K + 1 + (L.length - K) = (rinsP f L p).length := by rw [rinsP_len]; omega
            have hlen7' : 0 + K + 1 + (L.length - K) = (rinsP f L p).length := by rw [rinsP_len]; omega
            have hl7 : (rinsP f L p).length = i + 1 := by rw [rinsP_len]; omega
            have HR8 : Hid (Row w7 W0.heap.size A7 c7 (rinsP f L p)) := hid (by
              have := HR7.out
              rw [show ([] ++ L.take K ++ [p] ++ L.drop K) = rinsP f L p by unfold rinsP; rw [← HK.out]; simp] at this
              exact this)
            have HL7 := hid hlen7
            have HL7' := hid hlen7'
            have HL8 := hid hl7
            have hbw : Below w.heap.size w w7 := HW.out.trans ((HWC.out.mono (by omega)).trans (HX7.out.mono (by omega)))
            have HBW := hid hbw
            clear hlen7 hlen7' hl7 hbw
            go_wp2
            go_roundw
            case rel => exact ⟨i + 1, rinsP f L p, A7, c7, by omega, by simp, by first | rw [HL7.out] | rw [HL7'.out], by rw [HL8.out]; exact Nat.le_refl _, by rw [HL8.out]; exact Nat.le_refl _, hid (fun h => absurd h (Nat.succ_ne_zero _)), hid (by rw [HST.out]), hid (own_low HR8.out hz0), HBW⟩
            case measure => simp [numV]; omega
    · obtain rfl : i = r.length := by omega
      have hL := HL.out
      rw [List.take_length] at hL
      subst hL
      go_wp2
      go_ret
      exact ⟨A5, c5, rfl, HR.out, HW.out⟩
end Go.Proofs.Ythoammfpjheodaa.Rz
