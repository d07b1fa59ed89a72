import Derived.Test.YthoammfpjheodaaRaX
namespace Go.Proofs.Ythoammfpjheodaa.Rz
open Go.ChangeShapes Go.WideShapes Go.ChangeAt Go.RowKit Go.Shelf MK Go.Joins
open Base (hid cell_new1 cell_old1 froz_new1 froz_old1)
attribute [local go_sem] Oper.semAt_some
set_option linter.unusedVariables false
set_option linter.unusedSimpArgs false
set_option maxRecDepth 100000
/-! Own, Messages of one each -/
/-- Copies of pieces. -/
structure Owns (B : Nat) (w : World) (l L : List Pm) : Prop where
  len : L.length ≤ l.length
  at_ : ∀ i (h : i < L.length) (h' : i < l.length), Cop B w l[i] L[i]
  ap : L.Pairwise fun p q => ∀ a b, p.A = some a → q.A = some b → a.block ≠ b.block
theorem Owns.nil (B : Nat) (w : World) (l : List Pm) : Owns B w l [] := ⟨Nat.zero_le _, fun i h => absurd h (Nat.not_lt_zero _), List.Pairwise.nil⟩
theorem Owns.below {B : Nat} {w w' : World} {l L : List Pm} (h : Owns B w l L) (hb : Below w.heap.size w w') : Owns B w' l L := ⟨h.len, fun i hi hi' => (h.at_ i hi hi').below hb, h.ap⟩
theorem Owns.kept {B B' : Nat} {w w' : World} {l L : List Pm} {v : Value} {n : Nat} {xs : List Value} (h : Owns B w l L) (hv : w.ownsRow B' 40 7 v n xs) (hg : w.grownBy w' v.ownBlock) : Owns B w' l L :=
  ⟨h.len, fun i hi hi' => by have h2 := h.at_ i hi hi'; exact ⟨h2.eq, h2.own.kept hg (own_apart h2.own hv (by decide))⟩, h.ap⟩
theorem Owns.step {B : Nat} {w w' : World} {l L : List Pm} (h : Owns B w l L) (hb : Below w.heap.size w w') (hB : B ≤ w.heap.size) {q : Pm} (hl : L.length < l.length) (hq : Cop w.heap.size w' l[L.length] q) : Owns B w' l (L ++ [q]) := by
  refine ⟨by simp; omega, fun i hi hi' => ?_, ?_⟩
  · rw [List.getElem_append]
    split
    · rename_i h1
      exact (h.at_ i h1 hi').below hb
    · rename_i h1
      obtain rfl : i = L.length := by simp at hi; omega
      exact ⟨by simpa using hq.eq, by simpa using own_low hq.own hB⟩
  · refine List.pairwise_append.2 ⟨h.ap, List.pairwise_singleton _ _, fun a ha b hb2 x y hx hy => ?_⟩
    rw [List.mem_singleton.1 hb2] at hy
    obtain ⟨i, hi, rfl⟩ := List.getElem_of_mem ha
    have hc := h.at_ i hi (by omega)
    have h1 := hc.own
    rw [hx] at h1
    have h2 := hq.own
    rw [hy] at h2
    have k1 := own_addr h1
    have k2 := own_addr h2
    omega
theorem rowU (X : World) (k : Nat) (hk : k = X.heap.size) : (X.alloc (.cells #[] 5)).ownsRow k 5 1 (.slice (some ⟨k, 0, none⟩) 0 0) 0 (([] : List Int).map (.int .u8)) := by
  subst hk
  exact World.ownsRow_made X (e := 5) (size := 1) #[] 0 (Nat.le_refl _) (by decide) rfl
set_option maxHeartbeats 4000000 in
theorem own_calls (w : World) (A : Option Addr) (c : Nat) (l : List Pm) (h : InR w A c l) (hm : l.length ≤ 1000) (hx : ∀ p ∈ l, p.x.length ≤ 1000000) :
    Calls Try.prog 38 #[.slice A l.length c] w fun e w' => ∃ A' c' L, e = .returned (.slice A' L.length c') ∧ L.length = l.length ∧ Row w' w.heap.size A' c' L ∧ Owns w.heap.size w' l L ∧ Below w.heap.size w w' := by
  have H := hid h
  have HX := hid hx
  clear h hx
  go_enter Try.func38, Try.ntmps38
  go_wp2_with fail
  go_loopw [3, 9] (fun v3 v9 wr => ∃ (L : List Pm) (A3 : Option Addr) (c3 : Nat), L.length ≤ l.length ∧ v9 = .int .i64 L.length ∧ v3 = .slice A3 L.length c3 ∧ Hid (Row wr w.heap.size A3 c3 L) ∧ Hid (Owns w.heap.size wr l L) ∧ Hid (Below w.heap.size w wr)) (fun _ v9 _ => l.length - numV v9)
  case atStart => exact ⟨[], _, 0, Nat.zero_le _, rfl, rfl, hid (rowE w _ rfl), hid (Owns.nil _ _ _), hid (below_alloc (Below.refl _ _) _)⟩
  case round =>
    obtain ⟨L, A3, c3, hLl, rfl, rfl, HR, HO, HW⟩ := hrel
    have hz := HW.out.size
    by_cases hlt : L.length < l.length
    · obtain ⟨p, hp⟩ : ∃ p, l[L.length] = p := ⟨_, rfl⟩
      have HIr := hid (H.out.below HW.out)
      obtain ⟨ad, rfl, hbl, k0, k1, k2, k3, k4, k5, k6⟩ := HIr.out.at L.length hlt
      have hlen := HIr.out.len
      rw [hp] at k0 k1 k2 k3 k4 k5 k6
      have hpi : Inp wr p := by rw [← hp]; exact HIr.out.inp _ (List.getElem_mem hlt)
      have hpx : p.x.length ≤ 1000000 := by rw [← hp]; exact HX.out _ (List.getElem_mem hlt)
      obtain ⟨w1, hw1⟩ : ∃ w1, w1 = wr.alloc (.cells #[.int .u32 p.t, .int .u16 p.s, .int .u16 p.q, .bool p.b, .bool p.e, .bool p.u, .slice p.A p.x.length p.c] 40) := ⟨_, rfl⟩
      have hb1 : Below wr.heap.size wr w1 := by rw [hw1]; exact below_alloc (Below.refl _ _) _
      have hz1 : w1.heap.size = wr.heap.size + 1 := by rw [hw1]; simp
      have hbx : Box w1 wr.heap.size p := by rw [hw1]; exact Box.new wr p
      have HB1 := hid hb1
      have HBX := hid hbx
      have HW1 := hid hw1
      have HPI := hid hpi
      have HP := hid hp
      clear hb1 hbx hw1 hpi hp
      go_upto_region 5 with fail
      rw [← HW1.out]
      obtain ⟨x0, x1, x2, x3, x4, x5, x6, xf⟩ := HBX.out
      have hlt1 : wr.heap.size < w1.heap.size := by omega
      go_wp2_with (at_builtin; go_must (refine wpList_app_txt rfl _ _ rfl (wr.heap.size + 1) (.slice (some ⟨wr.heap.size + 1, 0, none⟩) 0 0) 0 [] rfl (rowU w1 _ hz1.symm) p.A p.x.length p.c p.x rfl rfl HPI.out.nil ((HPI.out.txt.below HB1.out).below (below_alloc (Below.refl _ _) _)) (by omega) (by simp; omega) ?_))
      intro v2 w2 own2 hg2 _
      have hb2 : Below w1.heap.size w1 w2 := (below_alloc (Below.refl _ _) _).grown hg2 (by simp) (fun k e => by simp [Value.ownBlock] at e; omega)
      obtain ⟨A2, c2, rfl, _⟩ := Base.slice_of_row own2
      have hbx2 : Box w2 wr.heap.size p := HBX.out.below hb2
      have hg3 := grown_setAt w2 wr.heap.size 6 (.slice A2 p.x.length c2)
      obtain ⟨w3, hw3⟩ : ∃ w3, w3 = w2.setCell ⟨wr.heap.size, 6, none⟩ (.slice A2 p.x.length c2) := ⟨_, rfl⟩
      rw [← hw3] at hg3
      have hbw3 : Below wr.heap.size wr w3 := (HB1.out.trans (hb2.mono (by omega))).grown hg3 (by have := hb2.size; omega) (fun k e => by have := Option.some.inj e; omega)
      have own3 : w3.ownsRow wr.heap.size 5 1 (.slice A2 p.x.length c2) p.x.length (p.x.map (.int .u8)) := by
        have h1 := own2.kept hg3 (by
          rcases hb : (Value.slice A2 p.x.length c2).ownBlock with _ | k
          · exact .inl rfl
          · exact .inr fun e => by have := (own_base own2 hb).1; have := Option.some.inj e; omega)
        exact own_low (by simpa using h1) (by omega)
      have hbx3 : Box w3 wr.heap.size { p with A := A2, c := c2 } := by
        obtain ⟨a0, a1, a2, a3, a4, a5, a6, af⟩ := hbx2
        rw [hw3]
        refine ⟨?_, ?_, ?_, ?_, ?_, ?_, ?_, fun j => ?_⟩
        · rw [World.cell?_setCell_other _ _ _ _ (by simp)]; exact a0
        · rw [World.cell?_setCell_other _ _ _ _ (by simp)]; exact a1
        · rw [World.cell?_setCell_other _ _ _ _ (by simp)]; exact a2
        · rw [World.cell?_setCell_other _ _ _ _ (by simp)]; exact a3
        · rw [World.cell?_setCell_other _ _ _ _ (by simp)]; exact a4
        · rw [World.cell?_setCell_other _ _ _ _ (by simp)]; exact a5
        · exact World.cell?_setCell_same _ _ _ a6
        · have := af j; simpa using this
      obtain ⟨x0, x1, x2, x3, x4, x5, x6, xf⟩ := hbx2
      have HBW3 := hid hbw3
      have HO3 := hid own3
      have HBX3 := hid hbx3
      have HW3 := hid hw3
      have hz3 := hbw3.size
      clear hbw3 own3 hbx3 hw3 hg3 hb2 hg2 own2
      go_upto_region 6 with fail
      rw [← HW3.out]
      clear x0 x1 x2 x3 x4 x5 x6 xf
      obtain ⟨x0, x1, x2, x3, x4, x5, x6, xf⟩ := HBX3.out
      dsimp only at x0 x1 x2 x3 x4 x5 x6
      have HQR : Hid (Src (w3.alloc (.cells #[.int .u32 p.t, .int .u16 p.s, .int .u16 p.q, .bool p.b, .bool p.e, .bool p.u, .slice A2 p.x.length c2] 40)) (some ⟨w3.heap.size, 0, none⟩) 1 [{ p with A := A2, c := c2 }]) := hid (Src.one (Box.new w3 { p with A := A2, c := c2 }))
      go_wp2_with (at_builtin; go_must (refine wpList_app_pm rfl _ _ rfl w.heap.size A3 c3 L L.length rfl rfl (Base.ownsRow_later HR.out (HBW3.out.trans ((below_alloc (Below.refl _ _) _).mono (by omega)))) (some ⟨w3.heap.size, 0, none⟩) 1 1 [{ p with A := A2, c := c2 }] rfl rfl HQR.out (by omega) (by simp; omega) ?_))
      intro A6 c6 w6 hr6 hg6 _
      have hga : w3.grownBy w6 (Value.slice A3 L.length c3).ownBlock := grown_below (below_alloc (Below.refl _ _) _) hg6
      have hO3 : Owns w.heap.size w3 l (L ++ [{ p with A := A2, c := c2 }]) := HO.out.step HBW3.out hz hlt ⟨by rw [HP.out], HO3.out⟩
      have hO6 := hO3.kept (Base.ownsRow_later HR.out HBW3.out) hga
      have hw6 : Below w.heap.size w w6 := (HW.out.trans (HBW3.out.mono hz)).grown hga (by omega) (fun k e => (own_base HR.out e).1)
      have hlen6 : L.length + 1 = (L ++ [{ p with A := A2, c := c2 }]).length := by simp
      have HL6 := hid hlen6
      have HR6 := hid hr6
      have HO6 := hid hO6
      have HW6 := hid hw6
      clear hr6 hg6 hga hO3 hO6 hw6 hlen6
      go_wp2
      go_roundw
      case rel => exact ⟨L ++ [{ p with A := A2, c := c2 }], A6, c6, by rw [← HL6.out]; omega, by rw [← HL6.out]; simp, by rw [HL6.out], HR6, HO6, HW6⟩
      case measure => simp [numV]; omega
    · have hle : L.length = l.length := by omega
      have HLE := hid hle
      clear hle
      go_wp2
      go_ret
      exact ⟨A3, c3, L, rfl, HLE.out, HR.out, HO.out, HW.out⟩
set_option maxHeartbeats 4000000 in
theorem msg1_calls (w : World) (b1 b2 : Nat) (s : Int) (u : Bool) (x : List Int) (A A' : Option Addr) (c c' : Nat) (h1 : MB w b1 s u A x.length c) (h2 : MB w b2 s u A' x.length c') (t1 : Txt w A x) (t2 : Txt w A' x) (n1 : A = none → c = 0) (n2 : A' = none → c' = 0) (hb : By x) :
    Calls Try.prog 15 #[.slice (some ⟨b1, 0, none⟩) 1 1, .slice (some ⟨b2, 0, none⟩) 1 1] w fun e w' => e = .returned (.bool true) ∧ ∃ n, w' = w.drewN n := by
  obtain ⟨a0, a1, a2, af⟩ := h1
  obtain ⟨d0, d1, d2, df⟩ := h2
  have hc1 : ∀ n, (convert 32 9 (.slice A x.length c)).run Try.prog (w.drewN n) = .ok (.string (strOf x)) (w.drewN n) := fun n => conv_txt (t1.below ((Below.refl _ _).drewN' n)) hb n1
  have hc2 : ∀ n, (convert 32 9 (.slice A' x.length c')).run Try.prog (w.drewN n) = .ok (.string (strOf x)) (w.drewN n) := fun n => conv_txt (t2.below ((Below.refl _ _).drewN' n)) hb n2
  clear t1 t2 n1 n2 hb
  go_enter Try.func15, Try.ntmps15
  go_wp2_with fail
  refine wp_loop_rounds 2 ?_
  rw [rounds_succ]
  go_wp2_with fail
  go_quiet (fail)
  go_wp2_with fail
  rw [rounds_succ]
  go_wp2
  go_ret
  exact ⟨rfl, _, rfl⟩
end Go.Proofs.Ythoammfpjheodaa.Rz
