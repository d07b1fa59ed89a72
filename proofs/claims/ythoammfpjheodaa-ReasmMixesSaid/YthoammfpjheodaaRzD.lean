import Derived.Test.YthoammfpjheodaaRzC
import Derived.Deep.RegionHeld3
namespace Go.Proofs.Ythoammfpjheodaa.Rz
open Go.ChangeShapes Go.WideShapes Go.ChangeAt Go.RowKit Go.Shelf MK
open Base (hid cell_new1 cell_old1 froz_new1 froz_old1)
attribute [local go_sem] Oper.semAt_some
set_option linter.unusedVariables false
set_option linter.unusedSimpArgs false
set_option maxRecDepth 100000
/-- A piece in a box. -/
structure Box (w : World) (b : Nat) (p : Pm) : Prop where
  c0 : w.cell? ⟨b, 0, none⟩ = some (.int .u32 p.t)
  c1 : w.cell? ⟨b, 1, none⟩ = some (.int .u16 p.s)
  c2 : w.cell? ⟨b, 2, none⟩ = some (.int .u16 p.q)
  c3 : w.cell? ⟨b, 3, none⟩ = some (.bool p.b)
  c4 : w.cell? ⟨b, 4, none⟩ = some (.bool p.e)
  c5 : w.cell? ⟨b, 5, none⟩ = some (.bool p.u)
  c6 : w.cell? ⟨b, 6, none⟩ = some (.slice p.A p.x.length p.c)
  fr : ∀ i, w.frozen? ⟨b, i, none⟩ = false
theorem Box.new (w : World) (p : Pm) : Box (w.alloc (.cells #[.int .u32 p.t, .int .u16 p.s, .int .u16 p.q, .bool p.b, .bool p.e, .bool p.u, .slice p.A p.x.length p.c] 40)) w.heap.size p := by
  have h := box_new w (.cells #[.int .u32 p.t, .int .u16 p.s, .int .u16 p.q, .bool p.b, .bool p.e, .bool p.u, .slice p.A p.x.length p.c] 40) rfl
  exact ⟨(box_at h 0).1, (box_at h 1).1, (box_at h 2).1, (box_at h 3).1, (box_at h 4).1, (box_at h 5).1, (box_at h 6).1, fun i => (box_at h i).2⟩
theorem Box.lt {w : World} {b : Nat} {p : Pm} (h : Box w b p) : b < w.heap.size := lt_of_cell h.c0
theorem Box.block {w w' : World} {b : Nat} {p : Pm} (h : Box w b p) (hb : w'.heap[b]? = w.heap[b]?) : Box w' b p :=
  ⟨(World.cell?_of_block (a := ⟨b, 0, none⟩) hb).trans h.c0, (World.cell?_of_block (a := ⟨b, 1, none⟩) hb).trans h.c1, (World.cell?_of_block (a := ⟨b, 2, none⟩) hb).trans h.c2, (World.cell?_of_block (a := ⟨b, 3, none⟩) hb).trans h.c3, (World.cell?_of_block (a := ⟨b, 4, none⟩) hb).trans h.c4, (World.cell?_of_block (a := ⟨b, 5, none⟩) hb).trans h.c5, (World.cell?_of_block (a := ⟨b, 6, none⟩) hb).trans h.c6, fun i => (World.frozen?_of_block (a := ⟨b, i, none⟩) hb).trans (h.fr i)⟩
theorem Box.below {w w' : World} {b : Nat} {p : Pm} (h : Box w b p) (hb : Below w.heap.size w w') : Box w' b p := h.block (hb.block b h.lt)
theorem Box.set {w : World} {b : Nat} {q : Pm} (h : Box w b q) (p : Pm) : Box (w.setCells b 0 [.int .u32 p.t, .int .u16 p.s, .int .u16 p.q, .bool p.b, .bool p.e, .bool p.u, .slice p.A p.x.length p.c]) b p := by
  have hc : ∀ i, i < 7 → (w.cell? ⟨b, i, none⟩).isSome = true := by
    intro i hi
    match i, hi with
    | 0, _ => rw [h.c0]; rfl
    | 1, _ => rw [h.c1]; rfl
    | 2, _ => rw [h.c2]; rfl
    | 3, _ => rw [h.c3]; rfl
    | 4, _ => rw [h.c4]; rfl
    | 5, _ => rw [h.c5]; rfl
    | 6, _ => rw [h.c6]; rfl
  have h7 := fin7 (v0 := .int .u32 p.t) (v1 := .int .u16 p.s) (v2 := .int .u16 p.q) (v3 := .bool p.b) (v4 := .bool p.e) (v5 := .bool p.u) (v6 := .slice p.A p.x.length p.c) hc
  refine ⟨h7 0 (by decide), h7 1 (by decide), h7 2 (by decide), h7 3 (by decide), h7 4 (by decide), h7 5 (by decide), h7 6 (by decide), fun i => ?_⟩
  have := h.fr i
  simpa [World.setCells] using this
theorem size_sets (b : Nat) : ∀ (vs : List Value) (o : Nat) (W : World), (W.setCells b o vs).heap.size = W.heap.size
  | [], _, _ => rfl
  | v :: vs, o, W => (size_sets b vs (o + 1) _).trans (by simp [World.setCell])
theorem Box.fn {w : World} {b : Nat} {p : Pm} (h : Box w b p) : ∀ i (hi : i < 7), w.cell? ⟨b, i, none⟩ = some ([.int .u32 p.t, .int .u16 p.s, .int .u16 p.q, .bool p.b, .bool p.e, .bool p.u, .slice p.A p.x.length p.c][i]'hi)
  | 0, _ => h.c0
  | 1, _ => h.c1
  | 2, _ => h.c2
  | 3, _ => h.c3
  | 4, _ => h.c4
  | 5, _ => h.c5
  | 6, _ => h.c6
set_option maxHeartbeats 4000000 in
theorem start_calls (w : World) (bp mb n : Nat) (m : List Pm) (p : Pm) (h : Bn w bp mb n m) (hu : U32 p.t) (hk : p.t ∈ keys m) (hm : m.length ≤ 1000000) :
    Calls Try.prog 91 #[.pointer (some ⟨bp, 0, none⟩), p.val] w fun e w' => e = .returned (back m m.length p).val ∧ Below w.heap.size w w' := by
  have H := hid h
  have hlt := h.lt
  clear h
  have HP0 : Hid (Box ((w.alloc (.cells #[.int .u32 p.t, .int .u16 p.s, .int .u16 p.q, .bool p.b, .bool p.e, .bool p.u, .slice p.A p.x.length p.c] 40)).alloc (.cells #[.int .u32 0, .int .u16 0, .int .u16 0, .bool false, .bool false, .bool false, .slice none 0 0] 40)) w.heap.size p) := hid ((Box.new w p).below (below_alloc (Below.refl _ _) _))
  have HR0 : Hid (Box ((w.alloc (.cells #[.int .u32 p.t, .int .u16 p.s, .int .u16 p.q, .bool p.b, .bool p.e, .bool p.u, .slice p.A p.x.length p.c] 40)).alloc (.cells #[.int .u32 0, .int .u16 0, .int .u16 0, .bool false, .bool false, .bool false, .slice none 0 0] 40)) (w.heap.size + 1) ⟨0, 0, 0, false, false, false, none, [], 0⟩) := hid (by
    have := Box.new (w.alloc (.cells #[.int .u32 p.t, .int .u16 p.s, .int .u16 p.q, .bool p.b, .bool p.e, .bool p.u, .slice p.A p.x.length p.c] 40)) ⟨0, 0, 0, false, false, false, none, [], 0⟩
    rw [World.size_alloc] at this
    exact this)
  have HU := hid hu
  have HK := hid hk
  clear hu hk
  have hv : p.val = .agg #[.int .u32 p.t, .int .u16 p.s, .int .u16 p.q, .bool p.b, .bool p.e, .bool p.u, .slice p.A p.x.length p.c] := rfl
  rw [hv]
  clear hv
  go_enter Try.func91, Try.ntmps91
  go_wp2
  go_loopw [5] (fun v5 wr => ∃ (j : Nat) (r : Pm), j ≤ m.length ∧ wr.heap.size = w.heap.size + 2 + j ∧ Hid (BackAt m p j r) ∧ Hid (Box wr w.heap.size r) ∧ Hid (∃ r', Box wr (w.heap.size + 1) r') ∧ Hid (Below w.heap.size w wr)) (fun _ wr => (w.heap.size + 2 + m.length) - wr.heap.size)
  case atStart => exact ⟨0, p, Nat.zero_le _, by simp, hid (BackAt.zero HU.out HK.out), HP0, hid ⟨_, HR0.out⟩, hid (below_alloc (below_alloc (Below.refl _ _) _) _)⟩
  case round =>
    obtain ⟨j, r, hj, hsz, HA, HB, HR, HW⟩ := hrel
    have hj1 := HA.out.lt (by omega) hj
    have hz1 : w.heap.size < wr.heap.size := by omega
    have hz2 : w.heap.size + 1 < wr.heap.size := by omega
    obtain ⟨r', hr'⟩ := HR.out
    have HRB := hid hr'
    obtain ⟨d0, d1, d2, d3, d4, d5, d6, df⟩ := hr'
    have hback : ∀ b, r.b = b → (b = true ∨ ∀ q, look m (step r.t (-1)) = some q → q.e = true) → (back m m.length p) = r := fun b e hs => HA.out.stop hj1 (hs.imp (fun h => e.trans h) id)
    have HBK := hid hback
    clear hback
    have FIN : Hid (∀ X : World, Below wr.heap.size wr X → Box (X.setCells (w.heap.size + 1) 0 [.int .u32 r.t, .int .u16 r.s, .int .u16 r.q, .bool r.b, .bool r.e, .bool r.u, .slice r.A r.x.length r.c]) (w.heap.size + 1) r ∧ Below w.heap.size w (X.setCells (w.heap.size + 1) 0 [.int .u32 r.t, .int .u16 r.s, .int .u16 r.q, .bool r.b, .bool r.e, .bool r.u, .slice r.A r.x.length r.c])) := hid fun X hX =>
      ⟨((⟨d0, d1, d2, d3, d4, d5, d6, df⟩ : Box wr (w.heap.size + 1) r').below hX).set r, (HW.out.trans (hX.mono (by omega))).grown (setCells_grown _ _ _ _) (by have := hX.size; omega) (fun k e => by have := Option.some.inj e; omega)⟩
    obtain ⟨c0, c1, c2, c3, c4, c5, c6, cf⟩ := HB.out
    cases hb : r.b with
    | true =>
      rw [hb] at c3
      have HBB := hid hb
      clear hb
      go_wp2
      rw [HBB.out] at FIN
      refine bodyPost_ret (results7 rfl rfl (by have := (FIN.out _ (Below.refl _ _)).1.fn; rw [HBB.out] at this; exact this)) rfl ⟨?_, (FIN.out _ (Below.refl _ _)).2⟩
      rw [HBK.out _ rfl (.inl HBB.out), Pm.val, HBB.out]
    | false =>
      rw [hb] at c3
      have hS : ∀ w', Below wr.heap.size wr w' → w'.cell? ⟨bp, 0, none⟩ = some (.map (some mb)) ∧ w'.cell? ⟨w.heap.size, 0, none⟩ = some (.int .u32 r.t) ∧ (Instr.lookup 102 (.map (some mb)) (.int .u32 (step r.t (-1))) true).run Try.prog w' = .ok (.tuple #[((look m (step r.t (-1))).map Pm.val).getD zP, .bool (look m (step r.t (-1))).isSome]) w' := fun w' hw' =>
        ⟨(hw'.cell (p := ⟨bp, 0, none⟩) (by show bp < _; omega)).trans ((HW.out.cell (p := ⟨bp, 0, none⟩) hlt.1).trans H.out.ptr), (hw'.cell (p := ⟨w.heap.size, 0, none⟩) (by show w.heap.size < _; omega)).trans c0, ((H.out.below HW.out).below hw').look (step_u _ _)⟩
      cases hq : look m (step r.t (-1)) with
      | none =>
        rw [hq] at hS
        simp only [Option.map_none, Option.getD_none, Option.isSome_none, zP] at hS
        have HSS := hid hS
        have HQ := hid hq
        have HBB := hid hb
        clear hq hb hS
        go_wp2
        go_region_held3 (fun w' => w'.cell? ⟨bp, 0, none⟩ = some (.map (some mb)) ∧ w'.cell? ⟨w.heap.size, 0, none⟩ = some (.int .u32 r.t) ∧ (Instr.lookup 102 (.map (some mb)) (.int .u32 (step r.t (-1))) true).run Try.prog w' = .ok (.tuple #[.agg #[.int .u32 0, .int .u16 0, .int .u16 0, .bool false, .bool false, .bool false, .slice none 0 0], .bool false]) w') ((refine HSS.out _ ?_; first | assumption | exact Below.drew (Below.refl _ _) | exact below_alloc (Below.drew (Below.refl _ _)) _ | exact Below.drew (below_alloc (Below.refl _ _) _))) ((go_at_call 45; refine (step_calls r.t (-1) _).mono ?_; rintro e w' ⟨rfl, rfl⟩))
        all_goals
            have hX : Below wr.heap.size wr (wr.alloc (.cells #[.int .u32 0, .int .u16 0, .int .u16 0, .bool false, .bool false, .bool false, .slice none 0 0] 40)).drew := Below.drew (below_alloc (Below.refl _ _) _)
            have hN : Box (wr.alloc (.cells #[.int .u32 0, .int .u16 0, .int .u16 0, .bool false, .bool false, .bool false, .slice none 0 0] 40)).drew wr.heap.size ⟨0, 0, 0, false, false, false, none, [], 0⟩ := (Box.new wr ⟨0, 0, 0, false, false, false, none, [], 0⟩).below (Below.drew (Below.refl _ _))
            rw [hsz] at hN
            have hXs : (wr.alloc (.cells #[.int .u32 0, .int .u16 0, .int .u16 0, .bool false, .bool false, .bool false, .slice none 0 0] 40)).drew.heap.size = wr.heap.size + 1 := by simp
            generalize (wr.alloc (.cells #[.int .u32 0, .int .u16 0, .int .u16 0, .bool false, .bool false, .bool false, .slice none 0 0] 40)).drew = X at hX hN hXs ⊢
            obtain ⟨x0, x1, x2, x3, x4, x5, x6, xf⟩ := HB.out.below hX
            obtain ⟨y0, y1, y2, y3, y4, y5, y6, yf⟩ := HRB.out.below hX
            obtain ⟨z0, z1, z2, z3, z4, z5, z6, zf⟩ := hN
            rw [HBB.out] at x3
            have HX := hid hX
            clear hX
            go_wp2
            rw [HBB.out] at FIN
            refine bodyPost_ret (results7 rfl rfl (by have := (FIN.out _ HX.out).1.fn; rw [HBB.out] at this; exact this)) rfl ⟨?_, (FIN.out _ HX.out).2⟩
            rw [HBK.out _ rfl (.inr fun q' hq => by rw [HQ.out] at hq; cases hq), Pm.val, HBB.out]
      | some q =>
        rw [hq] at hS
        simp only [Option.map_some, Option.getD_some, Option.isSome_some, Pm.val] at hS
        have HSS := hid hS
        have HQ := hid hq
        have HBB := hid hb
        clear hq hb hS
        cases he : q.e with
        | true =>
          rw [he] at HSS
          have HE := hid he
          clear he
          go_wp2
          go_region_held3 (fun w' => w'.cell? ⟨bp, 0, none⟩ = some (.map (some mb)) ∧ w'.cell? ⟨w.heap.size, 0, none⟩ = some (.int .u32 r.t) ∧ (Instr.lookup 102 (.map (some mb)) (.int .u32 (step r.t (-1))) true).run Try.prog w' = .ok (.tuple #[.agg #[.int .u32 q.t, .int .u16 q.s, .int .u16 q.q, .bool q.b, .bool true, .bool q.u, .slice q.A q.x.length q.c], .bool true]) w') ((refine HSS.out _ ?_; first | assumption | exact Below.drew (Below.refl _ _) | exact below_alloc (Below.drew (Below.refl _ _)) _ | exact Below.drew (below_alloc (Below.refl _ _) _))) ((go_at_call 45; refine (step_calls r.t (-1) _).mono ?_; rintro e w' ⟨rfl, rfl⟩))
          all_goals
            have hX : Below wr.heap.size wr (wr.alloc (.cells #[.int .u32 q.t, .int .u16 q.s, .int .u16 q.q, .bool q.b, .bool true, .bool q.u, .slice q.A q.x.length q.c] 40)).drew := Below.drew (below_alloc (Below.refl _ _) _)
            have hN : Box (wr.alloc (.cells #[.int .u32 q.t, .int .u16 q.s, .int .u16 q.q, .bool q.b, .bool true, .bool q.u, .slice q.A q.x.length q.c] 40)).drew wr.heap.size q := (by have := (Box.new wr q).below (Below.drew (Below.refl _ _)); rw [HE.out] at this; exact this)
            rw [hsz] at hN
            have hXs : (wr.alloc (.cells #[.int .u32 q.t, .int .u16 q.s, .int .u16 q.q, .bool q.b, .bool true, .bool q.u, .slice q.A q.x.length q.c] 40)).drew.heap.size = wr.heap.size + 1 := by simp
            generalize (wr.alloc (.cells #[.int .u32 q.t, .int .u16 q.s, .int .u16 q.q, .bool q.b, .bool true, .bool q.u, .slice q.A q.x.length q.c] 40)).drew = X at hX hN hXs ⊢
            obtain ⟨x0, x1, x2, x3, x4, x5, x6, xf⟩ := HB.out.below hX
            obtain ⟨y0, y1, y2, y3, y4, y5, y6, yf⟩ := HRB.out.below hX
            obtain ⟨z0, z1, z2, z3, z4, z5, z6, zf⟩ := hN
            rw [HBB.out] at x3
            rw [HE.out] at z4
            have HX := hid hX
            clear hX
            go_wp2
            rw [HBB.out] at FIN
            refine bodyPost_ret (results7 rfl rfl (by have := (FIN.out _ HX.out).1.fn; rw [HBB.out] at this; exact this)) rfl ⟨?_, (FIN.out _ HX.out).2⟩
            rw [HBK.out _ rfl (.inr fun q' hq => by rw [HQ.out] at hq; cases hq; exact HE.out), Pm.val, HBB.out]
        | false =>
          rw [he] at HSS
          have HE := hid he
          clear he
          go_wp2
          go_region_held3 (fun w' => w'.cell? ⟨bp, 0, none⟩ = some (.map (some mb)) ∧ w'.cell? ⟨w.heap.size, 0, none⟩ = some (.int .u32 r.t) ∧ (Instr.lookup 102 (.map (some mb)) (.int .u32 (step r.t (-1))) true).run Try.prog w' = .ok (.tuple #[.agg #[.int .u32 q.t, .int .u16 q.s, .int .u16 q.q, .bool q.b, .bool false, .bool q.u, .slice q.A q.x.length q.c], .bool true]) w') ((refine HSS.out _ ?_; first | assumption | exact Below.drew (Below.refl _ _) | exact below_alloc (Below.drew (Below.refl _ _)) _ | exact Below.drew (below_alloc (Below.refl _ _) _))) ((go_at_call 45; refine (step_calls r.t (-1) _).mono ?_; rintro e w' ⟨rfl, rfl⟩))
          all_goals
            have hX : Below wr.heap.size wr (wr.alloc (.cells #[.int .u32 q.t, .int .u16 q.s, .int .u16 q.q, .bool q.b, .bool false, .bool q.u, .slice q.A q.x.length q.c] 40)).drew := Below.drew (below_alloc (Below.refl _ _) _)
            have hN : Box (wr.alloc (.cells #[.int .u32 q.t, .int .u16 q.s, .int .u16 q.q, .bool q.b, .bool false, .bool q.u, .slice q.A q.x.length q.c] 40)).drew wr.heap.size q := (by have := (Box.new wr q).below (Below.drew (Below.refl _ _)); rw [HE.out] at this; exact this)
            rw [hsz] at hN
            have hXs : (wr.alloc (.cells #[.int .u32 q.t, .int .u16 q.s, .int .u16 q.q, .bool q.b, .bool false, .bool q.u, .slice q.A q.x.length q.c] 40)).drew.heap.size = wr.heap.size + 1 := by simp
            generalize (wr.alloc (.cells #[.int .u32 q.t, .int .u16 q.s, .int .u16 q.q, .bool q.b, .bool false, .bool q.u, .slice q.A q.x.length q.c] 40)).drew = X at hX hN hXs ⊢
            obtain ⟨x0, x1, x2, x3, x4, x5, x6, xf⟩ := HB.out.below hX
            obtain ⟨y0, y1, y2, y3, y4, y5, y6, yf⟩ := HRB.out.below hX
            obtain ⟨z0, z1, z2, z3, z4, z5, z6, zf⟩ := hN
            rw [HBB.out] at x3
            have HX := hid hX
            clear hX
            rw [HE.out] at z4
            go_wp2
            have hbx := (HB.out.below HX.out).set q
            rw [HE.out] at hbx
            have hgx := setCells_grown w.heap.size [.int .u32 q.t, .int .u16 q.s, .int .u16 q.q, .bool q.b, .bool false, .bool q.u, .slice q.A q.x.length q.c] 0 X
            have hsx : (X.setCells w.heap.size 0 [.int .u32 q.t, .int .u16 q.s, .int .u16 q.q, .bool q.b, .bool false, .bool q.u, .slice q.A q.x.length q.c]).heap.size = w.heap.size + 2 + (j + 1) := by
              rw [size_sets]; omega
            refine ⟨⟨j + 1, q, hj1, hsx, hid (HA.out.go hj1 HBB.out HQ.out HE.out), hid hbx, hid ⟨r', (HRB.out.below HX.out).block (hgx.block _ (by omega) (fun e => by have := Option.some.inj e; omega))⟩, hid ((HW.out.trans (HX.out.mono (by omega))).grown hgx (by omega) (fun k e => by have := Option.some.inj e; omega))⟩, ?_⟩
            refine Nat.lt_of_le_of_lt (Nat.le_of_eq (congrArg (fun z => w.heap.size + 2 + m.length - z) hsx)) ?_
            show w.heap.size + 2 + m.length - (w.heap.size + 2 + (j + 1)) < _
            omega
end Go.Proofs.Ythoammfpjheodaa.Rz
