import Derived.Test.YthoammfpjheodaaRzD
namespace Go.Proofs.Ythoammfpjheodaa.Rz
open Go.ChangeShapes Go.WideShapes Go.ChangeAt Go.RowKit Go.Shelf MK
open Base (hid cell_new1 cell_old1 froz_new1 froz_old1)
attribute [local go_sem] Oper.semAt_some
set_option linter.unusedVariables false
set_option linter.unusedSimpArgs false
set_option maxRecDepth 100000
/-- A piece's cells. -/
def Pm.cells (p : Pm) : List Value := [.int .u32 p.t, .int .u16 p.s, .int .u16 p.q, .bool p.b, .bool p.e, .bool p.u, .slice p.A p.x.length p.c]
def cellsP (l : List Pm) : List Value := l.flatMap Pm.cells
theorem cellsP_len : ∀ (l : List Pm), (cellsP l).length = l.length * 7
  | [] => rfl
  | p :: l => by
    have := cellsP_len l
    unfold cellsP at this ⊢
    rw [List.flatMap_cons, List.length_append, this, List.length_cons]
    show 7 + _ = _
    omega
theorem cellsP_app (l r : List Pm) : cellsP (l ++ r) = cellsP l ++ cellsP r := by unfold cellsP; rw [List.flatMap_append]
theorem cellsP_one : ∀ (l : List Pm), ∀ u ∈ cellsP l, u.oneCell' = true := by
  intro l u hu
  unfold cellsP at hu
  obtain ⟨p, _, hp⟩ := List.mem_flatMap.1 hu
  unfold Pm.cells at hp
  simp only [List.mem_cons, List.not_mem_nil, or_false] at hp
  rcases hp with rfl | rfl | rfl | rfl | rfl | rfl | rfl <;> rfl
theorem info40 : (Try.prog.info? 40).map (fun i => (i.zero, i.size, i.bytes)) = some (some zP, 7, 40) := by kernel_rfl
theorem cellsP_get : ∀ (l : List Pm) (i k : Nat) (hi : i < l.length) (hk : k < 7), (cellsP l)[i * 7 + k]? = some (l[i].cells[k]'hk)
  | p :: l, 0, k, hi, hk => by
    unfold cellsP
    rw [List.flatMap_cons, List.getElem?_append_left (by show 0 * 7 + k < 7; omega)]
    simp only [Nat.zero_mul, Nat.zero_add, List.getElem_cons_zero]
    exact List.getElem?_eq_getElem hk
  | p :: l, i + 1, k, hi, hk => by
    have ih := cellsP_get l i k (by simpa using hi) hk
    unfold cellsP at ih ⊢
    rw [List.flatMap_cons, List.getElem?_append_right (by show 7 ≤ _; omega)]
    simp only [List.getElem_cons_succ]
    rw [show (i + 1) * 7 + k - (Pm.cells p).length = i * 7 + k by show _ - 7 = _; omega]
    exact ih
theorem add0 (g i : Nat) : (⟨g, 0, none⟩ : Addr).add i = ⟨g, i, none⟩ := by
  unfold Addr.add
  split <;> simp_all
/-- The list of pieces in a row. -/
def Row (w : World) (B : Nat) (A : Option Addr) (c : Nat) (l : List Pm) : Prop := w.ownsRow B 40 7 (.slice A l.length c) l.length (cellsP l)
theorem Row.at {w : World} {B : Nat} {A : Option Addr} {c : Nat} {l : List Pm} (h : Row w B A c l) (i : Nat) (hi : i < l.length) : ∃ g, A = some ⟨g, 0, none⟩ ∧ B ≤ g ∧ g < w.heap.size ∧ ∀ k (hk : k < 7), w.cell? ⟨g, i * 7 + k, none⟩ = some (l[i].cells[k]'hk) := by
  have h0 := h
  rcases h.2 with ⟨e, _⟩ | ⟨g, cap, cur, e, hb, hg, _⟩
  · simp only [Value.slice.injEq] at e
    omega
  · simp only [Value.slice.injEq] at e
    obtain ⟨rfl, _, rfl⟩ := e
    refine ⟨g, rfl, hb, (Array.getElem?_eq_some_iff.1 hg).1, fun k hk => ?_⟩
    have := h0.cells (g := g) rfl (i * 7 + k) _ (cellsP_get l i k hi hk)
    rwa [add0] at this
theorem Row.below {w w' : World} {B : Nat} {A : Option Addr} {c : Nat} {l : List Pm} (h : Row w B A c l) (hb : Below w.heap.size w w') : Row w' B A c l := Base.ownsRow_later h hb
theorem Row.made (w : World) (p : Pm) : Row (w.alloc (.cells #[.int .u32 p.t, .int .u16 p.s, .int .u16 p.q, .bool p.b, .bool p.e, .bool p.u, .slice p.A p.x.length p.c] 40)) w.heap.size (some ⟨w.heap.size, 0, none⟩) 1 [p] :=
  ⟨rfl, .inr ⟨w.heap.size, 1, #[.int .u32 p.t, .int .u16 p.s, .int .u16 p.q, .bool p.b, .bool p.e, .bool p.u, .slice p.A p.x.length p.c], rfl, Nat.le_refl _, box_new w _ rfl, Nat.le_refl _, by decide, rfl, rfl⟩⟩
def lenV : Value → Nat
  | .slice _ n _ => n
  | _ => 0
theorem new7 (w : World) (p : Pm) (j : Nat) (u : Value) (h : (cellsP [p])[j]? = some u) : (w.alloc (.cells #[.int .u32 p.t, .int .u16 p.s, .int .u16 p.q, .bool p.b, .bool p.e, .bool p.u, .slice p.A p.x.length p.c] 40)).cell? ((⟨w.heap.size, 0, none⟩ : Addr).add j) = some u := by
  rw [add0, (box_at (box_new w _ rfl) j).1]
  unfold cellsP Pm.cells at h
  simpa using h
theorem new7' (w : World) (p : Pm) (k j : Nat) (u : Value) (hk : k = w.heap.size) (h : (cellsP [p])[j]? = some u) : (w.alloc (.cells #[.int .u32 p.t, .int .u16 p.s, .int .u16 p.q, .bool p.b, .bool p.e, .bool p.u, .slice p.A p.x.length p.c] 40)).cell? ((⟨k, 0, none⟩ : Addr).add j) = some u := by
  subst hk
  exact new7 w p j u h
theorem grown_below {w w1 w2 : World} {row : Option Nat} (h : Below w.heap.size w w1) (hg : w1.grownBy w2 row) : w.grownBy w2 row :=
  ⟨hg.os.trans h.os, hg.tape.trans h.tape, hg.output.trans h.output, Nat.le_trans h.size hg.size, fun k h1 h2 => (hg.block k (Nat.lt_of_lt_of_le h1 h.size) h2).trans (h.block k h1)⟩
theorem Row.kept {w w' : World} {B b : Nat} {A : Option Addr} {c : Nat} {l : List Pm} (h : Row w B A c l) (hb : b < B) (hg : w.grownBy w' (some b)) : Row w' B A c l := by
  refine World.ownsRow.kept h hg ?_
  rcases hq : (Value.slice A l.length c).ownBlock with _ | q
  · exact .inl rfl
  · refine .inr fun e => ?_
    have := (own_base h hq).1
    have := Option.some.inj e
    omega
theorem back_mem (m : List Pm) : ∀ (n : Nat) (p : Pm), back m n p = p ∨ back m n p ∈ m
  | 0, p => .inl rfl
  | n + 1, p => by
    rw [back]
    split
    · exact .inl rfl
    · cases hl : look m (step p.t (-1)) with
      | none => exact .inl rfl
      | some q =>
        show (if q.e = true then p else back m n q) = p ∨ (if q.e = true then p else back m n q) ∈ m
        split
        · exact .inl rfl
        · rcases back_mem m n q with h | h
          · rw [h]; exact .inr (look_mem hl).1
          · exact .inr h
set_option maxHeartbeats 1000000 in
theorem part_calls (w : World) (bp mb n : Nat) (m : List Pm) (p : Pm) (h : Bn w bp mb n m) (hu : U32 p.t) (hk : p.t ∈ keys m) (hm : m.length ≤ 1000000) :
    Calls Try.prog 49 #[.pointer (some ⟨bp, 0, none⟩), p.val] w fun e w' => ∃ A c, e = .returned (.slice A (part m p).length c) ∧ Row w' w.heap.size A c (part m p) ∧ Below w.heap.size w w' := by
  obtain ⟨i0, hi, hi0, hi1, hi2⟩ := info_parts info40
  have H := hid h
  have hlt := h.lt
  clear h
  have HU := hid hu
  have HK := hid hk
  clear hu hk
  have hv : p.val = .agg #[.int .u32 p.t, .int .u16 p.s, .int .u16 p.q, .bool p.b, .bool p.e, .bool p.u, .slice p.A p.x.length p.c] := rfl
  have HV := hid hv
  rw [hv]
  clear hv
  obtain ⟨f, hf⟩ : ∃ f, f = back m m.length p := ⟨_, rfl⟩
  have HF := hid hf
  clear hf
  go_enter Try.func49, Try.ntmps49
  go_wp2_with (go_at_call 91; go_must (rw [← HV.out]; refine (start_calls _ bp mb n m p (H.out.below (below_alloc (Below.refl _ _) _)) HU.out HK.out hm).mono ?_; rintro e w1 ⟨he, hb1⟩; rw [← HF.out, show f.val = .agg #[.int .u32 f.t, .int .u16 f.s, .int .u16 f.q, .bool f.b, .bool f.e, .bool f.u, .slice f.A f.x.length f.c] from rfl] at he; subst he; have HB1 := hid hb1; obtain ⟨c0, c1, c2, c3, c4, c5, c6, cf⟩ := (Box.new w p).below hb1; have HBX : Hid (Box w1 w.heap.size p) := hid ((Box.new w p).below hb1); clear hb1))
  have hfm : f.t ∈ keys m := by
    rcases back_mem m m.length p with h | h
    · rw [HF.out, h]; exact HK.out
    · rw [HF.out]; exact List.mem_map.2 ⟨_, h, rfl⟩
  have hfu : U32 f.t := by
    rcases back_mem m m.length p with h | h
    · rw [HF.out, h]; exact HU.out
    · rw [HF.out]; exact (H.out.ok _ h).u
  have HFM := hid hfm
  have HFU := hid hfu
  clear hfm hfu
  obtain ⟨Y, hY⟩ : ∃ Y, Y = w1.setCells w.heap.size 0 [.int .u32 f.t, .int .u16 f.s, .int .u16 f.q, .bool f.b, .bool f.e, .bool f.u, .slice f.A f.x.length f.c] := ⟨_, rfl⟩
  have hYb : Box Y w.heap.size f := by rw [hY]; exact HBX.out.set f
  have hYw : Below w.heap.size w Y := by
    rw [hY]
    have hs := HB1.out.size
    simp only [World.size_alloc] at hs
    exact ((below_alloc (Below.refl _ w) _).trans (HB1.out.mono (by simp))).grown (setCells_grown _ _ _ _) (by omega) (fun k e => by have := Option.some.inj e; omega)
  have hYs : w.heap.size < Y.heap.size := hYb.lt
  have HY1 : Hid (Box (Y.alloc (.cells #[.int .u32 f.t, .int .u16 f.s, .int .u16 f.q, .bool f.b, .bool f.e, .bool f.u, .slice f.A f.x.length f.c] 40)) w.heap.size f) := hid (hYb.below (below_alloc (Below.refl _ _) _))
  have HY2 : Hid (Row (Y.alloc (.cells #[.int .u32 f.t, .int .u16 f.s, .int .u16 f.q, .bool f.b, .bool f.e, .bool f.u, .slice f.A f.x.length f.c] 40)) (w.heap.size + 1) (some ⟨Y.heap.size, 0, none⟩) 1 [f]) := hid (own_low (Row.made Y f) (by omega))
  have HY3 : Hid (Below w.heap.size w (Y.alloc (.cells #[.int .u32 f.t, .int .u16 f.s, .int .u16 f.q, .bool f.b, .bool f.e, .bool f.u, .slice f.A f.x.length f.c] 40))) := hid (hYw.trans ((below_alloc (Below.refl _ Y) _).mono hYw.size))
  go_loopw [5] (fun v5 wr => ∃ (j : Nat) (l : List Pm) (r : Pm) (A5 : Option Addr) (e5 : Nat), v5 = .slice A5 l.length e5 ∧ j ≤ m.length ∧ Hid (FwdAt m f l j r) ∧ Hid (Box wr w.heap.size r) ∧ Hid (Row wr (w.heap.size + 1) A5 e5 l) ∧ Hid (Below w.heap.size w wr)) (fun v5 _ => m.length - lenV v5)
  case atStart =>
    refine ⟨0, [f], f, _, 1, rfl, Nat.zero_le _, hid (FwdAt.zero HFU.out HFM.out), ?_, ?_, ?_⟩
    · have := HY1.out; rw [hY] at this; exact this
    · have := HY2.out
      have hYz : Y.heap.size = w1.heap.size := by rw [hY, size_sets]
      rw [hYz, hY] at this
      exact this
    · have := HY3.out; rw [hY] at this; exact this
  case round =>
    obtain ⟨j, l, r, A5, e5, rfl, hj, HA, HB, HR, HW⟩ := hrel
    have hj1 := HA.out.lt (by omega) hj
    have HLL := hid HA.out.len
    have hl6 : l.length ≤ 1000000 := by have := HA.out.len; omega
    have hz1 : w.heap.size < wr.heap.size := HB.out.lt
    have HST : Hid (∀ (hs : r.e = true ∨ ∀ q, look m (step r.t 1) = some q → q.b = true), part m p = l) := hid (fun hs => by
      unfold part
      rw [← HF.out]
      exact HA.out.stop hj1 hs)
    obtain ⟨c0, c1, c2, c3, c4, c5, c6, cf⟩ := HB.out
    cases he : r.e with
    | true =>
      rw [he] at c4
      have HE := hid he
      clear he
      go_wp2
      go_ret
      have e := HST.out (.inl HE.out)
      rw [e]
      exact ⟨A5, e5, rfl, own_low HR.out (by omega), HW.out⟩
    | false =>
      rw [he] at c4
      have hS : ∀ w', Below wr.heap.size wr w' → w'.cell? ⟨bp, 0, none⟩ = some (.map (some mb)) ∧ w'.cell? ⟨w.heap.size, 0, none⟩ = some (.int .u32 r.t) ∧ (Instr.lookup 102 (.map (some mb)) (.int .u32 (step r.t 1)) true).run Try.prog w' = .ok (.tuple #[((look m (step r.t 1)).map Pm.val).getD zP, .bool (look m (step r.t 1)).isSome]) w' := fun w' hw' =>
        ⟨(hw'.cell (p := ⟨bp, 0, none⟩) (by show bp < _; omega)).trans ((HW.out.cell (p := ⟨bp, 0, none⟩) hlt.1).trans H.out.ptr), (hw'.cell (p := ⟨w.heap.size, 0, none⟩) (by show w.heap.size < _; omega)).trans c0, ((H.out.below HW.out).below hw').look (step_u _ _)⟩
      cases hq : look m (step r.t 1) with
      | none =>
        rw [hq] at hS
        simp only [Option.map_none, Option.getD_none, Option.isSome_none, zP] at hS
        have HSS := hid hS
        have HQ := hid hq
        have HE := hid he
        clear hq he hS
        go_wp2
        go_region_held3 (fun w' => w'.cell? ⟨bp, 0, none⟩ = some (.map (some mb)) ∧ w'.cell? ⟨w.heap.size, 0, none⟩ = some (.int .u32 r.t) ∧ (Instr.lookup 102 (.map (some mb)) (.int .u32 (step r.t 1)) true).run Try.prog w' = .ok (.tuple #[.agg #[.int .u32 0, .int .u16 0, .int .u16 0, .bool false, .bool false, .bool false, .slice none 0 0], .bool false]) w') ((refine HSS.out _ ?_; first | assumption | exact Below.drew (Below.refl _ _) | exact below_alloc (Below.drew (Below.refl _ _)) _ | exact Below.drew (below_alloc (Below.refl _ _) _))) ((go_at_call 45; refine (step_calls r.t 1 _).mono ?_; rintro e w' ⟨rfl, rfl⟩))
        all_goals
            have hX : Below wr.heap.size wr (wr.alloc (.cells #[.int .u32 0, .int .u16 0, .int .u16 0, .bool false, .bool false, .bool false, .slice none 0 0] 40)).drew := Below.drew (below_alloc (Below.refl _ _) _)
            have hN : Box (wr.alloc (.cells #[.int .u32 0, .int .u16 0, .int .u16 0, .bool false, .bool false, .bool false, .slice none 0 0] 40)).drew wr.heap.size ⟨0, 0, 0, false, false, false, none, [], 0⟩ := (Box.new wr ⟨0, 0, 0, false, false, false, none, [], 0⟩).below (Below.drew (Below.refl _ _))
            have hXs : (wr.alloc (.cells #[.int .u32 0, .int .u16 0, .int .u16 0, .bool false, .bool false, .bool false, .slice none 0 0] 40)).drew.heap.size = wr.heap.size + 1 := by simp
            generalize (wr.alloc (.cells #[.int .u32 0, .int .u16 0, .int .u16 0, .bool false, .bool false, .bool false, .slice none 0 0] 40)).drew = X at hX hN hXs ⊢
            obtain ⟨x0, x1, x2, x3, x4, x5, x6, xf⟩ := HB.out.below hX
            obtain ⟨z0, z1, z2, z3, z4, z5, z6, zf⟩ := hN
            have HX := hid hX
            clear hX
            go_wp2
            go_ret
            have e := HST.out (.inr fun q' hq => by rw [HQ.out] at hq; cases hq)
            rw [e]
            exact ⟨A5, e5, rfl, own_low (HR.out.below HX.out) (by omega), HW.out.trans (HX.out.mono (by omega))⟩
      | some q =>
        rw [hq] at hS
        simp only [Option.map_some, Option.getD_some, Option.isSome_some, Pm.val] at hS
        have HSS := hid hS
        have HQ := hid hq
        have HE := hid he
        clear hq he hS
        cases hb : q.b with
        | true =>
          rw [hb] at HSS
          have HBB := hid hb
          clear hb
          go_wp2
          go_region_held3 (fun w' => w'.cell? ⟨bp, 0, none⟩ = some (.map (some mb)) ∧ w'.cell? ⟨w.heap.size, 0, none⟩ = some (.int .u32 r.t) ∧ (Instr.lookup 102 (.map (some mb)) (.int .u32 (step r.t 1)) true).run Try.prog w' = .ok (.tuple #[.agg #[.int .u32 q.t, .int .u16 q.s, .int .u16 q.q, .bool true, .bool q.e, .bool q.u, .slice q.A q.x.length q.c], .bool true]) w') ((refine HSS.out _ ?_; first | assumption | exact Below.drew (Below.refl _ _) | exact below_alloc (Below.drew (Below.refl _ _)) _ | exact Below.drew (below_alloc (Below.refl _ _) _))) ((go_at_call 45; refine (step_calls r.t 1 _).mono ?_; rintro e w' ⟨rfl, rfl⟩))
          all_goals
            have hX : Below wr.heap.size wr (wr.alloc (.cells #[.int .u32 q.t, .int .u16 q.s, .int .u16 q.q, .bool true, .bool q.e, .bool q.u, .slice q.A q.x.length q.c] 40)).drew := Below.drew (below_alloc (Below.refl _ _) _)
            have hN : Box (wr.alloc (.cells #[.int .u32 q.t, .int .u16 q.s, .int .u16 q.q, .bool true, .bool q.e, .bool q.u, .slice q.A q.x.length q.c] 40)).drew wr.heap.size q := (by have := (Box.new wr q).below (Below.drew (Below.refl _ _)); rw [HBB.out] at this; exact this)
            have hXs : (wr.alloc (.cells #[.int .u32 q.t, .int .u16 q.s, .int .u16 q.q, .bool true, .bool q.e, .bool q.u, .slice q.A q.x.length q.c] 40)).drew.heap.size = wr.heap.size + 1 := by simp
            generalize (wr.alloc (.cells #[.int .u32 q.t, .int .u16 q.s, .int .u16 q.q, .bool true, .bool q.e, .bool q.u, .slice q.A q.x.length q.c] 40)).drew = X at hX hN hXs ⊢
            obtain ⟨x0, x1, x2, x3, x4, x5, x6, xf⟩ := HB.out.below hX
            obtain ⟨z0, z1, z2, z3, z4, z5, z6, zf⟩ := hN
            rw [HBB.out] at z3
            have HX := hid hX
            clear hX
            go_wp2
            go_ret
            have e := HST.out (.inr fun q' hq => by rw [HQ.out] at hq; cases hq; exact HBB.out)
            rw [e]
            exact ⟨A5, e5, rfl, own_low (HR.out.below HX.out) (by omega), HW.out.trans (HX.out.mono (by omega))⟩
        | false =>
          rw [hb] at HSS
          have HBB := hid hb
          clear hb
          go_wp2
          go_region_held3 (fun w' => w'.cell? ⟨bp, 0, none⟩ = some (.map (some mb)) ∧ w'.cell? ⟨w.heap.size, 0, none⟩ = some (.int .u32 r.t) ∧ (Instr.lookup 102 (.map (some mb)) (.int .u32 (step r.t 1)) true).run Try.prog w' = .ok (.tuple #[.agg #[.int .u32 q.t, .int .u16 q.s, .int .u16 q.q, .bool false, .bool q.e, .bool q.u, .slice q.A q.x.length q.c], .bool true]) w') ((refine HSS.out _ ?_; first | assumption | exact Below.drew (Below.refl _ _) | exact below_alloc (Below.drew (Below.refl _ _)) _ | exact Below.drew (below_alloc (Below.refl _ _) _))) ((go_at_call 45; refine (step_calls r.t 1 _).mono ?_; rintro e w' ⟨rfl, rfl⟩))
          all_goals
            have hX : Below wr.heap.size wr (wr.alloc (.cells #[.int .u32 q.t, .int .u16 q.s, .int .u16 q.q, .bool false, .bool q.e, .bool q.u, .slice q.A q.x.length q.c] 40)).drew := Below.drew (below_alloc (Below.refl _ _) _)
            have hN : Box (wr.alloc (.cells #[.int .u32 q.t, .int .u16 q.s, .int .u16 q.q, .bool false, .bool q.e, .bool q.u, .slice q.A q.x.length q.c] 40)).drew wr.heap.size q := (by have := (Box.new wr q).below (Below.drew (Below.refl _ _)); rw [HBB.out] at this; exact this)
            have hXs : (wr.alloc (.cells #[.int .u32 q.t, .int .u16 q.s, .int .u16 q.q, .bool false, .bool q.e, .bool q.u, .slice q.A q.x.length q.c] 40)).drew.heap.size = wr.heap.size + 1 := by simp
            generalize (wr.alloc (.cells #[.int .u32 q.t, .int .u16 q.s, .int .u16 q.q, .bool false, .bool q.e, .bool q.u, .slice q.A q.x.length q.c] 40)).drew = X at hX hN hXs ⊢
            obtain ⟨x0, x1, x2, x3, x4, x5, x6, xf⟩ := HB.out.below hX
            obtain ⟨z0, z1, z2, z3, z4, z5, z6, zf⟩ := hN
            rw [HBB.out] at z3
            have HX := hid hX
            clear hX
            have hgx := setCells_grown w.heap.size [.int .u32 q.t, .int .u16 q.s, .int .u16 q.q, .bool false, .bool q.e, .bool q.u, .slice q.A q.x.length q.c] 0 X
            have hbx := (HB.out.below HX.out).set q
            rw [HBB.out] at hbx
            have hrx := (HR.out.below HX.out).kept (by omega) hgx
            have hbw := (HW.out.trans (HX.out.mono (by omega))).grown hgx (by omega) (fun k e => by have := Option.some.inj e; omega)
            have hsx := hgx.size
            have HBX2 := hid hbx
            have HRX2 := hid hrx
            have HBW2 := hid hbw
            have hbs : w.heap.size + 1 ≤ (X.setCells w.heap.size 0 [.int .u32 q.t, .int .u16 q.s, .int .u16 q.q, .bool false, .bool q.e, .bool q.u, .slice q.A q.x.length q.c]).heap.size := by omega
            clear hbx hrx hbw hgx
            go_wp2_with (at_builtin; go_must (refine wpList_append_own_at _ rfl _ _ 31 rfl (w.heap.size + 1) 40 i0 zP 7 40 Try.underlying31 hi hi0 hi1 hi2 rfl (by decide) _ _ _ rfl (Base.ownsRow_later HRX2.out (below_alloc (Below.refl _ _) _)) _ 1 1 (cellsP [q]) rfl rfl ?_ (cellsP_one [q]) (by unfold maxLen; omega) (by omega) (by simp; omega) ?_))
            · intro j' u' h'
              have := new7' (X.setCells w.heap.size 0 [.int .u32 q.t, .int .u16 q.s, .int .u16 q.q, .bool false, .bool q.e, .bool q.u, .slice q.A q.x.length q.c]) q (wr.heap.size + 1) j' u' (by rw [size_sets]; exact hXs.symm) h'
              rw [HBB.out] at this
              exact this
            · intro v2 w2 own2 hg2 _ _
              have hga : (X.setCells w.heap.size 0 [.int .u32 q.t, .int .u16 q.s, .int .u16 q.q, .bool false, .bool q.e, .bool q.u, .slice q.A q.x.length q.c]).grownBy w2 (Value.slice A5 l.length e5).ownBlock := grown_below (below_alloc (Below.refl _ _) _) hg2
              have hrow : ∀ k, (Value.slice A5 l.length e5).ownBlock = some k → w.heap.size + 1 ≤ k := fun k e => (own_base HRX2.out e).1
              have hb2 : Box w2 w.heap.size q := HBX2.out.block (hga.block _ (by omega) (fun e => by have := hrow _ e.symm; omega))
              have hw2 : Below w.heap.size w w2 := HBW2.out.grown hga (by omega) (fun k e => by have := hrow _ e; omega)
              obtain ⟨A2, e2, rfl, _⟩ := Base.slice_of_row own2
              have hr2 : Row w2 (w.heap.size + 1) A2 e2 (l ++ [q]) := by
                unfold Row
                rw [cellsP_app, List.length_append]
                exact own2
              have hA2 := HA.out.go hj1 HE.out HQ.out HBB.out
              have hj2 := hA2.lt (by omega) hj1
              have HB2 := hid hb2
              have HW2 := hid hw2
              have HR2 := hid hr2
              have HA2 := hid hA2
              clear own2 hg2 hga hrow hb2 hw2 hr2 hA2
              go_wp2
              go_roundw
              case rel => exact ⟨j + 1, l ++ [q], q, A2, e2, by simp, hj1, HA2, HB2, HR2, HW2⟩
              case measure =>
                have := HLL.out
                simp [lenV]
                omega
end Go.Proofs.Ythoammfpjheodaa.Rz
