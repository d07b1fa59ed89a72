import Derived.Test.YthoammfpjheodaaRzR
namespace Go.Proofs.Ythoammfpjheodaa.Rz
open Go.ChangeShapes Go.WideShapes Go.ChangeAt Go.RowKit Go.Shelf MK
open Base (hid cell_new1 cell_old1 froz_new1 froz_old1)
open Sl (rsort far Str)
attribute [local go_sem] Oper.semAt_some
set_option linter.unusedVariables false
set_option linter.unusedSimpArgs false
set_option maxRecDepth 100000
/-- The keys in the order of how far they are behind f. -/
def ord (f : Int) (m : List Pm) : List Int := rsort f (keys m)
theorem ord_str (f : Int) {m : List Pm} (hu : ∀ t ∈ keys m, U32 t) : Str f (ord f m) ∧ ∀ z, z ∈ ord f m ↔ z ∈ keys m := Sl.rsort_str f _ _ rfl hu
theorem ord_nodup (f : Int) {m : List Pm} (hu : ∀ t ∈ keys m, U32 t) : (ord f m).Nodup := (ord_str f hu).1.imp fun h e => by subst e; omega
theorem ord_perm (f : Int) {m : List Pm} (hu : ∀ t ∈ keys m, U32 t) (hn : (keys m).Nodup) : (ord f m).Perm (keys m) := (List.perm_ext_iff_of_nodup (ord_nodup f hu) hn).2 (ord_str f hu).2
theorem ord_len (f : Int) {m : List Pm} (hu : ∀ t ∈ keys m, U32 t) (hn : (keys m).Nodup) : (ord f m).length = m.length := by
  rw [(ord_perm f hu hn).length_eq]
  unfold keys
  rw [List.length_map]
theorem rsort_ord (f : Int) {m : List Pm} {ss : List Int} (hu : ∀ t ∈ keys m, U32 t) (hs : ∀ x ∈ ss, U32 x) (h : ∀ x, x ∈ ss ↔ x ∈ keys m) : rsort f ss = ord f m := by
  obtain ⟨h1, h2⟩ := Sl.rsort_str f _ ss rfl hs
  obtain ⟨h3, h4⟩ := ord_str f hu
  exact Sl.str_eq h1 h3 fun x => by rw [h2, h4, h]
theorem own_addr {w : World} {B : Nat} {e : TypeId} {s n m c : Nat} {xs : List Value} {x : Addr} (h : w.ownsRow B e s (.slice (some x) m c) n xs) : B ≤ x.block ∧ x.block < w.heap.size := by
  rcases h.2 with ⟨e, _⟩ | ⟨g, cap, cur, e, hb, hg, _⟩
  · simp only [Value.slice.injEq] at e
    exact absurd e.1 (by simp)
  · simp only [Value.slice.injEq, Option.some.injEq] at e
    obtain ⟨rfl, _, _⟩ := e
    exact ⟨hb, (Array.getElem?_eq_some_iff.1 hg).1⟩
/-- A copy of a piece. -/
structure Cop (B : Nat) (w : World) (p q : Pm) : Prop where
  eq : q = { p with A := q.A, c := q.c }
  own : w.ownsRow B 5 1 (.slice q.A q.x.length q.c) q.x.length (q.x.map (.int .u8))
theorem Cop.below {B : Nat} {w w' : World} {p q : Pm} (h : Cop B w p q) (hb : Below w.heap.size w w') : Cop B w' p q := ⟨h.eq, Base.ownsRow_later h.own hb⟩
/-- Copies of the pieces of a bench. -/
structure Fresh (B : Nat) (w : World) (m : List Pm) (ts : List Int) (l : List Pm) : Prop where
  len : l.length ≤ ts.length
  at_ : ∀ i (h : i < l.length) (h' : i < ts.length), ∃ p, look m ts[i] = some p ∧ Cop B w p l[i]
  ap : l.Pairwise fun p q => ∀ a b, p.A = some a → q.A = some b → a.block ≠ b.block
theorem Fresh.nil (B : Nat) (w : World) (m : List Pm) (ts : List Int) : Fresh B w m ts [] := ⟨Nat.zero_le _, fun i h => absurd h (Nat.not_lt_zero _), List.Pairwise.nil⟩
theorem Fresh.below {B : Nat} {w w' : World} {m : List Pm} {ts : List Int} {l : List Pm} (h : Fresh B w m ts l) (hb : Below w.heap.size w w') : Fresh B w' m ts l :=
  ⟨h.len, fun i hi hi' => by obtain ⟨p, h1, h2⟩ := h.at_ i hi hi'; exact ⟨p, h1, h2.below hb⟩, h.ap⟩
theorem Fresh.step {B : Nat} {w w' : World} {m : List Pm} {ts : List Int} {l : List Pm} (h : Fresh B w m ts l) (hb : Below w.heap.size w w') (hB : B ≤ w.heap.size) {p q : Pm} (hl : l.length < ts.length) (hp : look m ts[l.length] = some p) (hq : Cop w.heap.size w' p q) : Fresh B w' m ts (l ++ [q]) := by
  refine ⟨by simp; omega, fun i hi hi' => ?_, ?_⟩
  · rw [List.getElem_append]
    split
    · rename_i h1
      obtain ⟨p, h2, h3⟩ := h.at_ i h1 hi'
      exact ⟨p, h2, h3.below hb⟩
    · rename_i h1
      obtain rfl : i = l.length := by simp at hi; omega
      exact ⟨p, hp, by simpa using ⟨hq.eq, own_low hq.own hB⟩⟩
  · refine List.pairwise_append.2 ⟨h.ap, List.pairwise_singleton _ _, fun a ha b hb2 x y hx hy => ?_⟩
    rw [List.mem_singleton.1 hb2] at hy
    obtain ⟨i, hi, rfl⟩ := List.getElem_of_mem ha
    obtain ⟨p', _, hc⟩ := h.at_ i hi (by omega)
    have h1 := hc.own
    rw [hx] at h1
    have h2 := hq.own
    rw [hy] at h2
    have k1 := own_addr h1
    have k2 := own_addr h2
    omega
theorem own_apart {w : World} {B B' : Nat} {e e' : TypeId} {s s' n n' : Nat} {v v' : Value} {xs xs' : List Value} (h : w.ownsRow B e s v n xs) (h' : w.ownsRow B' e' s' v' n' xs') (he : e ≠ e') : v.ownBlock = none ∨ v.ownBlock ≠ v'.ownBlock := by
  rcases h.2 with ⟨rfl, _⟩ | ⟨g, cap, cur, rfl, hb, hg, _⟩
  · exact .inl rfl
  · rcases h'.2 with ⟨rfl, _⟩ | ⟨g', cap', cur', rfl, hb', hg', _⟩
    · exact .inr (by simp [Value.ownBlock])
    · refine .inr fun e => ?_
      simp [Value.ownBlock] at e
      subst e
      rw [hg] at hg'
      exact he (Obj.cells.inj (Option.some.inj hg')).2.1
theorem Fresh.kept {B B' : Nat} {w w' : World} {m : List Pm} {ts : List Int} {l : List Pm} {v : Value} {n : Nat} {xs : List Value} (h : Fresh B w m ts l) (hv : w.ownsRow B' 40 7 v n xs) (hg : w.grownBy w' v.ownBlock) : Fresh B w' m ts l :=
  ⟨h.len, fun i hi hi' => by obtain ⟨p, h1, h2⟩ := h.at_ i hi hi'; exact ⟨p, h1, h2.eq, h2.own.kept hg (own_apart h2.own hv (by decide))⟩, h.ap⟩
theorem cell_u {w : World} {B : Nat} {A : Option Addr} {c : Nat} {xs : List Int} (h : w.ownsRow B 23 1 (.slice A xs.length c) xs.length (xs.map (.int .u32))) (i : Nat) (hi : i < xs.length) : ∃ g, A = some ⟨g, 0, none⟩ ∧ w.cell? ⟨g, i, none⟩ = some (.int .u32 xs[i]) := by
  have h0 := h
  rcases h.2 with ⟨e, _⟩ | ⟨g, cap, cur, e, hb, hg, _⟩
  · simp only [Value.slice.injEq] at e
    omega
  · simp only [Value.slice.injEq] at e
    obtain ⟨rfl, _, _⟩ := e
    refine ⟨g, rfl, ?_⟩
    have := h0.cells (g := g) rfl i (.int .u32 xs[i]) (by simp [hi])
    rwa [add0] at this
theorem Bn.look1 {w : World} {bp mb n : Nat} {m : List Pm} (h : Bn w bp mb n m) {t : Int} (hu : U32 t) {p : Pm} (hp : Rz.look m t = some p) :
    (Instr.lookup 102 (.map (some mb)) (.int .u32 t) false).run Try.prog w = .ok p.val w := by
  have := h.map.lookup Try.underlying102 (Try.zeroValue40 w) t (u_wf hu)
  have e : fP m t = some p.val := by unfold fP; rw [hp]; rfl
  rw [e] at this
  exact this
theorem Bn.u {w : World} {bp mb n : Nat} {m : List Pm} (h : Bn w bp mb n m) : ∀ t ∈ keys m, U32 t := fun t ht => by
  obtain ⟨p, hp, rfl⟩ := List.mem_map.1 ht
  exact (h.ok p hp).u
theorem copied_calls' (p : Pm) (w : World) (h : Ok w p) : Calls Try.prog 80 #[.agg #[.int .u32 p.t, .int .u16 p.s, .int .u16 p.q, .bool p.b, .bool p.e, .bool p.u, .slice p.A p.x.length p.c]] w fun e w' => ∃ A' c', e = .returned (.agg #[.int .u32 p.t, .int .u16 p.s, .int .u16 p.q, .bool p.b, .bool p.e, .bool p.u, .slice A' p.x.length c']) ∧ Hid (w'.ownsRow w.heap.size 5 1 (.slice A' p.x.length c') p.x.length (p.x.map (.int .u8))) ∧ Hid (Below w.heap.size w w') := by
  refine (copied_calls p w h).mono ?_
  rintro e w' ⟨A', c', rfl, h1, h2⟩
  exact ⟨A', c', rfl, hid h1, hid h2⟩
theorem app7 {w : World} {B : Nat} {l : List Pm} {p : Pm} {v' : Value} (h : w.ownsRow B 40 7 v' (l.length + 1) (cellsP l ++ cellsP [p])) : ∃ A' c', v' = .slice A' (l ++ [p]).length c' ∧ Row w B A' c' (l ++ [p]) := by
  obtain ⟨A', c', rfl, _⟩ := Base.slice_of_row h
  refine ⟨A', c', by simp, ?_⟩
  unfold Row
  rw [cellsP_app, List.length_append]
  exact h
set_option maxHeartbeats 1000000 in
theorem pieces_calls (w : World) (bp mb n : Nat) (m : List Pm) (f : Int) (h : Bn w bp mb n m) (hm : m.length ≤ 1000) :
    Calls Try.prog 35 #[.pointer (some ⟨bp, 0, none⟩), .int .u32 f] w fun e w' => ∃ A c l, e = .returned (.slice A l.length c) ∧ l.length = m.length ∧ Row w' w.heap.size A c l ∧ Fresh w.heap.size w' m (ord f m) l ∧ Below w.heap.size w w' := by
  obtain ⟨i0, hi, hi0, hi1, hi2⟩ := info_parts info40
  have hlt := h.lt
  have hu := h.u
  have HOL := hid (ord_len f h.u h.nod)
  obtain ⟨ts, hts⟩ : ∃ ts, ts = ord f m := ⟨_, rfl⟩
  rw [← hts] at HOL ⊢
  have hp0 := h.ptr
  have H := hid h
  have HU := hid hu
  have HT := hid hts
  clear h hu hts
  obtain ⟨w1, hw1⟩ : ∃ w1, w1 = w.alloc (.cells #[.map (some mb)] 102) := ⟨_, rfl⟩
  have hb1 : Below w.heap.size w w1 := by rw [hw1]; exact below_alloc (Below.refl _ _) _
  have hcc := collect_calls w1 w.heap.size mb n m (by rw [hw1]; exact cell_new1 _ _ _ _ rfl 0) (H.out.map.below hb1) HU.out hm
  have HCC := hid hcc
  have hol := HOL.out
  have hol' : ts.length ≤ 1000 := by omega
  clear hol
  have HB1 := hid hb1
  have hs1 := hb1.size
  have HW1 := hid hw1
  clear hcc hb1 hw1
  go_enter Try.func35, Try.ntmps35
  go_wp2_with (go_at_call 79; go_must (refine (keys_calls w mb).mono ?_; rintro e w' ⟨rfl, hw'⟩; rw [← HW1.out] at hw'; rw [hw']))
  go_wp2_with (go_at_call 78; go_must (refine HCC.out.mono ?_; rintro e w2 ⟨A2, c2, ss, rfl, hS, hO, hB⟩; have HS := hid hS; have HO := hid hO; have HB := hid hB; clear hS hO hB))
  have hso := Sl.sort_calls f A2 c2 w1.heap.size ss w2 (by
    have := ((List.perm_ext_iff_of_nodup HS.out.1 H.out.nod).2 HS.out.2.2).length_eq
    unfold keys at this
    rw [List.length_map] at this
    omega) HS.out.2.1 HO.out
  rw [rsort_ord f HU.out HS.out.2.1 HS.out.2.2, ← HT.out] at hso
  have HSO := hid hso
  clear hso
  go_wp2_with (go_at_call 77; go_must (refine HSO.out.mono ?_; rintro e w3 ⟨A3, c3, rfl, hO, hB⟩; have HO3 := hid hO; have HB3 := hid hB; clear hO hB))
  have hb2 : Below w.heap.size w w2 := HB1.out.trans (HB.out.mono hs1)
  have hs2 := hb2.size
  have hb3 : Below w.heap.size w w3 := hb2.trans (HB3.out.mono hs2)
  have HW3 := hid hb3
  have hs3 := hb3.size
  have hs23 := HB3.out.size
  clear hb2 hb3 HCC HSO
  go_loopw [5, 19] (fun v5 v19 wr => ∃ (A5 : Option Addr) (e5 : Nat) (l : List Pm), v19 = .int .i64 l.length ∧ v5 = .slice A5 l.length e5 ∧ Hid (Row wr w3.heap.size A5 e5 l) ∧ Hid (Fresh w.heap.size wr m ts l) ∧ Hid (Below w3.heap.size w3 wr)) (fun v5 v19 _ => ts.length - numV v19)
  case atStart => exact ⟨none, 0, [], rfl, rfl, hid (World.ownsRow_nil _ _ _ _), hid (Fresh.nil _ _ _ _), hid (Below.refl _ _)⟩
  case round =>
    obtain ⟨A5, e5, l, rfl, rfl, HR, HF, HW⟩ := hrel
    have hll := HF.out.len
    have hsw := HW.out.size
    by_cases hlt2 : l.length < ts.length
    · obtain ⟨g, rfl, hcg⟩ := cell_u (Base.ownsRow_later HO3.out HW.out) l.length hlt2
      obtain ⟨t, ht⟩ : ∃ t, ts[l.length] = t := ⟨_, rfl⟩
      rw [ht] at hcg
      have htm : t ∈ keys m := by
        rw [← (ord_str f HU.out).2, ← HT.out, ← ht]
        exact List.getElem_mem _
      obtain ⟨p, hp⟩ : ∃ p, look m t = some p := by
        cases hq : look m t with
        | some p => exact ⟨p, rfl⟩
        | none =>
          obtain ⟨p, hp, e⟩ := List.mem_map.1 htm
          exact absurd e (look_none hq p hp)
      have hbw : Below w.heap.size w wr := HW3.out.trans (HW.out.mono hs3)
      have hBn := H.out.below hbw
      have hlk := hBn.look1 (HU.out t htm) hp
      have hpr := hBn.ptr
      have HBN := hid hBn
      have HP := hid hp
      have HTT := hid ht
      have HBW := hid hbw
      clear hp ht hbw htm hBn
      go_wp2_with (first
        | (go_at_call 80; go_must (refine (copied_calls' p wr (HBN.out.ok p (look_mem HP.out).1)).mono ?_; rintro e w4 ⟨A', c', rfl, HO4, HB4⟩; have hs4 := HB4.out.size))
        | (at_builtin; go_must (refine wpList_append_own_at _ rfl _ _ 31 rfl w3.heap.size 40 i0 zP 7 40 Try.underlying31 hi hi0 hi1 hi2 rfl (by decide) _ _ _ rfl (Base.ownsRow_later (Base.ownsRow_later HR.out HB4.out) (below_alloc (Below.refl _ _) _)) _ 1 1 (cellsP [{ p with A := A', c := c' }]) rfl rfl ?_ (cellsP_one _) (by unfold maxLen; omega) (by omega) (by rw [World.size_alloc]; omega) ?_)))
      · intro j u hj
        exact new7' w4 { p with A := A', c := c' } _ j u rfl hj
      · intro v2 w5 own2 hg2 _ _
        obtain ⟨A6, c6, rfl, hr6⟩ := app7 own2
        have hga : w4.grownBy w5 (Value.slice A5 l.length e5).ownBlock := grown_below (below_alloc (Below.refl _ _) _) hg2
        have hrow : ∀ k, (Value.slice A5 l.length e5).ownBlock = some k → w3.heap.size ≤ k := fun k e => (own_base HR.out e).1
        have hbr : Below w3.heap.size w3 wr := HW.out
        have hf4 : Fresh w.heap.size w4 m ts (l ++ [{ p with A := A', c := c' }]) := HF.out.step HB4.out (by omega) hlt2 (by rw [HTT.out]; exact HP.out) ⟨rfl, HO4.out⟩
        have hf5 : Fresh w.heap.size w5 m ts (l ++ [{ p with A := A', c := c' }]) := hf4.kept (Base.ownsRow_later HR.out HB4.out) hga
        have hw5 : Below w3.heap.size w3 w5 := (hbr.trans (HB4.out.mono hsw)).grown hga (by omega) hrow
        have HR6 := hid hr6
        have HF5 := hid hf5
        have HW5 := hid hw5
        clear own2 hg2 hr6 hga hrow hf5 hw5 hf4 hbr
        go_wp2
        go_roundw
        case rel => exact ⟨A6, c6, _, by simp, rfl, HR6, HF5, HW5⟩
        case measure => simp [numV]; omega
    · obtain hle : l.length = ts.length := by omega
      have HLE := hid hle
      clear hle
      go_wp2
      go_ret
      exact ⟨A5, e5, l, rfl, by rw [HLE.out, HOL.out], own_low HR.out hs3, HF.out, HW3.out.trans (HW.out.mono hs3)⟩
end Go.Proofs.Ythoammfpjheodaa.Rz
