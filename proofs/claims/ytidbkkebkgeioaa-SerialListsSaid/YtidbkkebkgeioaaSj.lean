import Derived.Test.YtidbkkebkgeioaaSn
namespace Go.Proofs.Ytidbkkebkgeioaa.Sl
open Go.ChangeShapes Go.WideShapes Go.ChangeAt Go.RowKit Go.Shelf Go.Sort
open Base (hid cell_new1 cell_old1 froz_new1 froz_old1)
open TmA (own_some)
open It (runs seqR FW)
attribute [local go_sem] Oper.semAt_some
set_option linter.unusedVariables false
set_option linter.unusedSimpArgs false
/-- The result's cell and the box of the first number. -/
structure St (f : Int) (w W : World) : Prop where
  c : W.cell? ⟨w.heap.size + 1, 0, none⟩ = some (.bool false)
  fr : W.frozen? ⟨w.heap.size + 1, 0, none⟩ = false
  x : W.cell? ⟨w.heap.size, 0, none⟩ = some (.int .u32 f)
  b : Below w.heap.size w W
theorem St.lt {f : Int} {w W : World} (h : St f w W) : w.heap.size + 1 < W.heap.size := TmA.lt_of_cell h.c
theorem St.below {f : Int} {w W W' : World} (h : St f w W) (hb : Below (w.heap.size + 2) W W') : St f w W' := by
  have hl := h.lt
  exact ⟨(hb.cell (p := ⟨w.heap.size + 1, 0, none⟩) (by show w.heap.size + 1 < _; omega)).trans h.c, (hb.frozen (p := ⟨w.heap.size + 1, 0, none⟩) (by show w.heap.size + 1 < _; omega)).trans h.fr, (hb.cell (p := ⟨w.heap.size, 0, none⟩) (by show w.heap.size < _; omega)).trans h.x, h.b.trans (hb.mono (by omega))⟩
theorem St.grown {f : Int} {w W W' : World} {k : Nat} (h : St f w W) (hg : W.grownBy W' (some k)) (hk : w.heap.size + 1 < k) : St f w W' := by
  have hl := h.lt
  exact ⟨hg.cell (a := ⟨w.heap.size + 1, 0, none⟩) h.c (by simp; omega), (World.frozen?_of_block (w := W) (hg.block (w.heap.size + 1) hl (by simp; omega))).trans h.fr, hg.cell (a := ⟨w.heap.size, 0, none⟩) h.x (by simp; omega), h.b.grown hg h.b.size (fun j e => by cases e; omega)⟩
theorem info22 : (Try.prog.info? 22).map (fun i => (i.zero, i.size, i.bytes)) = some (some (.int .u32 0), 1, 4) := by kernel_rfl
theorem rfold_len (f x : Int) : ∀ (n : Nat) (out : List Int), out.length = n → (rfold f x out).2.length ≤ out.length + (if (rfold f x out).1 then 1 else 0)
  | 0, out, hn => by
    obtain rfl := List.eq_nil_of_length_eq_zero hn
    simp [rfold]
  | n + 1, out, hn => by
    obtain ⟨pre, y, rfl⟩ : ∃ pre y, out = pre ++ [y] := ⟨out.dropLast, out.getLast (by intro e; simp [e] at hn), (List.dropLast_concat_getLast _).symm⟩
    have ih := rfold_len f x n pre (by simpa using hn)
    have h2 := rstep_len f x (rfold f x pre) y
    rw [rfold_snoc, List.length_append]
    simp only [List.length_cons, List.length_nil]
    omega
theorem rsort_len (f : Int) : ∀ (n : Nat) (l : List Int), l.length = n → (rsort f l).length ≤ l.length
  | 0, l, hn => by
    obtain rfl := List.eq_nil_of_length_eq_zero hn
    exact Nat.le_refl _
  | n + 1, l, hn => by
    obtain ⟨pre, y, rfl⟩ : ∃ pre y, l = pre ++ [y] := ⟨l.dropLast, l.getLast (by intro e; simp [e] at hn), (List.dropLast_concat_getLast _).symm⟩
    have ih := rsort_len f n pre (by simpa using hn)
    have h2 := rfold_len f y _ (rsort f pre) rfl
    rw [rsort_snoc]
    unfold rone
    split <;> rename_i hb <;> simp [hb] at h2 ⊢ <;> omega
theorem cell_u {w : World} {B : Nat} {A : Option Addr} {c : Nat} {xs : List Int} (h : w.ownsRow B 22 1 (.slice A xs.length c) xs.length (xs.map (.int .u32))) (i : Nat) (hi : i < xs.length) : ∃ g, A = some ⟨g, 0, none⟩ ∧ w.cell? ⟨g, i, none⟩ = some (.int .u32 xs[i]) := by
  obtain ⟨g, c', e, _⟩ := own_some h (by omega)
  simp only [Value.slice.injEq] at e
  obtain ⟨rfl, _, _⟩ := e
  refine ⟨g, rfl, ?_⟩
  have := h.cells (g := g) rfl i (.int .u32 xs[i]) (by simp [hi])
  rw [TmA.add0] at this
  exact this
theorem own_base' {w : World} {B g n c : Nat} {e : TypeId} {s : Nat} {xs : List Value} (h : w.ownsRow B e s (.slice (some ⟨g, 0, none⟩) n c) n xs) : B ≤ g ∧ g < w.heap.size := own_base h rfl
theorem wpList_app_row {w : World} {ops : Array Oper} {rest : List Oper} {o : Oper} {a : Go.Act} {Q : Exit → Go.Act → World → Prop} (hgd : o.guard = none) (s x : Operand)
    (ho : o.op = .call { callee := .builtin .append, args := #[s, x], argTypes := #[23, 23] }) (base : Nat) (v : Value) (n : Nat) (xs : List Value) (hs : a.eval s = v) (hown : w.ownsRow base 22 1 v n xs)
    (A : Option Addr) (m c : Nat) (l : List Int) (hm : m = l.length) (hx : a.eval x = .slice A m c) (hA : A = none → c = 0) (hr : RowU w A l) (hnm : n + m ≤ 1000) (hbase : base ≤ w.heap.size)
    (h : ∀ v' w', w'.ownsRow base 22 1 v' (n + m) (xs ++ l.map (.int .u32)) → w.grownBy w' v.ownBlock → wpList Try.prog ops Q rest (a.put o.dst v') w') :
    wpList Try.prog ops Q (o :: rest) a w := by
  obtain ⟨i0, hi, hi0, hi1, hi2⟩ := info_parts info22
  cases A with
  | none =>
    have hl : l = [] := by
      cases l with
      | nil => rfl
      | cons y l =>
        obtain ⟨ad, e, _⟩ := hr 0 (by simp)
        cases e
    subst hl
    obtain rfl : m = 0 := hm
    obtain rfl := hA rfl
    exact wpList_append_own_none hgd s x 23 ho base 22 i0 1 Try.underlying23 hi v n xs hs hown hx (h v w (by simpa using hown) (World.grownBy.refl _ _))
  | some ad =>
    refine wpList_append_own_at w hgd s x 23 ho base 22 i0 (.int .u32 0) 1 4 Try.underlying23 hi hi0 hi1 hi2 rfl (by decide) v n xs hs hown ad m c (l.map (.int .u32)) hx (by simp [hm]) (fun j u hj => ?_) (fun u hu => ?_) (by unfold maxLen; omega) (by omega) hbase (fun v' w' h1 h2 _ _ => h v' w' h1 h2)
    · have hjl : j < l.length := by
        rcases Nat.lt_or_ge j l.length with h' | h'
        · exact h'
        · rw [List.getElem?_eq_none (by simpa using h')] at hj
          cases hj
      obtain ⟨ad', e, _, hc⟩ := hr j hjl
      cases e
      rw [hc]
      simpa [hjl] using hj
    · obtain ⟨y, _, rfl⟩ := List.mem_map.1 hu
      rfl
set_option maxRecDepth 100000 in
set_option maxHeartbeats 8000000 in
theorem lists_calls (f : Int) (A : Option Addr) (c : Nat) (l : List Int) (N : Int) (w : World) (hf : U f) (hu : ∀ x ∈ l, U x) (hr : RowU w A l) (hA : A = none → c = 0) (hN : (Lit.int .i64 N).wf = true) :
    Calls Try.prog 3 #[.int .u32 f, .slice A l.length c, .int .i64 N] w fun e w' => e = .returned (.bool true) ∧ Below w.heap.size w w' := by
  refine (callsIn_wide (n := 9)).1 ?_
  obtain ⟨i0, hi, hi0, hi1, hi2⟩ := info_parts info22
  obtain ⟨j0, hj, hj0, hj1, hj2⟩ := info_parts info3
  have f7 : FW.fn 7 := trivial
  have f8 : FW.fn 8 := trivial
  have f9 : FW.fn 9 := trivial
  have f10 : FW.fn 10 := trivial
  have f11 : FW.fn 11 := trivial
  have f12 : FW.fn 12 := trivial
  have f13 : FW.fn 13 := trivial
  have f14 : FW.fn 14 := trivial
  have f15 : FW.fn 15 := trivial
  have f34 : FW.fn 34 := trivial
  have f36 : FW.fn 36 := trivial
  have HR := hid hr
  have HU := hid hu
  have HUF := hid hf
  have HN := hid hN
  have HA := hid hA
  clear hr hu hf hN hA
  refine callsIn_of_wp_marks Try.func3 rfl trivial ?_ rfl
  simp only [Try.ntmps3, List.size_toArray, List.length_cons, List.length_nil, Nat.reduceAdd, Nat.reduceSub, Array.replicate_succ, Array.replicate_zero, List.push_toArray, List.append_toArray, List.nil_append, List.cons_append]
  by_cases hq : l.length ≤ 60 ∧ N ≤ 200
  rotate_left
  · have HBE : Hid (Below w.heap.size w ((w.alloc (.cells #[.int .u32 f] 22)).alloc (.cells #[.bool true] 4))) := hid (TmA.below_alloc (TmA.below_alloc (Below.refl _ _) _) _)
    have HCE : Hid (((w.alloc (.cells #[.int .u32 f] 22)).alloc (.cells #[.bool true] 4)).cell? ⟨w.heap.size + 1, 0, none⟩ = some (.bool true)) := hid ((cell_new1 _ _ _ _ (by simp) 0).trans rfl)
    by_cases h1 : 60 < l.length
    · have d1 : decide ((60 : Int) < (l.length : Int)) = true := by simp; omega
      clear hq h1
      refine wpIn_wide.2 ?_
      go_wp2_with (go_at_call 7; refine (alive_calls _).mono ?_; rintro e w' ⟨rfl, rfl⟩)
      exact ⟨_, results_cell6 rfl rfl HCE.out, rfl, HBE.out⟩
    · have d1 : decide ((60 : Int) < (l.length : Int)) = false := by simp; omega
      have d2 : decide ((200 : Int) < N) = true := by simp; omega
      clear hq h1
      refine wpIn_wide.2 ?_
      go_wp2_with (go_at_call 7; refine (alive_calls _).mono ?_; rintro e w' ⟨rfl, rfl⟩)
      exact ⟨_, results_cell6 rfl rfl HCE.out, rfl, HBE.out⟩
  obtain ⟨hl, hN2⟩ := hq
  have d1 : decide ((60 : Int) < (l.length : Int)) = false := by simp; omega
  have d2 : decide ((200 : Int) < N) = false := by simp; omega
  have HB0 : Hid (Below w.heap.size w (((w.alloc (.cells #[.int .u32 f] 22)).alloc (.cells #[.bool false] 4)).alloc (.cells #[] 22))) := hid (TmA.below_alloc (TmA.below_alloc (TmA.below_alloc (Below.refl _ _) _) _) _)
  have HO0 : Hid ((((w.alloc (.cells #[.int .u32 f] 22)).alloc (.cells #[.bool false] 4)).alloc (.cells #[] 22)).ownsRow (w.heap.size + 2) 22 1 (.slice (some ⟨w.heap.size + 1 + 1, 0, none⟩) 0 0) 0 []) := hid (by
    have := World.ownsRow_made ((w.alloc (.cells #[.int .u32 f] 22)).alloc (.cells #[.bool false] 4)) (e := 22) (size := 1) (base := w.heap.size + 2) #[] 0 (by simp) (by decide) rfl
    simpa using this)
  refine wpIn_wide.2 ?_
  go_wp2_with (first
    | (go_at_call 7; refine (alive_calls _).mono ?_; rintro e w' ⟨rfl, rfl⟩)
    | (at_builtin; go_must (refine wpList_app_row rfl _ _ rfl (w.heap.size + 2) _ 0 [] rfl HO0.out A l.length c l rfl rfl HA.out (HR.out.below HB0.out) (by omega) (by simp) ?_)))
  intro v7 w1 own7 hg7
  obtain ⟨A7, c7, rfl, _⟩ := Base.slice_of_row own7
  have hb1 : Below (w.heap.size + 2) ((w.alloc (.cells #[.int .u32 f] 22)).alloc (.cells #[.bool false] 4)) w1 := ((Below.refl _ _).alloc (by simp) _).grown hg7 (by simp) (fun k e => by simp [Value.ownBlock] at e; omega)
  have HS1 : Hid (St f w w1) := hid (St.below ⟨cell_new1 _ _ _ _ (by simp) 0, froz_new1 _ _ _ _ (by simp) 0, (cell_old1 _ _ _ (by simp) 0).trans (cell_new1 _ _ _ _ rfl 0), TmA.below_alloc (TmA.below_alloc (Below.refl _ _) _) _⟩ hb1)
  have HO7 : Hid (w1.ownsRow (w.heap.size + 2) 22 1 (.slice A7 l.length c7) l.length (l.map (.int .u32))) := hid (by simpa using own7)
  clear own7 hg7 hb1 HB0 HO0
  go_wp2
  have HO80 : Hid ((w1.alloc (.cells #[] 3)).ownsRow w1.heap.size 3 1 (.slice (some ⟨w1.heap.size, 0, none⟩) 0 0) 0 ((l.take 0).map (.int .i64))) := hid (World.ownsRow_made w1 #[] 0 (Nat.le_refl _) (by decide) rfl)
  go_loopw [8, 37] (fun v8 v37 wr => ∃ (i : Nat) (A8 : Option Addr) (c8 : Nat), i ≤ l.length ∧ v8 = .slice A8 i c8 ∧ v37 = .int .i64 i ∧ Hid (wr.ownsRow w1.heap.size 3 1 (.slice A8 i c8) i ((l.take i).map (.int .i64))) ∧ Hid (Below w1.heap.size w1 wr)) (fun _ v37 _ => l.length - (intOf v37).toNat)
  case atStart => exact ⟨0, _, _, Nat.zero_le _, rfl, rfl, HO80, hid (TmA.below_alloc (Below.refl _ _) _)⟩
  case round =>
    obtain ⟨i, A8, c8, hil, rfl, rfl, HO8, HB8⟩ := hrel
    have hs8 := HB8.out.size
    have HS8 : Hid (St f w wr) := hid (HS1.out.below (HB8.out.mono (by have := HS1.out.lt; omega)))
    by_cases hlt : i < l.length
    · obtain ⟨x, hx⟩ : ∃ x, l[i] = x := ⟨_, rfl⟩
      have hux : U x := HU.out x (hx ▸ List.getElem_mem hlt)
      obtain ⟨ad, rfl, _, c0⟩ := (HR.out.below HS8.out.b) i hlt
      rw [hx] at c0
      have hwx : wrap64 x = x := by unfold U at hux; unfold wrap64; omega
      have htk : l.take (i + 1) = l.take i ++ [x] := by rw [List.take_succ_eq_append_getElem hlt, hx]
      have HTK := hid htk
      clear hx hux htk
      go_wp2_with (at_builtin; go_must (refine wpList_append_own_at _ rfl _ _ 25 rfl w1.heap.size 3 j0 (.int .i64 0) 1 8 Try.underlying25 hj hj0 hj1 hj2 rfl (by decide) _ _ _ rfl (Base.ownsRow_later HO8.out (TmA.below_alloc (Below.refl _ _) _)) ⟨wr.heap.size, 0, none⟩ 1 1 [.int .i64 x] rfl rfl ?newsa ?onea ?c3a ?c4a ?c5a ?_))
      case newsa => exact news1 wr x
      case onea => exact fun u hu => by rw [List.mem_singleton.1 hu]; rfl
      case c3a => unfold maxLen; omega
      case c4a => omega
      case c5a => simp; omega
      intro v2 w2 own2 hg2 _ _
      obtain ⟨A2, c2, rfl, _⟩ := Base.slice_of_row own2
      have HB2 := hid (below_own _ HB8.out hs8 HO8.out hg2)
      have HO2 : Hid (w2.ownsRow w1.heap.size 3 1 (.slice A2 (i + 1) c2) (i + 1) ((l.take (i + 1)).map (.int .i64))) := hid (by rw [HTK.out, List.map_append]; simpa using own2)
      clear own2 hg2
      go_wp2
      go_roundw
      case rel => exact ⟨i + 1, A2, c2, by omega, by first | trivial | rfl, by go_num, HO2, HB2⟩
      case measure => simp [intOf]; omega
    · obtain rfl : i = l.length := by omega
      have hO8 := HO8.out
      rw [List.take_length] at hO8
      have HO8' := hid hO8
      have HO7' : Hid (wr.ownsRow (w.heap.size + 2) 22 1 (.slice A7 l.length c7) l.length (l.map (.int .u32))) := hid (Base.ownsRow_later HO7.out HB8.out)
      have cx := HS8.out.x
      have hlx := HS8.out.lt
      have hlx2 : w.heap.size < wr.heap.size := by omega
      clear hO8 HO8 HO80 HO7 HB8
      go_wp2_with (go_at_call 8; go_must (refine (sort_calls f A7 c7 _ l _ (by omega) HU.out (Base.ownsRow_later HO7'.out (TmA.below_alloc (Below.refl _ _) _))).mono ?_; rintro e w5 ⟨A5, c5, rfl, hO5, hB5⟩; have HO5 := hid hO5; have HB5 := hid hB5; clear hO5 hB5))
      have hs5 := HB5.out.size
      have HS5 : Hid (St f w w5) := hid (HS8.out.below ((TmA.below_alloc (Below.refl _ _) _ |>.trans (HB5.out.mono (by simp))).mono (by omega)))
      have hlr : (rsort f l).length ≤ l.length := rsort_len f _ l rfl
      have hur : ∀ y ∈ rsort f l, U y := fun y hy => HU.out y (((rsort_str f _ l rfl HU.out).2 y).1 hy)
      have HR0 : Hid ((wr.alloc (.cells #[] 3)).ownsRow wr.heap.size 3 1 (.slice (some ⟨wr.heap.size, 0, none⟩) 0 0) 0 []) := hid (World.ownsRow_made wr #[] 0 (Nat.le_refl _) (by decide) rfl)
      have HR5 : Hid (w5.ownsRow wr.heap.size 3 1 (.slice (some ⟨wr.heap.size, 0, none⟩) 0 0) 0 []) := hid (Base.ownsRow_later HR0.out HB5.out)
      generalize hrs : rsort f l = rs at *
      have HRS := hid hrs
      have HUR := hid hur
      obtain ⟨W5, hW5⟩ : ∃ W5, W5 = w5 := ⟨_, rfl⟩
      have hsW : wr.heap.size < W5.heap.size := by rw [hW5]; simp at hs5; omega
      obtain ⟨Wr, hWr⟩ : ∃ Wr, Wr = wr := ⟨_, rfl⟩
      have hWz : Wr.heap.size + 1 ≤ (wr.alloc (.cells #[] 3)).heap.size := by rw [hWr]; simp
      have hsW2 : Wr.heap.size < W5.heap.size := by rw [hWr]; exact hsW
      have HWR := hid hWr
      have HW5 := hid hW5
      clear hur hrs HR0 hWr hW5
      go_loopw [11, 52] (fun v11 v52 wr => ∃ (i : Nat) (A9 : Option Addr) (c9 : Nat), i ≤ rs.length ∧ v11 = .slice A9 i c9 ∧ v52 = .int .i64 i ∧ Hid (wr.ownsRow Wr.heap.size 3 1 (.slice A9 i c9) i ((rs.take i).map (.int .i64))) ∧ Hid (W5.grownBy wr (some Wr.heap.size)) ∧ Hid (∀ q, (Value.slice A9 i c9).ownBlock = some q → q = Wr.heap.size ∨ W5.heap.size ≤ q)) (fun _ v52 _ => rs.length - (intOf v52).toNat)
      case atStart => exact ⟨0, _, _, Nat.zero_le _, rfl, rfl, by rw [HWR.out]; exact HR5, hid (by rw [HW5.out]; exact World.grownBy.refl _ _), hid (fun q e => .inl (by simp [Value.ownBlock] at e; rw [HWR.out]; exact e.symm))⟩
      case round =>
        obtain ⟨i, A9, c9, hil, rfl, rfl, HO9, HG9, HQ9⟩ := hrel
        have hs9 := HG9.out.size
        by_cases hlt2 : i < rs.length
        · obtain ⟨x, hx⟩ : ∃ x, rs[i] = x := ⟨_, rfl⟩
          have hux : U x := HUR.out x (hx ▸ List.getElem_mem hlt2)
          obtain ⟨g5, rfl, c0⟩ := cell_u HO5.out i hlt2
          have hg5 := (own_base' HO5.out).1
          rw [hx] at c0
          have q0 : wr.cell? ⟨g5, i, none⟩ = some (.int .u32 x) := HG9.out.cell (a := ⟨g5, i, none⟩) (by rw [HW5.out]; exact c0) (by intro e; have e := Option.some.inj e; have e : g5 = Wr.heap.size := e; omega)
          have hwx : wrap64 x = x := by unfold U at hux; unfold wrap64; omega
          have htk : rs.take (i + 1) = rs.take i ++ [x] := by rw [List.take_succ_eq_append_getElem hlt2, hx]
          have HTK := hid htk
          clear hx hux htk c0
          have hi60 : i ≤ 60 := by omega
          go_wp2_with (at_builtin; go_must (refine wpList_append_own_at _ rfl _ _ 25 rfl Wr.heap.size 3 j0 (.int .i64 0) 1 8 Try.underlying25 hj hj0 hj1 hj2 rfl (by decide) _ _ _ rfl (Base.ownsRow_later HO9.out (TmA.below_alloc (Below.refl _ _) _)) ⟨wr.heap.size, 0, none⟩ 1 1 [.int .i64 x] rfl rfl ?newsb ?oneb ?c3b ?c4b ?c5b ?_))
          case newsb => exact news1 wr x
          case oneb => exact fun u hu => by rw [List.mem_singleton.1 hu]; rfl
          case c3b => unfold maxLen; omega
          case c4b => omega
          case c5b => simp; omega
          intro v2 w2 own2 hg2 _ hat2
          have HQ2 : Hid (∀ q, v2.ownBlock = some q → q = Wr.heap.size ∨ W5.heap.size ≤ q) := hid (fun q e => by
            rcases hat2 with e2 | e2
            · exact HQ9.out q (e2 ▸ e)
            · rw [e2] at e
              have := Option.some.inj e
              omega)
          have HG2 : Hid (W5.grownBy w2 (some Wr.heap.size)) := hid ((HG9.out.trans (World.grownBy_alloc wr _ _)).andThen hg2 (fun q e => by
            rcases HQ9.out q e with h | h
            · exact .inr (by rw [h])
            · exact .inl h))
          obtain ⟨A2, c2, rfl, _⟩ := Base.slice_of_row own2
          have HO2 : Hid (w2.ownsRow Wr.heap.size 3 1 (.slice A2 (i + 1) c2) (i + 1) ((rs.take (i + 1)).map (.int .i64))) := hid (by rw [HTK.out, List.map_append]; simpa using own2)
          clear own2 hg2 hat2
          go_wp2
          go_roundw
          case rel => exact ⟨i + 1, A2, c2, by omega, by first | trivial | rfl, by go_num, HO2, HG2, HQ2⟩
          case measure => simp [intOf]; omega
        · obtain rfl : i = rs.length := by omega
          have hO9 := HO9.out
          rw [List.take_length] at hO9
          have HO9' := hid hO9
          have HS9 : Hid (St f w wr) := hid (St.grown (by rw [HW5.out]; exact HS5.out) HG9.out (by rw [HWR.out]; exact hlx))
          have HO79 : Hid (wr.ownsRow (w.heap.size + 2) 22 1 (.slice A7 l.length c7) l.length (l.map (.int .u32))) := hid (World.ownsRow.kept (by rw [HW5.out]; exact Base.ownsRow_later (Base.ownsRow_later HO7'.out (TmA.below_alloc (Below.refl _ _) _)) HB5.out) HG9.out (by
            rcases hb : (Value.slice A7 l.length c7).ownBlock with _ | q
            · exact .inl rfl
            · refine .inr fun e => ?_
              have h1 := (own_base HO7'.out hb).2
              have e := Option.some.inj e
              rw [HWR.out] at e
              omega))
          have HO89 : Hid (wr.ownsRow w1.heap.size 3 1 (.slice A8 l.length c8) l.length (l.map (.int .i64))) := hid (World.ownsRow.kept (by rw [HW5.out]; exact Base.ownsRow_later (Base.ownsRow_later HO8'.out (TmA.below_alloc (Below.refl _ _) _)) HB5.out) HG9.out (by
            rcases hb : (Value.slice A8 l.length c8).ownBlock with _ | q
            · exact .inl rfl
            · refine .inr fun e => ?_
              have h1 := (own_base HO8'.out hb).2
              have e := Option.some.inj e
              rw [HWR.out] at e
              omega))
          clear hO9 HO9
          have hlt9 := HS9.out.lt
          go_wp2_with (go_at_call 9; go_must (refine (It.runs_any A7 c7 l (by omega) _ (hid ((Base.RowV.of (Base.ownsRow_later HO79.out ((((Below.refl _ wr).alloc (Nat.le_refl _) _).alloc (by simp) _ |>.alloc (by simp; omega) _ |>.alloc (by simp; omega) _)))).mono (Nat.zero_le _) (Nat.le_refl _)))).mono ?_; rintro e w6 ⟨bo, a6, c6, rfl, hbo, hbo2, hbc, hRV, hB6⟩))
          obtain ⟨Wg, hWg⟩ : ∃ Wg, Wg = ((((wr.alloc (.cells #[] 3)).alloc (.cells #[] 3)).alloc (.cells #[.slice (some ⟨wr.heap.size, 0, none⟩) 0 0] 25)).alloc (.cells #[.slice (some ⟨wr.heap.size + 1, 0, none⟩) 0 0] 25)) := ⟨_, rfl⟩
          have hz : Wg.heap.size = wr.heap.size + 4 := by rw [hWg]; simp
          have hB6' := hB6.out
          have hRV' := hRV.out
          rw [← hWg] at hB6' hRV' hbo2
          rw [hz] at hRV' hbo2
          have hs6 := hB6'.size
          refine (wpIn_wide (n := 9)).1 ?_
          refine range_pre_law (F := FW) rfl (by decide) (gf := 34) (lb := #[.pointer (some ⟨bo, 0, none⟩)]) rfl f34 (enters_of Try.func34 (by kernel_rfl) rfl)
            (seqRuns 8 (by decide) bo (wr.heap.size + 4) a6 l c6 (by omega) w6 hbo hbo2 hbc hRV') (fun _ _ _ _ _ _ _ h _ _ _ => h) It.Keep.trans (It.keepK_b (Nat.le_refl _)) (Below.refl _ _) (fun _ => rfl)
            (RJ wr.heap.size w6) (fun _ _ => False) (ri_own _ _) (fun _ _ _ _ h _ _ => h) ?start ?a1 ?asg ?body
            (fun W => RJ wr.heap.size w6 (runs l) W) ?hd (fun _ _ _ h => h.elim) ?hend
          case asg =>
            intro lp x W K hK
            gi_wp2
            exact hK
          case hd =>
            rintro ys W rfl h
            exact h
          case start =>
            refine ⟨⟨.slice (some ⟨wr.heap.size, 0, none⟩) 0 0, .slice (some ⟨wr.heap.size + 1, 0, none⟩) 0 0, ⟨?_, ?_, ?_, ?_⟩, ⟨?_, ?_, ?_, ?_⟩, ?_⟩, Nat.le_refl _, rfl, rfl, rfl, fun _ _ _ => rfl⟩
            · rw [hB6'.cell (p := ⟨wr.heap.size + 2, 0, none⟩) (by show wr.heap.size + 2 < _; omega), hWg, cell_old1 _ _ _ (by simp), cell_new1 _ _ _ _ (by simp)]; rfl
            · rw [hB6'.frozen (p := ⟨wr.heap.size + 2, 0, none⟩) (by show wr.heap.size + 2 < _; omega), hWg, froz_old1 _ _ _ (by simp), froz_new1 _ _ _ _ (by simp)]
            · refine Base.ownsRow_later ?_ hB6'
              rw [hWg]
              refine Base.ownsRow_later (World.ownsRow_made wr #[] 0 (Nat.le_refl _) (by decide) rfl) ?_
              exact TmA.below_alloc (TmA.below_alloc (TmA.below_alloc (Below.refl _ _) _) _) _
            · intro q e
              simp [Value.ownBlock] at e
              exact .inl e.symm
            · rw [hB6'.cell (p := ⟨wr.heap.size + 3, 0, none⟩) (by show wr.heap.size + 3 < _; omega), hWg, cell_new1 _ _ _ _ (by simp)]; rfl
            · rw [hB6'.frozen (p := ⟨wr.heap.size + 3, 0, none⟩) (by show wr.heap.size + 3 < _; omega), hWg, froz_new1 _ _ _ _ (by simp)]
            · refine Base.ownsRow_later ?_ hB6'
              rw [hWg]
              have h1 := World.ownsRow_made (wr.alloc (.cells #[] 3)) (e := 3) (size := 1) (base := wr.heap.size + 1) #[] 0 (by simp) (by decide) rfl
              rw [World.size_alloc] at h1
              refine Base.ownsRow_later h1 ?_
              exact TmA.below_alloc (TmA.below_alloc (Below.refl _ _) _) _
            · intro q e
              simp [Value.ownBlock] at e
              exact .inl e.symm
            · intro q e e'
              simp [Value.ownBlock] at e e'
              omega
          case body =>
            rintro lp pre ⟨xk, xn⟩ V W hIV hVW hlp hlo hpx
            have hI := ri_own _ _ pre V W (some lp) hIV hVW (fun r e => by cases e; exact ⟨hlp, hlo⟩)
            obtain ⟨v, v', hP⟩ := Pair.of_rj (by omega) hI
            have hpl : pre.length ≤ 1000 := by omega
            clear hIV hVW
            exact wpIn_block (body22 lp _ W xk (xn : Int) wr.heap.size w6.heap.size v v' _ _ hP (by simpa using hpl) (by simpa using hpl) _ (fun _ _ _ _ h => h) (fun a' v1 v2 w3 hP3 => hP3.fin hI))
          case hend =>
            rintro D W2 hD hI hK
            obtain ⟨⟨v1, v2, hL1, hL2, hAp⟩, hsz2, hos2, htp2, hou2, hbl2⟩ := hI
            have HB2 : Hid (Below wr.heap.size wr W2) := hid ⟨hos2.trans (hB6'.os.trans (by rw [hWg]; rfl)), htp2.trans (hB6'.tape.trans (by rw [hWg]; rfl)), hou2.trans (hB6'.output.trans (by rw [hWg]; rfl)), by omega, fun k hk => by
              rw [hbl2 k (by omega) (.inl hk), hB6'.block k (by omega), hWg]
              exact (TmA.below_alloc (TmA.below_alloc (TmA.below_alloc (TmA.below_alloc (Below.refl _ _) _) _) _) _).block k hk⟩
            have HS2 : Hid (St f w W2) := hid (HS9.out.below (HB2.out.mono (by omega)))
            have HO72 : Hid (W2.ownsRow (w.heap.size + 2) 22 1 (.slice A7 l.length c7) l.length (l.map (.int .u32))) := hid (Base.ownsRow_later HO79.out HB2.out)
            have HO82 : Hid (W2.ownsRow w1.heap.size 3 1 (.slice A8 l.length c8) l.length (l.map (.int .i64))) := hid (Base.ownsRow_later HO89.out HB2.out)
            have HO92 : Hid (W2.ownsRow Wr.heap.size 3 1 (.slice A9 rs.length c9) rs.length (rs.map (.int .i64))) := hid (Base.ownsRow_later HO9'.out HB2.out)
            have HL1 := hid hL1
            have HL2 := hid hL2
            have HK := hid hK
            have hD2 : D < W2.heap.size := (Array.getElem?_eq_some_iff.1 hK).1
            have hg4 : wr.heap.size + 4 ≤ W2.heap.size := by omega
            have HGS := hid hg4
            obtain ⟨B6, hB6e⟩ : ∃ B6, B6 = w6.heap.size := ⟨_, rfl⟩
            rw [← hB6e] at hL1 hL2
            clear hL1 hL2 hK hAp hbl2 hos2 htp2 hou2 hB6e
            go_wp2_with (first
              | (go_at_call 10; go_must (refine (rruns_calls A8 c8 _ l _ HU.out (by omega) HO82.out).mono ?_; rintro e w7 ⟨r1, r2, rfl, hr1, hr2, hb7⟩; have HR1 := hid hr1; have HR2 := hid hr2; have HB7 := hid hb7; have HS7 : Hid (St f w w7) := hid (HS2.out.below (hb7.mono (by have := HS2.out.lt; omega))); have cx7 := HS7.out.x; have hlx7 : w.heap.size < w7.heap.size := (by have := HS7.out.lt; omega); clear hr1 hr2 hb7))
              | (go_at_call 11; go_must (refine (It.range_any f N _).mono ?_; rintro e w' ⟨rfl, rfl⟩)))
            obtain ⟨W3, hW3⟩ : ∃ W3, W3 = ((w7.alloc (.cells #[.int .i64 0] 3)).alloc (.cells #[.int .u32 f] 22)).alloc (.cells #[.int .i64 N] 3) := ⟨_, rfl⟩
            rw [← hW3]
            have hz3 : W3.heap.size = w7.heap.size + 3 := by rw [hW3]; simp
            have hB3 : Below w7.heap.size w7 W3 := by rw [hW3]; exact TmA.below_alloc (TmA.below_alloc (TmA.below_alloc (Below.refl _ _) _) _) _
            have ci : W3.cell? ⟨w7.heap.size, 0, none⟩ = some (.int .i64 ((([] : List Int).length : Nat) : Int)) := by rw [hW3, cell_old1 _ _ _ (by simp; omega), cell_old1 _ _ _ (by simp), cell_new1 _ _ _ _ rfl]; rfl
            have fi : W3.frozen? ⟨w7.heap.size, 0, none⟩ = false := by rw [hW3, froz_old1 _ _ _ (by simp; omega), froz_old1 _ _ _ (by simp), froz_new1 _ _ _ _ rfl]
            have cf : W3.cell? ⟨w7.heap.size + 1, 0, none⟩ = some (.int .u32 f) := by rw [hW3, cell_old1 _ _ _ (by simp), cell_new1 _ _ _ _ (by simp)]; rfl
            have cn : W3.cell? ⟨w7.heap.size + 1 + 1, 0, none⟩ = some (.int .i64 N) := by rw [hW3, cell_new1 _ _ _ _ (by simp)]; rfl
            have hB73 := HB7.out.trans (hB3.mono HB7.out.size)
            have hB3' := hB3
            have hs7 := HB7.out.size
            have HS3 : Hid (St f w W3) := hid (HS7.out.below (hB3.mono (by have := HS7.out.lt; omega)))
            have HK7 : Hid (w7.heap[D]? = some (.deferred (some []))) := hid ((HB7.out.block D hD2).trans HK.out)
            have HO77 := hid (Base.ownsRow_later HO72.out HB7.out)
            have HO87 := hid (Base.ownsRow_later HO82.out HB7.out)
            have HO97 := hid (Base.ownsRow_later HO92.out HB7.out)
            have HL17 := hid (HL1.out.below HB7.out)
            have HL27 := hid (HL2.out.below HB7.out)
            have HB3 := hid hB3
            have hD7 : D < w7.heap.size := by omega
            clear hW3 hB3 hB73 hB3' HO72 HO82 HO92 HL1 HL2 HK HS2 HB7
            refine (wpIn_wide (n := 9)).1 ?_
            refine range_pre_law (F := FW) rfl (by decide) (gf := 36) (lb := #[.pointer (some ⟨w7.heap.size + 1 + 1, 0, none⟩), .pointer (some ⟨w7.heap.size + 1, 0, none⟩)]) rfl f36 (enters_of Try.func36 (by kernel_rfl) rfl)
              (seqRange 8 (by decide) (w7.heap.size + 1 + 1) (w7.heap.size + 1) (w7.heap.size + 1) N f (by omega) W3 (by omega) (Nat.le_refl _) cn cf) (fun _ _ _ _ _ _ _ h _ _ _ => h) It.Keep.trans (It.keepK_b (Nat.le_refl _)) (Below.refl _ _) (fun _ => rfl)
              (fun pre W => W3.grownBy W (some w7.heap.size) ∧ W.cell? ⟨w7.heap.size, 0, none⟩ = some (.int .i64 (pre.length : Nat)) ∧ W.frozen? ⟨w7.heap.size, 0, none⟩ = false) (fun _ _ => False) (own_i W3 w7.heap.size (by omega)) (fun _ _ _ _ h _ _ => h) ⟨World.grownBy.refl _ _, ci, fi⟩ ?a2 ?asg2 ?body2
              (fun W => W3.grownBy W (some w7.heap.size) ∧ W.cell? ⟨w7.heap.size, 0, none⟩ = some (.int .i64 (N.toNat : Nat))) ?hd2 (fun _ _ _ h => h.elim) ?hend2
            case asg2 =>
              intro lp x W K hK
              gi_wp2
              exact hK
            case hd2 =>
              rintro ys W rfl ⟨h1, h2, _⟩
              rw [It.seqR_len] at h2
              exact ⟨h1, h2⟩
            case body2 =>
              rintro lp pre x V W hIV hVW hlp hlo hpx
              obtain ⟨hI1, hI2, hI3⟩ := own_i W3 w7.heap.size (by omega) pre V W (some lp) hIV hVW (fun r e => by cases e; exact ⟨hlp, hlo⟩)
              have hx := (seqR_at hpx).symm
              have hlen : pre.length + 1 ≤ N.toNat := by have := hpx.length_le; rw [It.seqR_len, List.length_append] at this; exact this
              have hfu := HUF.out
              unfold U at hfu
              have hx1 : 0 ≤ x := by omega
              have hx2 : x ≤ 4294967295 := by omega
              have hwx : IntKind.i64.wrap x = x := by rw [IntKind.wrap_i64]; omega
              have hwf : IntKind.i64.wrap f = f := by rw [IntKind.wrap_i64]; omega
              have hwi : IntKind.i64.wrap ((pre.length : Int) + 1) = ((pre.length : Int) + 1) := by rw [IntKind.wrap_i64]; omega
              have cxW : W.cell? ⟨w.heap.size, 0, none⟩ = some (.int .u32 f) := hI1.cell (a := ⟨w.heap.size, 0, none⟩) HS3.out.x (by simp; omega)
              have hdx : (x != x) = false := by simp
              have hdy : decide (x ≠ x) = false := by simp
              have HXX := hid hx
              have HI1 := hid hI1
              clear hIV hVW hpx hx hI1
              gi_wp2_with (gi_at_call 12; go_must (refine (CallsIn.inRound lp (callsIn_wide.2 (rstep_calls f (pre.length : Nat) HUF.out W))).mono ?_; rintro e w' ⟨he, rfl⟩; rw [HXX.out] at he; subst he))
              have hgs := grown_setAt W w7.heap.size 0 (.int .i64 ((pre.length : Int) + 1))
              have hsI := HI1.out.size
              refine ⟨KeepsOthers.setCell _ _ _, ⟨hgs.size, fun k hk hk2 => hgs.block k (by omega) (fun e => by have := Option.some.inj e; omega)⟩, HI1.out.trans hgs, ?_, by simpa using hI3⟩
              rw [World.cell?_setCell_same _ _ _ hI2]
              simp
            case hend2 =>
              rintro D3 W4 hD4 ⟨hgW, hc4⟩ hK4
              have hb34 : Below w7.heap.size W3 W4 := (Below.refl _ _).grown hgW (by omega) (fun k e => by have := Option.some.inj e; omega)
              have hb74 : Below w7.heap.size w7 W4 := HB3.out.trans hb34
              have hsW := hgW.size
              have HS4 : Hid (St f w W4) := hid (HS3.out.below (hb34.mono (by omega)))
              have cx4 := HS4.out.x
              have HO74 := hid (Base.ownsRow_later HO77.out hb74)
              have HO84 := hid (Base.ownsRow_later HO87.out hb74)
              have HO94 := hid (Base.ownsRow_later HO97.out hb74)
              have HL14 := hid (HL17.out.below hb74)
              have HL24 := hid (HL27.out.below hb74)
              have HR14 := hid (Base.ownsRow_later HR1.out hb74)
              have HR24 := hid (Base.ownsRow_later HR2.out hb74)
              have HRU4 : Hid (RowU W4 A l) := hid (HR.out.below HS4.out.b)
              have HKD : Hid (W4.heap[D]? = some (.deferred (some []))) := hid ((hb74.block D hD7).trans HK7.out)
              have HKE := hid hK4
              have hD8 : D3 < W4.heap.size := (Array.getElem?_eq_some_iff.1 hK4).1
              have hDD : D < D3 := by omega
              clear hgW hb34 hb74 hK4 HO77 HO87 HO97 HL17 HL27 HR1 HR2 HK7 HS3 HB3 ci fi cf cn cx7
              have hwf : IntKind.i64.wrap f = f := by
                have hfu := HUF.out
                unfold U at hfu
                rw [IntKind.wrap_i64]; omega
              go_wp2_with (go_at_call 14; go_must (refine (rsort_calls f A8 c8 _ l _ HUF.out HU.out (by omega) HO84.out).mono ?_; rintro e w8 ⟨A10, c10, rfl, ho, hb8⟩; rw [HRS.out] at ho ⊢; have HO10 := hid ho; have HB8 := hid hb8; clear ho hb8))
              have hs8 := HB8.out.size
              refine (ints_calls _ _ 0 rs w8 (own_low (Base.ownsRow_later HO94.out HB8.out) (Nat.zero_le _)) (own_low HO10.out (Nat.zero_le _)) (by omega)).mono ?_
              rintro e w9 ⟨rfl, hq⟩
              have HB9 : Hid (Below W4.heap.size W4 w9) := hid (HB8.out.trans (by obtain ⟨q, rfl⟩ := hq; exact It.below_drewN' _ w8 q))
              clear hq
              have hc1 := HL14.out.c
              have hc2 := HL24.out.c
              have c14 : w9.cell? ⟨wr.heap.size + 1 + 1, 0, none⟩ = some v1 := (HB9.out.cell (p := ⟨wr.heap.size + 1 + 1, 0, none⟩) (TmA.lt_of_cell hc1)).trans hc1
              go_wp2_with (fail)
              have hrw : ((runs l).map fun x => IntKind.i64.wrap x.1) = (runs l).map (·.1) := runs_wrap HU.out
              have hrl : (runs l).length ≤ l.length := It.runs_len l
              have hlm : ((runs l).map (·.1)).length = (runs l).length := by simp
              have hlm2 : ((runs l).map fun x => (x.2 : Int)).length = (runs l).length := by simp
              refine (ints_calls _ _ 0 ((runs l).map (·.1)) w9 (own_low (Base.ownsRow_later (by have := HL14.out.own; rw [hrw] at this; exact this) HB9.out) (Nat.zero_le _)) (own_low (Base.ownsRow_later (by have := HR14.out; rw [hlm, List.map_map]; exact this) HB9.out) (Nat.zero_le _)) (by omega)).mono ?_
              rintro e w10 ⟨rfl, hq⟩
              have HB10 : Hid (Below W4.heap.size W4 w10) := hid (HB9.out.trans (by obtain ⟨q, rfl⟩ := hq; exact It.below_drewN' _ w9 q))
              clear hq c14
              have c15 : w10.cell? ⟨wr.heap.size + 1 + 1 + 1, 0, none⟩ = some v2 := (HB10.out.cell (p := ⟨wr.heap.size + 1 + 1 + 1, 0, none⟩) (TmA.lt_of_cell hc2)).trans hc2
              clear hc1 hc2 hrw
              go_wp2_with (fail)
              refine (ints_calls _ _ 0 ((runs l).map fun x => (x.2 : Int)) w10 (own_low (Base.ownsRow_later HL24.out.own HB10.out) (Nat.zero_le _)) (own_low (Base.ownsRow_later (by have := HR24.out; rw [hlm2, List.map_map]; exact this) HB10.out) (Nat.zero_le _)) (by omega)).mono ?_
              rintro e w11 ⟨rfl, hq⟩
              have HB11 : Hid (Below W4.heap.size W4 w11) := hid (HB10.out.trans (by obtain ⟨q, rfl⟩ := hq; exact It.below_drewN' _ w10 q))
              clear hq c15 hlm hlm2
              go_wp2_with (fail)
              refine (words2_calls _ A c 0 l w11 (own_low (Base.ownsRow_later HO74.out HB11.out) (Nat.zero_le _)) (HRU4.out.below HB11.out) (by omega)).mono ?_
              rintro e w12 ⟨rfl, hq⟩
              have HB12 : Hid (Below W4.heap.size W4 w12) := hid (HB11.out.trans (by obtain ⟨q, rfl⟩ := hq; exact It.below_drewN' _ w11 q))
              clear hq HB11 HB10 HB9 HB8
              have HS12 : Hid (St f w w12) := hid (HS4.out.below (HB12.out.mono (by have := HS4.out.lt; omega)))
              have cc := HS12.out.c
              have cf := HS12.out.fr
              go_wp2_with (fail)
              have hg5 := grown_setAt w12 (w.heap.size + 1) 0 (.bool true)
              have hs12 := HB12.out.size
              have hlt12 := HS12.out.lt
              obtain ⟨wx, hwx⟩ : ∃ wx, wx = w12.setCell ⟨w.heap.size + 1, 0, none⟩ (.bool true) := ⟨_, rfl⟩
              rw [← hwx] at hg5 ⊢
              have k5 : wx.heap[D3]? = some (.deferred (some [])) := (hg5.block D3 (by omega) (fun e => by have := Option.some.inj e; omega)).trans ((HB12.out.block D3 hD8).trans HKE.out)
              have k6 : wx.heap[D]? = some (.deferred (some [])) := (hg5.block D (by omega) (fun e => by have := Option.some.inj e; omega)).trans ((HB12.out.block D (by omega)).trans HKD.out)
              have ce : wx.cell? ⟨w.heap.size + 1, 0, none⟩ = some (.bool true) := by rw [hwx]; exact World.cell?_setCell_same _ _ _ cc
              have hbx : Below w.heap.size w wx := HS12.out.b.grown hg5 (by omega) (fun k e => by have := Option.some.inj e; omega)
              have hsx := hg5.size
              have hg6 := grownBy_putObj' wx D3 (.deferred none)
              have k7 : (wx.putObj D3 (.deferred none)).heap[D]? = some (.deferred (some [])) := (hg6.block D (by omega) (by simp; omega)).trans k6
              have hg7 := grownBy_putObj' (wx.putObj D3 (.deferred none)) D (.deferred none)
              have hs6 := hg6.size
              have hBx := (hbx.grown hg6 (by omega) (fun k e => by cases e; omega)).grown hg7 (by omega) (fun k e => by cases e; omega)
              have hcx : ((wx.putObj D3 (.deferred none)).putObj D (.deferred none)).cell? ⟨w.heap.size + 1, 0, none⟩ = some (.bool true) :=
                (World.cell?_of_block (w := wx.putObj D3 (.deferred none)) (a := ⟨w.heap.size + 1, 0, none⟩) (hg7.block _ (by show w.heap.size + 1 < _; omega) (by simp; omega))).trans ((World.cell?_of_block (w := wx) (a := ⟨w.heap.size + 1, 0, none⟩) (hg6.block _ (by show w.heap.size + 1 < _; omega) (by simp; omega))).trans ce)
              refine ⟨by simp, .inl ⟨_, _, rfl, run_takeDeferred k5, ?_⟩⟩
              refine ⟨by simp, .inl ⟨_, _, rfl, run_takeDeferred k7, ?_⟩⟩
              exact ⟨_, results_cell6 rfl rfl hcx, rfl, hBx⟩
end Go.Proofs.Ytidbkkebkgeioaa.Sl
