import Derived.Test.YthoammfpjheodaaRaW
import Derived.Deep.RegionLaw
namespace Go.Proofs.Ythoammfpjheodaa.Rz
open Go.ChangeShapes Go.WideShapes Go.ChangeAt Go.RowKit Go.Shelf MK Go.Joins
open Base (hid cell_new1 cell_old1 froz_new1 froz_old1)
attribute [local go_sem] Oper.semAt_some
set_option linter.unusedVariables false
set_option linter.unusedSimpArgs false
set_option maxRecDepth 100000
/-! the document's Put -/
theorem resultsP {fn : Func} (h : fn.results = #[.tmp 4, .cell 5 34, .tmp 6, .tmp 7, .tmp 8]) {tmps : Array Value} {b : Nat} {v4 v6 v7 v8 : Value} {s : Int} {u : Bool} {A : Option Addr} {n c : Nat} {w : World}
    (ht4 : tmps[4]? = some v4) (ht5 : tmps[5]? = some (.pointer (some ⟨b, 0, none⟩))) (ht6 : tmps[6]? = some v6) (ht7 : tmps[7]? = some v7) (ht8 : tmps[8]? = some v8) (hm : MB w b s u A n c) :
    (results fn tmps).run Try.prog w = .ok (.tuple #[v4, .agg #[.int .i64 s, .bool u, .slice A n c], v6, v7, v8]) w := by
  obtain ⟨c0, c1, c2, _⟩ := hm
  simp only [results, h]
  simp [go_sem, c0, c1, c2, Sem.run_bind, Array.getD_eq_getD_getElem?, ht4, ht5, ht6, ht7, ht8]
/-- What the document's Put answers. -/
def RPutPost (w : World) (A : Option Addr) (c : Nat) (r : List Pm) (p : Pm) (e : Ending) (w' : World) : Prop :=
  (mayE r p ≠ 0 ∧ e = .returned (.tuple #[.slice A r.length c, msgV 0 false none 0 0, .int .u16 0, .bool false, .int .i64 (mayE r p)])) ∨
  (mayE r p = 0 ∧ ∃ (r' : List Pm) (A' : Option Addr) (c' : Nat), Row w' w.heap.size A' c' r' ∧
    ((closed (rpart r p) = false ∧ r' = r ++ [p] ∧ e = .returned (.tuple #[.slice A' r'.length c', msgV 0 false none 0 0, .int .u16 0, .bool false, .int .i64 0])) ∨
     (closed (rpart r p) = true ∧ r' = rleft r (rpart r p) ∧
      ((wholeP (rpart r p) = none ∧ e = .returned (.tuple #[.slice A' r'.length c', msgV 0 false none 0 0, .int .u16 0, .bool false, .int .i64 2])) ∨
       ∃ s u x q A2 c2, wholeP (rpart r p) = some (s, u, x) ∧ (rpart r p).head?.map (·.q) = some q ∧ e = .returned (.tuple #[.slice A' r'.length c', msgV s u A2 x.length c2, .int .u16 q, .bool true, .int .i64 0]) ∧ w'.ownsRow w.heap.size 5 1 (.slice A2 x.length c2) x.length (x.map (.int .u8))))))
theorem step_app40 {w : World} {ops : Array Oper} {o : Oper} {a : Go.Act} {K : Go.Act → World → Prop} {Q : Exit → Go.Act → World → Prop} {E : Prop} (hgd : o.guard = none) (s x : Operand)
    (ho : o.op = .call { callee := .builtin .append, args := #[s, x], argTypes := #[31, 31] }) (base : Nat) (A : Option Addr) (c : Nat) (l : List Pm) (n : Nat) (hn : n = l.length) (hs : a.eval s = .slice A n c) (hown : Row w base A c l)
    (A2 : Option Addr) (m c2 : Nat) (l2 : List Pm) (hm : m = l2.length) (hx : a.eval x = .slice A2 m c2) (hr : Src w A2 c2 l2) (hnm : n + m ≤ 1000000000) (hbase : base ≤ w.heap.size)
    (h : ∀ A' c' w', Row w' base A' c' (l ++ l2) → w.grownBy w' (Value.slice A n c).ownBlock → ((Value.slice A' (n + m) c').ownBlock = (Value.slice A n c).ownBlock ∨ (Value.slice A' (n + m) c').ownBlock = some w.heap.size) → K (a.put o.dst (.slice A' (n + m) c')) w') :
    if Region.wanted o (yielded ops a.tmps) = true then Oper.wp Try.prog o a w K Q else E := by
  obtain ⟨i0, hi, hi0, hi1, hi2⟩ := info_parts info40
  have hw : Region.wanted o (yielded ops a.tmps) = true := by simp [Region.wanted, hgd]
  rw [if_pos hw]
  subst hn hm
  have hlen : (l ++ l2).length = l.length + l2.length := List.length_append
  cases A2 with
  | none =>
    have hl : l2 = [] := by
      cases l2 with
      | nil => rfl
      | cons y l2 =>
        obtain ⟨ad, e, _⟩ := hr.cells 0 (.int .u32 y.t) rfl
        cases e
    subst hl
    obtain rfl : c2 = 0 := hr.nil rfl
    have hrun := run_append_owned_none (P := Try.prog) (w := w) base 31 o.type 40 i0 7 Try.underlying31 hi (.slice A l.length c) l.length (cellsP l) hown
    unfold Oper.wp execOp
    simp only [ho, resolve, invoke, builtin, Sem.run_bind, Sem.run_pure, Result.andThen_ok, List.map_toArray, List.map_cons, List.map_nil, hs, hx, List.length_nil, hrun]
    exact h A c w (by rw [List.append_nil]; exact hown) (World.grownBy.refl _ _) (.inl rfl)
  | some ad =>
    obtain ⟨v', w', hrun, h2, h3, h4, h5⟩ := run_append_own_at (P := Try.prog) (w := w) base 31 o.type 40 i0 zP 7 40 Try.underlying31 hi hi0 hi1 hi2 rfl (by decide) (.slice A l.length c) l.length (cellsP l) hown ad l2.length c2 (cellsP l2) (cellsP_len l2) (fun j u hj => by
      obtain ⟨ad', e, hc⟩ := hr.cells j u hj
      cases e
      exact hc) (cellsP_one _) (by unfold maxLen; omega) (by omega) hbase
    unfold Oper.wp execOp
    simp only [ho, resolve, invoke, builtin, Sem.run_bind, Sem.run_pure, Result.andThen_ok, List.map_toArray, List.map_cons, List.map_nil, hs, hx, hrun]
    obtain ⟨A', c', rfl, _⟩ := Base.slice_of_row h2
    refine h A' c' w' ?_ h3 h5
    unfold Row
    rw [cellsP_app, hlen]
    exact h2
theorem MB.new' (w : World) (s : Int) (u : Bool) (A : Option Addr) (n c k : Nat) (hk : k = w.heap.size) : MB (w.alloc (.cells #[.int .i64 s, .bool u, .slice A n c] 34)) k s u A n c := by
  subst hk
  exact MB.new w s u A n c
theorem fwd_le' {m : List Pm} {n : Nat} {p : Pm} : (fwd m n p).length ≤ n := fwd_le n p
theorem rpart_len {r : List Pm} {p : Pm} : 0 < (rpart r p).length ∧ (rpart r p).length ≤ 2 * r.length + 3 := by
  unfold rpart
  have := bk_le (m := r) (r.length + 1) p
  have := fwd_le (m := r) (r.length + 1) p
  simp
  omega
theorem fwd_mem {m : List Pm} : ∀ (n : Nat) (p : Pm), ∀ a ∈ fwd m n p, a ∈ m
  | 0, _, a, h => by cases h
  | n + 1, p, a, h => by
    rw [fwd] at h
    split at h
    · cases h
    · split at h
      · cases h
      · rename_i q hl
        split at h
        · cases h
        · rcases List.mem_cons.1 h with h | h
          · rw [h]; exact (look_mem hl).1
          · exact fwd_mem n q a h
theorem rpart_mem {r : List Pm} {p : Pm} : ∀ a ∈ rpart r p, a ∈ r ∨ a = p := by
  intro a ha
  unfold rpart at ha
  rcases List.mem_append.1 ha with ha | ha
  · rcases List.mem_append.1 ha with ha | ha
    · exact .inl (bk_mem _ _ a ha)
    · exact .inr (List.mem_singleton.1 ha)
  · exact .inl (fwd_mem _ _ a ha)
theorem rowE (X : World) (k : Nat) (hk : k = X.heap.size) : Row (X.alloc (.cells #[] 40)) k (some ⟨k, 0, none⟩) 0 [] := by
  subst hk
  exact World.ownsRow_made X (e := 40) (size := 7) #[] 0 (Nat.le_refl _) (by decide) rfl
set_option maxHeartbeats 8000000 in
theorem rput_calls (w : World) (A : Option Addr) (c : Nat) (r : List Pm) (p : Pm) (h : InR w A c r) (hp : Inp w p) (hm : r.length ≤ 1000) (hh : held r ≤ 2000) (hx : ∀ q ∈ r, q.x.length ≤ 1000000) :
    Calls Try.prog 75 #[.slice A r.length c, p.val] w fun e w' => Below w.heap.size w w' ∧ RPutPost w A c r p e w' := by
  have H := hid h
  have HP := hid hp
  have HX := hid hx
  have hpl := hp.l
  have hhs := hh
  clear h hp hx
  obtain ⟨w0, hw0⟩ : ∃ w0, w0 = (w.alloc (.cells #[.int .u32 p.t, .int .u16 p.s, .int .u16 p.q, .bool p.b, .bool p.e, .bool p.u, .slice p.A p.x.length p.c] 40)).alloc (.cells #[.int .i64 0, .bool false, .slice none 0 0] 34) := ⟨_, rfl⟩
  have hb0 : Below w.heap.size w w0 := by rw [hw0]; exact below_alloc (below_alloc (Below.refl _ _) _) _
  have hz0 : w0.heap.size = w.heap.size + 2 := by rw [hw0]; simp
  have hbx : Box w0 w.heap.size p := by rw [hw0]; exact (Box.new w p).below (below_alloc (Below.refl _ _) _)
  have hmb : MB w0 (w.heap.size + 1) 0 false none 0 0 := by rw [hw0]; exact MB.new' _ _ _ _ _ _ _ (by simp)
  have HB0 := hid hb0
  have HBX := hid hbx
  have HMB := hid hmb
  have HW0 := hid hw0
  clear hb0 hbx hmb hw0
  rw [show p.val = .agg #[.int .u32 p.t, .int .u16 p.s, .int .u16 p.q, .bool p.b, .bool p.e, .bool p.u, .slice p.A p.x.length p.c] from rfl]
  have HFIN : Hid (∀ X s u A n c, Below w0.heap.size w0 X → MB (X.setCells (w.heap.size + 1) 0 [.int .i64 s, .bool u, .slice A n c]) (w.heap.size + 1) s u A n c ∧ Below w.heap.size w (X.setCells (w.heap.size + 1) 0 [.int .i64 s, .bool u, .slice A n c])) := hid fun X s u A n c hX =>
    ⟨(HMB.out.below hX).set3, (HB0.out.trans (hX.mono (by omega))).grown (setCells_grown _ _ _ _) (by have := hX.size; omega) (fun k e => by have := Option.some.inj e; omega)⟩
  have HBAD : Hid (∀ n : Int, mayE r p = n → n ≠ 0 → ∀ W : World, RPutPost w A c r p (.returned (.tuple #[.slice A r.length c, .agg #[.int .i64 0, .bool false, .slice none 0 0], .int .u16 0, .bool false, .int .i64 n])) W) := hid fun n h1 h2 W => .inl ⟨by rw [h1]; exact h2, by rw [h1]; rfl⟩
  go_enter Try.func75, Try.ntmps75
  go_upto_region 1 with fail
  rw [← HW0.out]
  obtain ⟨x0, x1, x2, x3, x4, x5, x6, xf⟩ := HBX.out
  obtain ⟨m0, m1, m2, mf⟩ := HMB.out
  have hps := HP.out.s
  by_cases d1 : (p.x.length : Int) < 1
  · have HE := hid (HBAD.out 2 (by unfold mayE rightP; rw [if_pos]; simp; omega) (by decide))
    obtain ⟨hmf, hbf⟩ := HFIN.out w0 0 false none 0 0 (Below.refl _ _)
    have HMF := hid hmf
    have HBF := hid hbf
    clear hmf hbf
    go_wp2
    exact bodyPost_ret (resultsP rfl rfl rfl rfl rfl rfl HMF.out) rfl ⟨HBF.out, HE.out _⟩
  · by_cases d2 : (64 : Int) < (p.x.length : Int)
    · have HE := hid (HBAD.out 2 (by unfold mayE rightP; rw [if_pos]; simp; omega) (by decide))
      obtain ⟨hmf, hbf⟩ := HFIN.out w0 0 false none 0 0 (Below.refl _ _)
      have HMF := hid hmf
      have HBF := hid hbf
      clear hmf hbf
      go_wp2
      exact bodyPost_ret (resultsP rfl rfl rfl rfl rfl rfl HMF.out) rfl ⟨HBF.out, HE.out _⟩
    · by_cases d3 : (7 : Int) < p.s
      · have HE := hid (HBAD.out 2 (by unfold mayE rightP; rw [if_pos]; simp; omega) (by decide))
        obtain ⟨hmf, hbf⟩ := HFIN.out w0 0 false none 0 0 (Below.refl _ _)
        have HMF := hid hmf
        have HBF := hid hbf
        clear hmf hbf
        go_wp2
        exact bodyPost_ret (resultsP rfl rfl rfl rfl rfl rfl HMF.out) rfl ⟨HBF.out, HE.out _⟩
      · have HR : Hid (rightP p = true) := hid (by unfold rightP; simp; omega)
        have hh76 := rhas_calls w0 A c r p.t (H.out.below HB0.out)
        cases hl : look r p.t with
        | some q =>
          have HE := hid (HBAD.out 12 (by unfold mayE; rw [if_neg (by rw [HR.out]; decide), if_pos (by rw [hl]; rfl)]) (by decide))
          rw [hl] at hh76
          have HC := hid hh76
          clear hh76 hl
          go_wp2_with (go_at_call 76; go_must (refine HC.out.mono ?_; rintro e w1 ⟨rfl, hb1⟩; have HB1 := hid hb1; obtain ⟨m0, m1, m2, mf⟩ := HMB.out.below hb1; clear hb1))
          obtain ⟨hmf, hbf⟩ := HFIN.out w1 0 false none 0 0 HB1.out
          exact bodyPost_ret (resultsP rfl rfl rfl rfl rfl rfl hmf) rfl ⟨hbf, HE.out _⟩
        | none =>
          rw [hl] at hh76
          have HC := hid hh76
          have HL := hid hl
          clear hh76 hl
          go_upto_region 5 with (go_at_call 76; go_must (refine HC.out.mono ?_; rintro e w1 ⟨rfl, hb1⟩; have HB1 := hid hb1; clear hb1))
          have HB01 : Hid (Below w.heap.size w w1) := hid (below_step HB0.out HB1.out)
          have hz1 := HB1.out.size
          have hmr := H.out.below HB01.out
          have HI1 := hid hmr
          obtain ⟨x0, x1, x2, x3, x4, x5, x6, xf⟩ := HBX.out.below HB1.out
          have hsum : wrap64 (((held r : Nat) : Int) + (p.x.length : Int)) = ((held r + p.x.length : Nat) : Int) := by unfold wrap64; omega
          have HD : Hid (∀ k, Below w1.heap.size w1 (w1.drewN k)) := hid fun k => (Below.refl _ _).drewN' k
          clear m0 m1 m2 mf hmr
          go_cut [43] (fun v43 wx => v43 = .bool (decide (2000 < held r + p.x.length)) ∧ ∃ n, wx = w1.drewN n)
          case first =>
            have hd : decide ((2000 : Int) < ((held r + p.x.length : Nat) : Int)) = decide (2000 < held r + p.x.length) := by rw [Bool.eq_iff_iff, decide_eq_true_eq, decide_eq_true_eq]; omega
            go_quiet ((go_at_call 81; exact (rheld_calls _ A c r (HI1.out.below (HD.out _)) (by omega)).mono (fun e w' h => ⟨h.1, _, h.2.symm⟩)))
            go_wp2
            go_meet
            case rel => exact ⟨by first | rfl | (congr 1), _, rfl⟩
          case rest =>
            obtain ⟨rfl, nq, rfl⟩ := hcut
            obtain ⟨w2, hw2⟩ : ∃ w2, w2 = w1.drewN nq := ⟨_, rfl⟩
            have hb2 := HD.out nq
            rw [← hw2] at hb2 ⊢
            have HB2 : Hid (Below w0.heap.size w0 w2) := hid (HB1.out.trans (hb2.mono hz1))
            have hz2 := HB2.out.size
            clear hb2 hw2 x0 x1 x2 x3 x4 x5 x6 xf
            obtain ⟨x0, x1, x2, x3, x4, x5, x6, xf⟩ := HBX.out.below HB2.out
            cases hd : decide (2000 < held r + p.x.length) with
            | true =>
              have hdp : 2000 < held r + p.x.length := by simpa using hd
              have HE := hid (HBAD.out 3 (by unfold mayE; rw [if_neg (by rw [HR.out]; decide), if_neg (by rw [HL.out]; decide), if_pos hdp]) (by decide))
              obtain ⟨m0, m1, m2, mf⟩ := HMB.out.below HB2.out
              clear hd
              go_wp2
              obtain ⟨hmf, hbf⟩ := HFIN.out w2 0 false none 0 0 HB2.out
              exact bodyPost_ret (resultsP rfl rfl rfl rfl rfl rfl hmf) rfl ⟨hbf, HE.out _⟩
            | false =>
              have hdp : ¬ 2000 < held r + p.x.length := by simpa using hd
              have HM0 : Hid (mayE r p = 0) := hid (by unfold mayE; rw [if_neg (by rw [HR.out]; decide), if_neg (by rw [HL.out]; decide), if_neg hdp])
              have HB02 : Hid (Below w.heap.size w w2) := hid (below_step HB0.out HB2.out)
              have hpart := rpart_calls w2 A c r p (H.out.below HB02.out) HP.out.u (by omega)
              have hlen := rpart_len (r := r) (p := p)
              have HMEM : Hid (∀ a ∈ rpart r p, a ∈ r ∨ a = p) := hid rpart_mem
              obtain ⟨P, hPe⟩ : ∃ P, P = rpart r p := ⟨_, rfl⟩
              rw [← hPe] at hpart hlen HMEM
              have HPE := hid hPe
              have HPC := hid hpart
              clear hpart hPe hd
              have HV : Hid (p.val = .agg #[.int .u32 p.t, .int .u16 p.s, .int .u16 p.q, .bool p.b, .bool p.e, .bool p.u, .slice p.A p.x.length p.c]) := hid rfl
              go_upto_region 8 with (go_at_call 87; go_must (rw [← HV.out]; refine HPC.out.mono ?_; rintro e w3 ⟨A3, c3, rfl, hr3, hb3⟩; have HR3 := hid hr3; have HB3 := hid hb3; clear hr3 hb3))
              have hz3 := HB3.out.size
              have HB13 : Hid (Below w0.heap.size w0 w3) := hid (HB2.out.trans (HB3.out.mono (by omega)))
              have HB03 : Hid (Below w.heap.size w w3) := hid (below_step HB0.out HB13.out)
              have hcl := rclosed_calls w3 w2.heap.size A3 c3 P HR3.out hlen.1 (by omega)
              have HCL := hid hcl
              clear hcl x0 x1 x2 x3 x4 x5 x6 xf
              cases hc : closed P with
              | false =>
                have HCF := hid hc
                rw [hc] at HCL
                clear hc
                go_upto_region 9 with (go_at_call 86; go_must (refine HCL.out.mono ?_; rintro e w' ⟨rfl, rfl⟩))
                have HRS : Hid (∀ X, Below w3.heap.size w3 X → InR X A c r ∧ Box X w.heap.size p ∧ MB X (w.heap.size + 1) 0 false none 0 0 ∧ Below w0.heap.size w0 X) := hid fun X hX =>
                  ⟨H.out.below (HB03.out.trans (hX.mono (by omega))), HBX.out.below (HB13.out.trans (hX.mono (by omega))), HMB.out.below (HB13.out.trans (hX.mono (by omega))), HB13.out.trans (hX.mono (by omega))⟩
                obtain ⟨m0, m1, m2, mf⟩ := HMB.out.below HB13.out
                obtain ⟨x0, x1, x2, x3, x4, x5, x6, xf⟩ := HBX.out.below HB13.out
                have hlt3 : w.heap.size < w3.heap.size := by omega
                have hlt3' : w.heap.size + 1 < w3.heap.size := by omega
                go_region_law (first
                  | (refine step_app40 rfl (.tmp 52) (.tmp 53) rfl w.heap.size (some ⟨w3.heap.size, 0, none⟩) 0 [] 0 rfl (by simp [Act.eval, Act.put]) (by first | exact own_low (rowE w3 _ rfl) (by omega) | exact own_low (Base.ownsRow_later (rowE w3 _ rfl) (Below.drew (Below.refl _ _))) (by omega)) A r.length c r rfl (by simp [Act.eval, Act.put]) (by refine (HRS.out _ ?_).1.src; first | exact below_alloc (Below.refl _ _) _ | exact Below.drew (below_alloc (Below.refl _ _) _)) (by omega) (by first | omega | (simp; omega)) ?_
                     intro A4 c4 w4 hr4 hg4 ho4
                     have hx4 : Below w3.heap.size w3 w4 := Below.grown (by first | exact below_alloc (Below.refl _ _) _ | exact Below.drew (below_alloc (Below.refl _ _) _)) hg4 (by first | omega | (simp; done) | (simp; omega)) (fun k e => by simp [Value.ownBlock] at e; omega)
                     skip
                     obtain ⟨y0, y1, y2, y3, y4, y5, y6, yf⟩ := (HRS.out w4 hx4).2.1
                     obtain ⟨n0, n1, n2, nf⟩ := (HRS.out w4 hx4).2.2.1
                     have HR4 := hid hr4
                     have HX4 := hid hx4
                     have hz4 := hx4.size
                     have hrow : ∀ k, (Value.slice A4 (0 + r.length) c4).ownBlock = some k → w3.heap.size ≤ k := fun k e => by
                       rcases ho4 with h | h
                       · rw [h] at e
                         simp [Value.ownBlock] at e
                         omega
                       · rw [h] at e
                         have := Option.some.inj e
                         try simp at this
                         omega
                     have HROW := hid hrow
                     clear hr4 hx4 hg4 ho4 hrow)
                  | (refine step_app40 rfl (.tmp 52) (.tmp 53) rfl w.heap.size (some ⟨w3.heap.size, 0, none⟩) 0 [] 0 rfl (by simp [Act.eval, Act.put]) (by first | exact own_low (Base.ownsRow_later (rowE w3 _ rfl) (below_alloc (Below.refl _ _) _)) (by omega) | exact own_low (Base.ownsRow_later (rowE w3 _ rfl) (Below.drew (below_alloc (Below.refl _ _) _))) (by omega)) A r.length c r rfl (by simp [Act.eval, Act.put]) (by refine (HRS.out _ ?_).1.src; first | exact below_alloc (below_alloc (Below.refl _ _) _) _ | exact Below.drew (below_alloc (below_alloc (Below.refl _ _) _) _)) (by omega) (by first | omega | (simp; omega)) ?_
                     intro A4 c4 w4 hr4 hg4 ho4
                     have hx4 : Below w3.heap.size w3 w4 := Below.grown (by first | exact below_alloc (below_alloc (Below.refl _ _) _) _ | exact Below.drew (below_alloc (below_alloc (Below.refl _ _) _) _)) hg4 (by first | omega | (simp; done) | (simp; omega)) (fun k e => by simp [Value.ownBlock] at e; omega)
                     have HS56 : Hid (Src w4 (some ⟨w3.heap.size + 1, 0, none⟩) 1 [p]) := hid (Src.one ((Box.new' (w3.alloc (.cells #[] 40)) p (w3.heap.size + 1) (by simp)).block (hg4.block _ (by simp) (by simp [Value.ownBlock]))))
                     obtain ⟨y0, y1, y2, y3, y4, y5, y6, yf⟩ := (HRS.out w4 hx4).2.1
                     obtain ⟨n0, n1, n2, nf⟩ := (HRS.out w4 hx4).2.2.1
                     have HR4 := hid hr4
                     have HX4 := hid hx4
                     have hz4 := hx4.size
                     have hrow : ∀ k, (Value.slice A4 (0 + r.length) c4).ownBlock = some k → w3.heap.size ≤ k := fun k e => by
                       rcases ho4 with h | h
                       · rw [h] at e
                         simp [Value.ownBlock] at e
                         omega
                       · rw [h] at e
                         have := Option.some.inj e
                         try simp at this
                         omega
                     have HROW := hid hrow
                     clear hr4 hx4 hg4 ho4 hrow)
                  | (refine step_app40 rfl (.tmp 52) (.tmp 53) rfl w.heap.size (some ⟨w3.heap.size + 1, 0, none⟩) 0 [] 0 rfl (by simp [Act.eval, Act.put]) (by first | exact own_low (rowE (w3.alloc (.cells #[.int .u32 p.t, .int .u16 p.s, .int .u16 p.q, .bool p.b, .bool p.e, .bool p.u, .slice p.A p.x.length p.c] 40)) _ (by simp)) (by omega) | exact own_low (Base.ownsRow_later (rowE (w3.alloc (.cells #[.int .u32 p.t, .int .u16 p.s, .int .u16 p.q, .bool p.b, .bool p.e, .bool p.u, .slice p.A p.x.length p.c] 40)) _ (by simp)) (Below.drew (Below.refl _ _))) (by omega)) A r.length c r rfl (by simp [Act.eval, Act.put]) (by refine (HRS.out _ ?_).1.src; first | exact below_alloc (below_alloc (Below.refl _ _) _) _ | exact Below.drew (below_alloc (below_alloc (Below.refl _ _) _) _)) (by omega) (by first | omega | (simp; omega)) ?_
                     intro A4 c4 w4 hr4 hg4 ho4
                     have hx4 : Below w3.heap.size w3 w4 := Below.grown (by first | exact below_alloc (below_alloc (Below.refl _ _) _) _ | exact Below.drew (below_alloc (below_alloc (Below.refl _ _) _) _)) hg4 (by first | omega | (simp; done) | (simp; omega)) (fun k e => by simp [Value.ownBlock] at e; omega)
                     have HS56 : Hid (Src w4 (some ⟨w3.heap.size, 0, none⟩) 1 [p]) := hid (Src.one (((Box.new w3 p).below (below_alloc (Below.refl _ _) (.cells #[] 40))).block (hg4.block _ (by simp; omega) (by simp [Value.ownBlock]))))
                     obtain ⟨y0, y1, y2, y3, y4, y5, y6, yf⟩ := (HRS.out w4 hx4).2.1
                     obtain ⟨n0, n1, n2, nf⟩ := (HRS.out w4 hx4).2.2.1
                     have HR4 := hid hr4
                     have HX4 := hid hx4
                     have hz4 := hx4.size
                     have hrow : ∀ k, (Value.slice A4 (0 + r.length) c4).ownBlock = some k → w3.heap.size ≤ k := fun k e => by
                       rcases ho4 with h | h
                       · rw [h] at e
                         simp [Value.ownBlock] at e
                         omega
                       · rw [h] at e
                         have := Option.some.inj e
                         try simp at this
                         omega
                     have HROW := hid hrow
                     clear hr4 hx4 hg4 ho4 hrow)
                  | (refine step_app40 rfl (.tmp 54) (.tmp 56) rfl w.heap.size A4 c4 ([] ++ r) (0 + r.length) (by simp) (by simp [Act.eval, Act.put]) (by first | exact Base.ownsRow_later HR4.out (below_alloc (Below.refl _ _) _) | exact Base.ownsRow_later HR4.out (Below.drew (below_alloc (Below.refl _ _) _))) (some ⟨w4.heap.size, 0, none⟩) 1 1 [p] rfl (by simp [Act.eval, Act.put]) (by first | exact Src.one (Box.new w4 p) | exact (Src.one (Box.new w4 p)).below (Below.drew (Below.refl _ _))) (by omega) (by first | omega | (simp; omega)) ?_
                     intro A5 c5 w5 hr5 hg5 ho5
                     have hx5 : Below w3.heap.size w3 w5 := Below.grown (by first | exact HX4.out.trans ((below_alloc (Below.refl _ _) _).mono hz4) | exact HX4.out.trans ((Below.drew (below_alloc (Below.refl _ _) _)).mono hz4)) hg5 (by first | omega | (simp; done) | (simp; omega)) HROW.out
                     obtain ⟨q0, q1, q2, qf⟩ := (HRS.out w5 hx5).2.2.1
                     have hrow5 : ∀ k, (Value.slice A5 ([] ++ r ++ [p]).length c5).ownBlock = some k → w3.heap.size ≤ k := fun k e => by
                       have e' : (Value.slice A5 (0 + r.length + 1) c5).ownBlock = some k := by cases A5 <;> simp [Value.ownBlock] at e ⊢ <;> exact e
                       rcases ho5 with h | h
                       · rw [h] at e'
                         exact HROW.out _ e'
                       · rw [h] at e'
                         have := Option.some.inj e'
                         try simp at this
                         omega
                     have HROW5 : Hid (∀ k, (Value.slice A5 (r ++ [p]).length c5).ownBlock = some k → w3.heap.size ≤ k) := hid hrow5
                     have HR5 := hid hr5
                     have HX5 := hid hx5
                     clear hr5 hx5)
                  | (refine step_app40 rfl (.tmp 54) (.tmp 56) rfl w.heap.size A4 c4 ([] ++ r) (0 + r.length) (by simp) (by simp [Act.eval, Act.put]) (by exact HR4.out) (some ⟨w3.heap.size + 1, 0, none⟩) 1 1 [p] rfl (by simp [Act.eval, Act.put]) (by exact HS56.out) (by omega) (by first | omega | (simp; omega)) ?_
                     intro A5 c5 w5 hr5 hg5 ho5
                     have hx5 : Below w3.heap.size w3 w5 := Below.grown (by exact HX4.out) hg5 (by first | omega | (simp; done) | (simp; omega)) HROW.out
                     obtain ⟨q0, q1, q2, qf⟩ := (HRS.out w5 hx5).2.2.1
                     have hrow5 : ∀ k, (Value.slice A5 ([] ++ r ++ [p]).length c5).ownBlock = some k → w3.heap.size ≤ k := fun k e => by
                       have e' : (Value.slice A5 (0 + r.length + 1) c5).ownBlock = some k := by cases A5 <;> simp [Value.ownBlock] at e ⊢ <;> exact e
                       rcases ho5 with h | h
                       · rw [h] at e'
                         exact HROW.out _ e'
                       · rw [h] at e'
                         have := Option.some.inj e'
                         try simp at this
                         omega
                     have HROW5 : Hid (∀ k, (Value.slice A5 (r ++ [p]).length c5).ownBlock = some k → w3.heap.size ≤ k) := hid hrow5
                     have HR5 := hid hr5
                     have HX5 := hid hx5
                     clear hr5 hx5)
                  | (refine step_app40 rfl (.tmp 54) (.tmp 56) rfl w.heap.size A4 c4 ([] ++ r) (0 + r.length) (by simp) (by simp [Act.eval, Act.put]) (by exact HR4.out) (some ⟨w3.heap.size, 0, none⟩) 1 1 [p] rfl (by simp [Act.eval, Act.put]) (by exact HS56.out) (by omega) (by first | omega | (simp; omega)) ?_
                     intro A5 c5 w5 hr5 hg5 ho5
                     have hx5 : Below w3.heap.size w3 w5 := Below.grown (by exact HX4.out) hg5 (by first | omega | (simp; done) | (simp; omega)) HROW.out
                     obtain ⟨q0, q1, q2, qf⟩ := (HRS.out w5 hx5).2.2.1
                     have hrow5 : ∀ k, (Value.slice A5 ([] ++ r ++ [p]).length c5).ownBlock = some k → w3.heap.size ≤ k := fun k e => by
                       have e' : (Value.slice A5 (0 + r.length + 1) c5).ownBlock = some k := by cases A5 <;> simp [Value.ownBlock] at e ⊢ <;> exact e
                       rcases ho5 with h | h
                       · rw [h] at e'
                         exact HROW.out _ e'
                       · rw [h] at e'
                         have := Option.some.inj e'
                         try simp at this
                         omega
                     have HROW5 : Hid (∀ k, (Value.slice A5 (r ++ [p]).length c5).ownBlock = some k → w3.heap.size ≤ k) := hid hrow5
                     have HR5 := hid hr5
                     have HX5 := hid hx5
                     clear hr5 hx5)
                  | fail)
                all_goals
                  have hlen5 : r.length + 1 = (r ++ [p]).length := by simp
                  have HL5 := hid hlen5
                  clear hlen5
                  go_wp2
                  obtain ⟨hmf, hbf⟩ := HFIN.out w5 0 false none 0 0 (HRS.out w5 HX5.out).2.2.2
                  have g1 := setCells_grown (w.heap.size + 1) [.int .i64 0, .bool false, .slice none 0 0] 0 w5
                  refine bodyPost_ret (resultsP (v4 := .slice A5 (r.length + 1) c5) (v6 := .int .u16 0) (v7 := .bool false) (v8 := .int .i64 0) rfl rfl rfl rfl rfl rfl hmf) rfl ⟨hbf, .inr ⟨HM0.out, r ++ [p], A5, c5, ?_, .inl ⟨by rw [← HPE.out]; exact HCF.out, rfl, ?_⟩⟩⟩
                  · have hk := HR5.out
                    rw [List.nil_append] at hk
                    exact World.ownsRow.kept hk g1 (by
                      rcases hb : (Value.slice A5 (r ++ [p]).length c5).ownBlock with _ | k
                      · exact .inl rfl
                      · exact .inr fun e => by have := HROW5.out _ hb; have := Option.some.inj e; omega)
                  · rw [HL5.out]
                    rfl
              | true =>
                have HCT := hid hc
                rw [hc] at HCL
                clear hc
                have HPin : Hid (∀ a ∈ P, Inp w a) := hid (fun a ha => by
                  rcases HMEM.out a ha with h | h
                  · exact H.out.inp a h
                  · rw [h]; exact HP.out)
                have hp76 : ∀ X, Below w3.heap.size w3 X → InR X A3 c3 P := fun X hX => (InR.of_row HR3.out (fun a ha => (HPin.out a ha).below HB03.out) (by omega)).below hX
                have HP76 := hid hp76
                clear hp76
                go_upto_block 0 with (go_at_call 86; go_must (refine HCL.out.mono ?_; rintro e w' ⟨rfl, rfl⟩))
                go_cut [10] (fun v10 wx => ∃ (A5 : Option Addr) (e5 : Nat), v10 = .slice A5 (rleft r P).length e5 ∧ Hid (Row wx w3.heap.size A5 e5 (rleft r P)) ∧ Hid (Below w3.heap.size w3 wx))
                case first =>
                  go_wp2_with fail
                  go_loopw [10, 11] (fun v10 v11 wr => ∃ (i : Nat) (L : List Pm) (A5 : Option Addr) (e5 : Nat), i ≤ r.length ∧ v11 = .int .i64 i ∧ v10 = .slice A5 L.length e5 ∧ L.length ≤ i ∧ Hid (L = rleft (r.take i) P) ∧ Hid (Row wr w3.heap.size A5 e5 L) ∧ Hid (Below w3.heap.size w3 wr)) (fun _ v11 _ => r.length - numV v11)
                  case atStart => exact ⟨0, [], none, 0, Nat.zero_le _, rfl, rfl, Nat.le_refl _, hid rfl, hid (World.ownsRow_nil _ _ _ _), hid (Below.refl _ _)⟩
                  case round =>
                    obtain ⟨i, L, A5, e5, hil, rfl, rfl, hLi, HL2, HR5, HW5⟩ := hrel
                    have hz5 := HW5.out.size
                    by_cases hlt : i < r.length
                    · obtain ⟨q, hq⟩ : ∃ q, r[i] = q := ⟨_, rfl⟩
                      have HIr : Hid (InR wr A c r) := hid (H.out.below (HB03.out.trans (HW5.out.mono (by omega))))
                      obtain ⟨ad, rfl, hbl, c0, c1, c2, c3', c4, c5, c6⟩ := HIr.out.at i hlt
                      rw [hq] at c0 c1 c2 c3' c4 c5 c6
                      have htk : rleft (r.take (i + 1)) P = rleft (r.take i) P ++ (if (look P q.t).isSome then [] else [q]) := by
                        rw [List.take_succ_eq_append_getElem hlt, hq]
                        unfold rleft
                        rw [List.filter_append]
                        congr 1
                        cases hls : (look P q.t).isSome <;> (simp only [List.filter_cons, List.filter_nil, hls]; rfl)
                      have hc76 := rhas_calls wr A3 c3 P q.t (HP76.out wr HW5.out)
                      have hlen := HIr.out.len
                      cases hlk : (look P q.t).isSome with
                      | true =>
                        rw [hlk] at hc76 htk
                        simp only [if_true, List.append_nil] at htk
                        have HTK := hid htk
                        have HC76 := hid hc76
                        clear hc76 htk hq hlk
                        go_wp2_with (go_at_call 76; go_must (refine HC76.out.mono ?_; rintro e w4 ⟨rfl, hb4⟩; have HB4 := hid hb4; clear hb4))
                        go_roundw
                        case rel => exact ⟨i + 1, L, A5, e5, by omega, by simp, rfl, by omega, hid (by rw [HTK.out]; exact HL2.out), hid (Base.ownsRow_later HR5.out HB4.out), hid (HW5.out.trans (HB4.out.mono (by omega)))⟩
                        case measure => simp [numV]; omega
                      | false =>
                        rw [hlk] at hc76 htk
                        simp only [Bool.false_eq_true, if_false] at htk
                        have HTK := hid htk
                        have HC76 := hid hc76
                        have HQ := hid hq
                        clear hc76 htk hq hlk c1 c2 c3' c4 c5 c6
                        go_wp2_with (first
                          | (go_at_call 76; go_must (refine HC76.out.mono ?_; rintro e w4 ⟨rfl, hb4⟩; have HB4 := hid hb4; have hz4 := hb4.size; obtain ⟨ad', e', _, c0, c1, c2, c3', c4, c5, c6⟩ := (HIr.out.below hb4).at i hlt; cases e'; rw [HQ.out] at c0 c1 c2 c3' c4 c5 c6; clear hb4))
                          | (at_builtin; go_must (refine wpList_app_pm rfl _ _ rfl w3.heap.size A5 e5 L L.length rfl rfl (Base.ownsRow_later HR5.out (below_step HB4.out (below_alloc (Below.refl _ _) _))) (some ⟨w4.heap.size, 0, none⟩) 1 1 [q] rfl rfl (Src.one (Box.new w4 q)) (by omega) (by simp; omega) ?_)))
                        intro A6 e6 w6 hr6 hg6 _
                        have hw6 : Below w3.heap.size w3 w6 := (below_alloc (HW5.out.trans (HB4.out.mono (by omega))) _).grown hg6 (by simp; omega) (fun k e => (own_base HR5.out e).1)
                        have hlen6 : L.length + 1 = (L ++ [q]).length := by simp
                        have HL6 := hid hlen6
                        have HR6 := hid hr6
                        have HW6 := hid hw6
                        clear hr6 hg6 hw6 hlen6
                        go_wp2
                        go_roundw
                        case rel => exact ⟨i + 1, L ++ [q], A6, e6, by omega, by simp, by rw [HL6.out], by rw [← HL6.out]; omega, hid (by rw [HTK.out, HL2.out]), HR6, HW6⟩
                        case measure => simp [numV]; omega
                    · obtain rfl : i = r.length := by omega
                      have hL := HL2.out
                      rw [List.take_length] at hL
                      subst hL
                      go_wp2
                      go_meet
                      case rel => exact ⟨A5, e5, rfl, HR5, HW5⟩
                case rest =>
                  obtain ⟨A5, e5, rfl, HR5, HW5⟩ := hcut
                  have hz5 := HW5.out.size
                  have hwh := rwhole_calls wc w2.heap.size A3 c3 P (Base.ownsRow_later HR3.out HW5.out) hlen.1 (by omega) (fun a ha => ((HPin.out a ha).below (HB03.out.trans (HW5.out.mono (by omega)))).ok (by
                    rcases HMEM.out a ha with h | h
                    · exact HX.out a h
                    · rw [h]; omega)) (fun a ha => (HPin.out a ha).s)
                  have HBX5 : Hid (Below w0.heap.size w0 wc) := hid (HB13.out.trans (HW5.out.mono (by omega)))
                  have hpos : 0 < P.length := hlen.1
                  unfold RWholePost msgV at hwh
                  cases hwp : wholeP P with
                  | none =>
                    rw [hwp] at hwh
                    have HWH := hid hwh
                    have HWP := hid hwp
                    clear hwh hwp
                    go_upto_region 17 with (go_at_call 101; go_must (refine HWH.out.mono ?_; rintro e w6 ⟨hb6, rfl⟩; have HB6 := hid hb6; clear hb6))
                    have hz6 := HB6.out.size
                    obtain ⟨w7, hw7⟩ : ∃ w7, w7 = w6.alloc (.cells #[.int .i64 0, .bool false, .slice none 0 0] 34) := ⟨_, rfl⟩
                    rw [← hw7]
                    have hb7 : Below wc.heap.size wc w7 := by rw [hw7]; exact below_alloc HB6.out _
                    have HB7 := hid hb7
                    have HB07 : Hid (Below w0.heap.size w0 w7) := hid (HBX5.out.trans (hb7.mono (by omega)))
                    obtain ⟨m0, m1, m2, mf⟩ := HMB.out.below HB07.out
                    clear hb7 hw7
                    go_wp2
                    obtain ⟨hmf, hbf⟩ := HFIN.out w7 0 false none 0 0 HB07.out
                    have g1 := setCells_grown (w.heap.size + 1) [.int .i64 0, .bool false, .slice none 0 0] 0 w7
                    refine bodyPost_ret (resultsP (v4 := .slice A5 (rleft r P).length e5) (v6 := .int .u16 0) (v7 := .bool false) (v8 := .int .i64 2) rfl rfl rfl rfl rfl rfl hmf) rfl ⟨hbf, .inr ⟨HM0.out, rleft r P, A5, e5, ?_, .inr ⟨by rw [← HPE.out]; exact HCT.out, by rw [← HPE.out], .inl ⟨by rw [← HPE.out]; exact HWP.out, rfl⟩⟩⟩⟩
                    exact own_low (World.ownsRow.kept (Base.ownsRow_later HR5.out HB7.out) g1 (by
                      rcases hb : (Value.slice A5 (rleft r P).length e5).ownBlock with _ | k
                      · exact .inl rfl
                      · exact .inr fun e => by have := (own_base HR5.out hb).1; have := Option.some.inj e; omega)) (by omega)
                  | some m =>
                    obtain ⟨s, u, x⟩ := m
                    rw [hwp] at hwh
                    simp only at hwh
                    have HWH := hid hwh
                    have HWP := hid hwp
                    clear hwh hwp
                    go_upto_region 17 with (go_at_call 101; go_must (refine HWH.out.mono ?_; rintro e w6 ⟨hb6, A6, c6, rfl, hO6⟩; have HB6 := hid hb6; have HO6 := hid hO6; clear hb6 hO6))
                    have hz6 := HB6.out.size
                    obtain ⟨w7, hw7⟩ : ∃ w7, w7 = w6.alloc (.cells #[.int .i64 s, .bool u, .slice A6 x.length c6] 34) := ⟨_, rfl⟩
                    rw [← hw7]
                    have hb67 : Below w6.heap.size w6 w7 := by rw [hw7]; exact below_alloc (Below.refl _ _) _
                    have hm7 : MB w7 w6.heap.size s u A6 x.length c6 := by rw [hw7]; exact MB.new w6 s u A6 x.length c6
                    have hb7 : Below wc.heap.size wc w7 := below_step HB6.out hb67
                    have HB7 := hid hb7
                    have HB67 := hid hb67
                    have HB07 : Hid (Below w0.heap.size w0 w7) := hid (HBX5.out.trans (hb7.mono (by omega)))
                    have HM7 := hid hm7
                    have hz7 := HB7.out.size
                    have hz67 := HB67.out.size
                    obtain ⟨f, hf⟩ : ∃ f, P[0] = f := ⟨_, rfl⟩
                    have hrow7 := Base.ownsRow_later HR3.out (HW5.out.trans (HB7.out.mono (by omega)))
                    obtain ⟨g, rfl, _, hgl, k0, k1, k2, k3, k4, k5, k6⟩ := Row.cells hrow7 0 hpos
                    rw [hf] at k2
                    have k2' : w7.cell? ⟨g, 2, none⟩ = some (.int .u16 f.q) := by simpa using k2
                    have hq : P.head?.map (·.q) = some f.q := by
                      rw [List.head?_eq_getElem?, List.getElem?_eq_getElem hpos, hf]
                      rfl
                    have HQ := hid hq
                    have HS7 : Hid (∀ X, Below w7.heap.size w7 X → X.cell? ⟨g, 2, none⟩ = some (.int .u16 f.q) ∧ X.cell? ⟨w6.heap.size, 0, none⟩ = some (.int .i64 s) ∧ X.cell? ⟨w6.heap.size, 1, none⟩ = some (.bool u) ∧ X.cell? ⟨w6.heap.size, 2, none⟩ = some (.slice A6 x.length c6) ∧ X.cell? ⟨w.heap.size + 1, 0, none⟩ = some (.int .i64 0) ∧ X.cell? ⟨w.heap.size + 1, 1, none⟩ = some (.bool false) ∧ X.cell? ⟨w.heap.size + 1, 2, none⟩ = some (.slice none 0 0) ∧ (∀ i, X.frozen? ⟨w.heap.size + 1, i, none⟩ = false) ∧ Below w7.heap.size w7 X) := hid fun X hX => by
                      obtain ⟨a0, a1, a2, _⟩ := HM7.out.below hX
                      obtain ⟨b0, b1, b2, bf⟩ := HMB.out.below (HB07.out.trans (hX.mono (by omega)))
                      exact ⟨(hX.cell (p := ⟨g, 2, none⟩) hgl).trans k2', a0, a1, a2, b0, b1, b2, bf, hX⟩
                    clear hb67 hm7 hb7 hrow7 k0 k1 k2 k3 k4 k5 k6 k2' hq hf hw7
                    go_upto_region 19 with fail
                    obtain ⟨k2, a0, a1, a2, b0, b1, b2, bf, _⟩ := HS7.out w7 (Below.refl _ _)
                    go_region
                    obtain ⟨hmf, hbf⟩ := HFIN.out w7 s u A6 x.length c6 HB07.out
                    have g1 := setCells_grown (w.heap.size + 1) [.int .i64 s, .bool u, .slice A6 x.length c6] 0 w7
                    have hd : ∀ X : World, Below X.heap.size X X.drew := fun X => Below.drew (Below.refl _ _)
                    have HMF := hid (hmf.below (hd _))
                    have HBF := hid (hbf.trans ((hd _).mono hbf.size))
                    have HR7 : Hid (Row ((w7.setCells (w.heap.size + 1) 0 [.int .i64 s, .bool u, .slice A6 x.length c6]).drew) w.heap.size A5 e5 (rleft r P)) := hid (own_low (Base.ownsRow_later (World.ownsRow.kept (Base.ownsRow_later HR5.out HB7.out) g1 (by
                      rcases hb : (Value.slice A5 (rleft r P).length e5).ownBlock with _ | k
                      · exact .inl rfl
                      · exact .inr fun e => by have := (own_base HR5.out hb).1; have := Option.some.inj e; omega)) (hd _)) (by omega))
                    have HO7 : Hid (((w7.setCells (w.heap.size + 1) 0 [.int .i64 s, .bool u, .slice A6 x.length c6]).drew).ownsRow w.heap.size 5 1 (.slice A6 x.length c6) x.length (x.map (.int .u8))) := hid (own_low (Base.ownsRow_later (World.ownsRow.kept (Base.ownsRow_later HO6.out HB67.out) g1 (by
                      rcases hb : (Value.slice A6 x.length c6).ownBlock with _ | k
                      · exact .inl rfl
                      · exact .inr fun e => by have := (own_base HO6.out hb).1; have := Option.some.inj e; omega)) (hd _)) (by omega))
                    clear hmf hbf g1 hd
                    go_wp2
                    exact bodyPost_ret (resultsP (v4 := .slice A5 (rleft r P).length e5) (v6 := .int .u16 f.q) (v7 := .bool true) (v8 := .int .i64 0) rfl rfl rfl rfl rfl rfl HMF.out) rfl ⟨HBF.out, .inr ⟨HM0.out, rleft r P, A5, e5, HR7.out, .inr ⟨by rw [← HPE.out]; exact HCT.out, by rw [← HPE.out], .inr ⟨s, u, x, f.q, A6, c6, by rw [← HPE.out]; exact HWP.out, by rw [← HPE.out]; exact HQ.out, rfl, HO7.out⟩⟩⟩⟩
end Go.Proofs.Ythoammfpjheodaa.Rz
