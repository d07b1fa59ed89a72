import Derived.Test.YthoammfpjheodaaRaC
namespace Go.Proofs.Ythoammfpjheodaa.Rz
open Go.ChangeShapes Go.WideShapes Go.ChangeAt Go.RowKit Go.Shelf MK Go.Joins
open Base (hid cell_new1 cell_old1 froz_new1 froz_old1)
attribute [local go_sem] Oper.semAt_some
set_option linter.unusedVariables false
set_option linter.unusedSimpArgs false
set_option maxRecDepth 100000
/-! the document's Whole -/
def okR (l : List Pm) (f : Pm) (i : Nat) (p : Pm) : Bool := (p.b == decide (i = 0)) && ((p.e == decide (i + 1 = l.length)) && (decide (1 ≤ p.x.length ∧ p.x.length ≤ 64) && (decide (p.t = step f.t i) && (decide (p.s = f.s) && (decide (p.q = f.q) && (p.u == f.u))))))
theorem followsP_iff (p r : Pm) : followsP p r = true ↔ p.t = step r.t 1 ∧ p.s = r.s ∧ p.q = r.q ∧ p.u = r.u := by
  unfold followsP
  simp
theorem okAt_iff (l : List Pm) (i : Nat) (p : Pm) : okAt l i p = true ↔ p.b = decide (i = 0) ∧ p.e = decide (i + 1 = l.length) ∧ (1 ≤ p.x.length ∧ p.x.length ≤ 64) ∧ (i = 0 ∨ ((l[i - 1]?.map (followsP p)).getD true) = true) := by
  unfold okAt
  simp only [Bool.and_eq_true, Bool.or_eq_true, beq_iff_eq, decide_eq_true_eq]
theorem okR_iff (l : List Pm) (f : Pm) (i : Nat) (p : Pm) : okR l f i p = true ↔ p.b = decide (i = 0) ∧ p.e = decide (i + 1 = l.length) ∧ (1 ≤ p.x.length ∧ p.x.length ≤ 64) ∧ p.t = step f.t i ∧ p.s = f.s ∧ p.q = f.q ∧ p.u = f.u := by
  unfold okR
  simp only [Bool.and_eq_true, beq_iff_eq, decide_eq_true_eq]
/-- Joined, by both. -/
theorem joined_iff {l : List Pm} (h0 : 0 < l.length) (hu : U32 l[0].t) : joinedP l = true ↔ ∀ i (hi : i < l.length), okR l l[0] i l[i] = true := by
  have hj : joinedP l = true ↔ ∀ i (hi : i < l.length), okAt l i l[i] = true := by
    constructor
    · intro h i hi
      cases ho : okAt l i l[i] with
      | true => rfl
      | false => rw [joined_no hi ho] at h; cases h
    · intro h
      rw [joined_yes h]
      simpa using h0
  rw [hj]
  constructor
  · intro h i hi
    induction i with
    | zero =>
      obtain ⟨a, b, c, d⟩ := (okAt_iff _ _ _).1 (h 0 hi)
      exact (okR_iff _ _ _ _).2 ⟨a, b, c, (step_zero hu).symm, rfl, rfl, rfl⟩
    | succ i ih =>
      obtain ⟨a, b, c, d⟩ := (okAt_iff _ _ _).1 (h (i + 1) hi)
      obtain ⟨_, _, _, e1, e2, e3, e4⟩ := (okR_iff _ _ _ _).1 (ih (by omega))
      rcases d with d | d
      · cases d
      · rw [show i + 1 - 1 = i from rfl, List.getElem?_eq_getElem (by omega)] at d
        obtain ⟨f1, f2, f3, f4⟩ := (followsP_iff _ _).1 (by simpa using d)
        refine (okR_iff _ _ _ _).2 ⟨a, b, c, ?_, f2.trans e2, f3.trans e3, f4.trans e4⟩
        rw [f1, e1, step_step]
        congr 1
  · intro h i hi
    obtain ⟨a, b, c, d1, d2, d3, d4⟩ := (okR_iff _ _ _ _).1 (h i hi)
    refine (okAt_iff _ _ _).2 ⟨a, b, c, ?_⟩
    rcases Nat.eq_zero_or_pos i with h1 | h1
    · exact .inl h1
    · refine .inr ?_
      obtain ⟨_, _, _, e1, e2, e3, e4⟩ := (okR_iff _ _ _ _).1 (h (i - 1) (by omega))
      rw [List.getElem?_eq_getElem (by omega)]
      simp only [Option.map_some, Option.getD_some]
      refine (followsP_iff _ _).2 ⟨?_, d2.trans e2.symm, d3.trans e3.symm, d4.trans e4.symm⟩
      rw [d1, e1, step_step]
      congr 1
      omega
/-- What the document's Whole answers. -/
def RWholePost (w : World) (l : List Pm) (e : Ending) (w' : World) : Prop := match wholeP l with
  | none => e = .returned (.tuple #[msgV 0 false none 0 0, .bool false])
  | some (s, u, x) => ∃ A' c', e = .returned (.tuple #[msgV s u A' x.length c', .bool true]) ∧ w'.ownsRow w.heap.size 5 1 (.slice A' x.length c') x.length (x.map (.int .u8))
theorem wrap_conv (t i : Int) : IntKind.u32.wrap (t + IntKind.u32.wrap i) = step t i := step_val t i
theorem good16_calls (s : Int) (u : Bool) (A : Option Addr) (n c : Nat) (w : World) : Calls Try.prog 71 #[msgV s u A n c] w fun e w' => e = .returned (.bool (goodN s n)) ∧ Below w.heap.size w w' := by
  unfold msgV
  have h1 : decide ((0 : Int) ≤ s) = true ∨ decide ((0 : Int) ≤ s) = false := by cases decide ((0 : Int) ≤ s) <;> simp
  have h2 : decide (s < 8) = true ∨ decide (s < 8) = false := by cases decide (s < 8) <;> simp
  have h3 : decide ((1 : Int) ≤ (n : Int)) = true ∨ decide ((1 : Int) ≤ (n : Int)) = false := by cases decide ((1 : Int) ≤ (n : Int)) <;> simp
  have h4 : decide ((n : Int) ≤ 400) = true ∨ decide ((n : Int) ≤ 400) = false := by cases decide ((n : Int) ≤ 400) <;> simp
  rcases h1 with h1 | h1 <;> rcases h2 with h2 | h2 <;> rcases h3 with h3 | h3 <;> rcases h4 with h4 | h4
  all_goals
    have hr : ∃ r, goodN s n = r := ⟨_, rfl⟩
    obtain ⟨r, hr⟩ := hr
    have HR := hid hr
    rw [hr]
    go_enter Try.func71, Try.ntmps71
    go_wp2
    go_ret
    refine ⟨?_, below_alloc (Below.refl _ _) _⟩
    rw [← HR.out]
    unfold goodN
    simp at h1 h2 h3 h4
    try simp
    try omega
theorem MB.set3 {w : World} {b : Nat} {s s' : Int} {u u' : Bool} {A A' : Option Addr} {n c n' c' : Nat} (h : MB w b s u A n c) : MB (w.setCells b 0 [.int .i64 s', .bool u', .slice A' n' c']) b s' u' A' n' c' := by
  have hc : ∀ j, j < 3 → (w.cell? ⟨b, 0 + j, none⟩).isSome = true := by
    intro j hj
    rw [Nat.zero_add]
    match j, hj with
    | 0, _ => rw [h.c0]; rfl
    | 1, _ => rw [h.c1]; rfl
    | 2, _ => rw [h.c2]; rfl
  have h4 := World.cell?_setCells_in b [.int .i64 s', .bool u', .slice A' n' c'] 0 w hc
  refine ⟨h4 0 (by show 0 < 3; decide), h4 1 (by show 1 < 3; decide), h4 2 (by show 2 < 3; decide), fun i => ?_⟩
  have := h.fr i
  simpa [World.setCells] using this
set_option maxHeartbeats 40000000 in
theorem rwhole_calls (w : World) (B : Nat) (A : Option Addr) (c : Nat) (l : List Pm) (h : Row w B A c l) (hl0 : 0 < l.length) (hl : l.length ≤ 10000) (hk : ∀ p ∈ l, Ok w p) (hu : ∀ p ∈ l, 0 ≤ p.s ∧ p.s ≤ 65535) :
    Calls Try.prog 101 #[.slice A l.length c] w fun e w' => Below w.heap.size w w' ∧ RWholePost w l e w' := by
  have HR := hid h
  have HK := hid hk
  have HUU := hid hu
  obtain ⟨f, hf⟩ : ∃ f, l[0] = f := ⟨_, rfl⟩
  have hfm : f ∈ l := hf ▸ List.getElem_mem hl0
  have hfu : U32 f.t := (hk f hfm).u
  have hJ := joined_iff hl0 (by rw [hf]; exact hfu)
  rw [hf] at hJ
  have HJ := hid hJ
  have HF := hid hf
  have hwe : joinedP l = true → wholeP l = if goodN f.s (textP l).length = true then some (f.s, f.u, textP l) else none := fun h => by rw [wholeP_eq h hl0, hf]
  have hwn : joinedP l = false → wholeP l = none := fun h => by
    unfold wholeP
    split
    · rfl
    · rw [if_neg]
      rintro ⟨h1, _⟩
      rw [h] at h1
      cases h1
  have HWE := hid hwe
  have HWN := hid hwn
  clear h hk hu hJ hf hwe hwn hfm hfu
  have hbm : MB (w.alloc (.cells #[.int .i64 0, .bool false, .slice none 0 0] 34)) w.heap.size 0 false none 0 0 := MB.new w 0 false none 0 0
  obtain ⟨w0, hw0⟩ : ∃ w0, w0 = w.alloc (.cells #[.int .i64 0, .bool false, .slice none 0 0] 34) := ⟨_, rfl⟩
  have hb0 : Below w.heap.size w w0 := by rw [hw0]; exact below_alloc (Below.refl _ _) _
  have hz0 : w0.heap.size = w.heap.size + 1 := by rw [hw0]; simp
  rw [← hw0] at hbm
  have HM0 := hid hbm
  have HB0 := hid hb0
  have HW0 := hid hw0
  clear hbm hb0 hw0
  go_enter Try.func101, Try.ntmps101
  go_upto_block 0 with fail
  rw [← HW0.out]
  have hbm : MB (w0.alloc (.cells #[.int .i64 0, .bool false, .slice none 0 0] 34)) w0.heap.size 0 false none 0 0 := MB.new w0 0 false none 0 0
  obtain ⟨w1, hw1⟩ : ∃ w1, w1 = w0.alloc (.cells #[.int .i64 0, .bool false, .slice none 0 0] 34) := ⟨_, rfl⟩
  have hb1 : Below w0.heap.size w0 w1 := by rw [hw1]; exact below_alloc (Below.refl _ _) _
  have hz1 : w1.heap.size = w0.heap.size + 1 := by rw [hw1]; simp
  rw [← hw1] at hbm ⊢
  have HM1 := hid hbm
  have HB1 := hid hb1
  have HB01 : Hid (Below w.heap.size w w1) := hid (below_step HB0.out hb1)
  have HM01 : Hid (MB w1 w.heap.size 0 false none 0 0) := hid (HM0.out.below hb1)
  have HR1 := hid (HR.out.below HB01.out)
  clear hbm hb1 hw1
  go_wp2_with fail
  go_loopw [5] (fun v5 wr => ∃ (i : Nat) (s5 : Int) (u5 : Bool) (A5 : Option Addr) (e5 : Nat), i ≤ l.length ∧ v5 = .int .i64 i ∧ Hid (∀ j (hj : j < l.length), j < i → okR l f j l[j] = true) ∧ Hid (0 < i → s5 = f.s ∧ u5 = f.u) ∧ Hid ((textP (l.take i)).length ≤ 64 * i) ∧ Hid (MB wr w0.heap.size s5 u5 A5 (textP (l.take i)).length e5) ∧ Hid (wr.ownsRow (w1.heap.size) 5 1 (.slice A5 (textP (l.take i)).length e5) (textP (l.take i)).length ((textP (l.take i)).map (.int .u8))) ∧ Hid (Below w0.heap.size w1 wr)) (fun v5 _ => l.length - numV v5)
  case atStart => exact ⟨0, 0, false, none, 0, Nat.zero_le _, rfl, hid (fun j hj h => absurd h (Nat.not_lt_zero _)), hid (fun h => absurd h (Nat.lt_irrefl _)), hid (Nat.zero_le _), HM1, hid (World.ownsRow_nil _ _ _ _), hid (Below.refl _ _)⟩
  case round =>
    obtain ⟨i, s5, u5, A5, e5, hil, rfl, HJO, HSU, HTL, HM, HO, HW⟩ := hrel
    have hzw := HW.out.size
    have HR1w : Hid (∀ X, Below w0.heap.size w1 X → Row X B A c l) := hid fun X hX => Base.ownsRow_later (w := w) HR.out ((HB0.out.trans ((HB1.out.mono (by omega)).trans (hX.mono (by omega)))))
    by_cases hlt : i < l.length
    · have hRw := HR1w.out wr HW.out
      obtain ⟨p, hp⟩ : ∃ p, l[i] = p := ⟨_, rfl⟩
      obtain ⟨g, rfl, hBg, hgl, c0, c1, c2, c3, c4, c5, c6⟩ := hRw.cells i hlt
      obtain ⟨g', e', _, _, k0, k1, k2, k3, k4, k5, k6⟩ := hRw.cells 0 hl0
      cases e'
      rw [hp] at c0 c1 c2 c3 c4 c5 c6
      clear k0 k1 k2 k3 k4 k5 k6
      have hwl : wrap64 ((l.length : Int) - 1) = (l.length : Int) - 1 := by unfold wrap64; omega
      obtain ⟨z0, hz0'⟩ : ∃ z0, decide (i = 0) = z0 := ⟨_, rfl⟩
      obtain ⟨z1, hz1'⟩ : ∃ z1, decide (i + 1 = l.length) = z1 := ⟨_, rfl⟩
      have e0 : ((i : Int) == 0) = z0 := by rw [← hz0']; by_cases h : i = 0 <;> simp [h]
      have e1 : ((i : Int) == (l.length : Int) - 1) = z1 := by
        rw [← hz1', Bool.eq_iff_iff, beq_iff_eq, decide_eq_true_eq]
        omega
      have hstep : (f.t + (i : Int)) % 4294967296 = step f.t i := rfl
      obtain ⟨bad, hbad⟩ : ∃ bad, bad = (((p.b != z0) || (p.e != z1)) || (decide ((p.x.length : Int) < 1) || decide ((64 : Int) < (p.x.length : Int)))) := ⟨_, rfl⟩
      obtain ⟨bad2, hbad2⟩ : ∃ bad2, bad2 = ((((p.t != step f.t i) || (p.s != f.s)) || (p.q != f.q)) || (p.u != f.u)) := ⟨_, rfl⟩
      have hok : okR l f i p = (!bad && !bad2) := by
        rw [Bool.eq_iff_iff, okR_iff, hz0', hz1', hbad, hbad2]
        simp only [Bool.and_eq_true, Bool.not_eq_true', Bool.or_eq_false_iff, bne_eq_false_iff_eq, decide_eq_false_iff_not]
        constructor
        · rintro ⟨a1, a2, a3, a4, a5, a6, a7⟩
          exact ⟨⟨⟨a1, a2⟩, by omega, by omega⟩, ⟨⟨a4, a5⟩, a6⟩, a7⟩
        · rintro ⟨⟨⟨a1, a2⟩, a3, a3'⟩, ⟨⟨a4, a5⟩, a6⟩, a7⟩
          exact ⟨a1, a2, by omega, a4, a5, a6, a7⟩
      have HOK := hid hok
      have HBAD := hid hbad
      have HBAD2 := hid hbad2
      have HP := hid hp
      obtain ⟨wp, hwp⟩ : ∃ wp, wp = wr.alloc (.cells #[.int .u32 p.t, .int .u16 p.s, .int .u16 p.q, .bool p.b, .bool p.e, .bool p.u, .slice p.A p.x.length p.c] 40) := ⟨_, rfl⟩
      have hbx : Box wp wr.heap.size p := by rw [hwp]; exact Box.new wr p
      have hbp : Below wr.heap.size wr wp := by rw [hwp]; exact below_alloc (Below.refl _ _) _
      have hzp : wp.heap.size = wr.heap.size + 1 := by rw [hwp]; simp
      have HWP := hid hwp
      have HBX := hid hbx
      have HBP := hid hbp
      clear hok hbad hbad2 hp hz0' hz1' hwp hbx hbp
      go_upto_region 6 with fail
      rw [← HWP.out]
      obtain ⟨x0, x1, x2, x3, x4, x5, x6, xf⟩ := HBX.out
      go_cut [44] (fun v44 wx => v44 = .bool bad ∧ wp = wx)
      case first =>
        by_cases d1 : p.b = z0
        · subst d1
          by_cases d2 : p.e = z1
          · subst d2
            by_cases d3 : (p.x.length : Int) < 1
            · have hb := HBAD.out
              simp [d3] at hb
              have HB := hid hb
              clear hb
              go_wp2
              go_meet
              case rel => exact ⟨by rw [HB.out], rfl⟩
            · by_cases d4 : (64 : Int) < (p.x.length : Int)
              · have hb := HBAD.out
                simp [d3, d4] at hb
                have HB := hid hb
                clear hb
                go_wp2
                go_meet
                case rel => exact ⟨by rw [HB.out], rfl⟩
              · have hb := HBAD.out
                simp [d3, d4] at hb
                have HB := hid hb
                clear hb
                go_wp2
                go_meet
                case rel => exact ⟨by rw [HB.out], rfl⟩
          · have hb := HBAD.out
            simp [bne_iff_ne.2 d2] at hb
            have HB := hid hb
            clear hb
            go_wp2
            go_meet
            case rel => exact ⟨by rw [HB.out], rfl⟩
        · have hb := HBAD.out
          simp [bne_iff_ne.2 d1] at hb
          have HB := hid hb
          clear hb
          go_wp2
          go_meet
          case rel => exact ⟨by rw [HB.out], rfl⟩
      case rest =>
        obtain ⟨rfl, rfl⟩ := hcut
        have HNO : Hid (okR l f i p = false → wholeP l = none) := hid (fun h => HWN.out (by
          cases hj : joinedP l with
          | false => rfl
          | true =>
            have := HJ.out.1 hj i hlt
            rw [HP.out, h] at this
            cases this))
        have HBW : Hid (Below w0.heap.size w1 wp) := hid (HW.out.trans (HBP.out.mono (by omega)))
        have HMF : Hid (∀ X, Below w0.heap.size w1 X → MB X w.heap.size 0 false none 0 0) := hid fun X hX => HM01.out.block (hX.block w.heap.size (by omega))
        have HFIN : Hid (∀ X, Below w0.heap.size w1 X → Below w.heap.size w (X.setCells w.heap.size 0 [.int .i64 0, .bool false, .slice none 0 0])) := hid fun X hX =>
          (HB01.out.trans (hX.mono (by omega))).grown (setCells_grown _ _ _ _) (by have := hX.size; omega) (fun k e => by have := Option.some.inj e; omega)
        obtain ⟨g', e', _, _, k0, k1, k2, k3, k4, k5, k6⟩ := (HR1w.out wp HBW.out).cells 0 hl0
        cases e'
        rw [HF.out] at k0 k1 k2 k3 k4 k5 k6
        clear c0 c1 c2 c3 c4 c5 c6
        cases bad with
        | true =>
          have hn := HNO.out (by rw [HOK.out]; rfl)
          obtain ⟨a0, a1, a2, af⟩ := HMF.out wp HBW.out
          have HN := hid hn
          clear hn
          go_wp2
          have hm := (HMF.out wp HBW.out).set3 (s' := 0) (u' := false) (A' := none) (n' := 0) (c' := 0)
          refine bodyPost_ret (results23 rfl rfl rfl hm.c0 hm.c1 hm.c2) rfl ⟨HFIN.out wp HBW.out, ?_⟩
          unfold RWholePost
          rw [HN.out]
          rfl
        | false =>
          go_upto_region 8 with fail
          go_cut [82] (fun v82 wx => v82 = .bool bad2 ∧ ∃ n, wx = wp.drewN n)
          case first =>
            have hb2 := HBAD2.out
            clear HBAD2 HBAD HOK HNO HBX HWP HP e0 e1 hwl xf k3 k4 k6 x6 x3 x4
            generalize p.t = pt at *
            generalize p.s = ps at *
            generalize p.q = pq at *
            generalize p.u = pu at *
            generalize p.b = pb at *
            generalize p.e = pe at *
            by_cases d1 : pt = step f.t i
            · subst d1
              by_cases d2 : ps = f.s
              · subst d2
                by_cases d3 : pq = f.q
                · subst d3
                  by_cases d4 : pu = f.u
                  · subst d4
                    simp at hb2
                    subst hb2
                    go_quiet (fail)
                    go_wp2
                    go_meet
                    case rel => exact ⟨rfl, _, rfl⟩
                  · have d4' := bne_iff_ne.2 d4
                    have d5' := beq_eq_false_iff_ne.2 d4
                    rw [d4'] at hb2
                    simp at hb2
                    subst hb2
                    go_quiet (fail)
                    go_wp2
                    go_meet
                    case rel => exact ⟨by simp [d5'], _, rfl⟩
                · have d4' := bne_iff_ne.2 d3
                  have d5' := beq_eq_false_iff_ne.2 d3
                  rw [d4'] at hb2
                  simp at hb2
                  subst hb2
                  go_quiet (fail)
                  go_wp2
                  go_meet
                  case rel => exact ⟨rfl, _, rfl⟩
              · have d4' := bne_iff_ne.2 d2
                have d5' := beq_eq_false_iff_ne.2 d2
                rw [d4'] at hb2
                simp at hb2
                subst hb2
                go_quiet (fail)
                go_wp2
                go_meet
                case rel => exact ⟨rfl, _, rfl⟩
            · have d4' := bne_iff_ne.2 d1
              have d5' := beq_eq_false_iff_ne.2 d1
              rw [d4'] at hb2
              simp at hb2
              subst hb2
              go_quiet (fail)
              go_wp2
              go_meet
              case rel => exact ⟨rfl, _, rfl⟩
          case rest =>
            obtain ⟨rfl, nq, rfl⟩ := hcut
            have hbq : Below wp.heap.size wp (wp.drewN nq) := (Below.refl _ _).drewN' nq
            have hzq : (wp.drewN nq).heap.size = wp.heap.size := rfl
            obtain ⟨wq, hwq⟩ : ∃ wq, wq = wp.drewN nq := ⟨_, rfl⟩
            rw [← hwq] at hbq hzq ⊢
            have HBQ := hid hbq
            have HBWQ : Hid (Below w0.heap.size w1 wq) := hid (HBW.out.trans (hbq.mono (by omega)))
            obtain ⟨y0, y1, y2, y3, y4, y5, y6, yf⟩ := HBX.out.below hbq
            clear hbq hwq x0 x1 x2 x3 x4 x5 x6 xf
            cases bad2 with
            | true =>
              have hn := HNO.out (by rw [HOK.out]; rfl)
              obtain ⟨a0, a1, a2, af⟩ := HMF.out wq HBWQ.out
              have HN := hid hn
              clear hn
              go_wp2
              have hm := (HMF.out wq HBWQ.out).set3 (s' := 0) (u' := false) (A' := none) (n' := 0) (c' := 0)
              refine bodyPost_ret (results23 rfl rfl rfl hm.c0 hm.c1 hm.c2) rfl ⟨HFIN.out wq HBWQ.out, ?_⟩
              unfold RWholePost
              rw [HN.out]
              rfl
            | false =>
              have hyes : ∀ j (hj : j < l.length), j < i + 1 → okR l f j l[j] = true := fun j hj hji => by
                rcases Nat.lt_or_ge j i with h' | h'
                · exact HJO.out j hj h'
                · obtain rfl : j = i := by omega
                  rw [HP.out, HOK.out]
                  rfl
              have hk := (okR_iff l f i p).1 (by rw [HOK.out]; rfl)
              have HYES := hid hyes
              have HKP := hid hk
              have hpm : p ∈ l := HP.out ▸ List.getElem_mem hlt
              have hps := HUU.out p hpm
              have hws : IntKind.i64.wrap p.s = p.s := by rw [IntKind.wrap_i64]; omega
              have hpo : Ok wq p := (HK.out p hpm).below (HB01.out.trans (HBWQ.out.mono (by omega)))
              have HPO := hid hpo
              have htk : textP (l.take (i + 1)) = textP (l.take i) ++ p.x := by
                rw [List.take_succ_eq_append_getElem hlt, HP.out]
                unfold textP
                rw [List.flatMap_append]
                simp
              have HTK := hid htk
              have hmb : MB wq w0.heap.size s5 u5 A5 (textP (l.take i)).length e5 := HM.out.below ((HBP.out).trans (HBQ.out.mono (by omega)))
              have hown := Base.ownsRow_later HO.out ((HBP.out).trans (HBQ.out.mono (by omega)))
              have htl := HTL.out
              have hp64 := HKP.out.2.2.1
              obtain ⟨xs, hxs⟩ : ∃ xs, textP (l.take i) = xs := ⟨_, rfl⟩
              rw [hxs] at HTK hmb hown htl
              rw [hz0] at hmb
              have HMB := hid hmb
              obtain ⟨d0, d1, d2, df⟩ := hmb
              have hzw0 : w0.heap.size < wr.heap.size := by omega
              have HOW := hid hown
              clear hyes hk hpm hps hpo htk hxs hown HNO
              obtain ⟨W2, hW2⟩ : ∃ W2, W2 = (wq.setCell ⟨w.heap.size + 1, 0, none⟩ (.int .i64 p.s)).setCell ⟨w.heap.size + 1, 1, none⟩ (.bool p.u) := ⟨_, rfl⟩
              have hg2 : wq.grownBy W2 (some (w.heap.size + 1)) := by
                rw [hW2]
                exact (grown_setAt _ _ _ _).trans (grown_setAt _ _ _ _)
              have hm2 : MB W2 (w.heap.size + 1) p.s p.u A5 xs.length e5 := by
                rw [hW2]
                refine ⟨?_, ?_, ?_, fun j => ?_⟩
                · rw [World.cell?_setCell_other _ _ _ _ (by simp)]
                  exact World.cell?_setCell_same _ _ _ HMB.out.c0
                · refine World.cell?_setCell_same _ _ _ (u := .bool u5) ?_
                  rw [World.cell?_setCell_other _ _ _ _ (by simp)]
                  exact HMB.out.c1
                · rw [World.cell?_setCell_other _ _ _ _ (by simp), World.cell?_setCell_other _ _ _ _ (by simp)]
                  exact HMB.out.c2
                · have := HMB.out.fr j
                  simpa using this
              have hbx2 : Box W2 wr.heap.size p := (HBX.out.below HBQ.out).block (hg2.block _ (by omega) (fun e => by have := Option.some.inj e; omega))
              have hbw2 : Below w.heap.size w W2 := (HB01.out.trans (HBWQ.out.mono (by omega))).grown hg2 (by have := HBWQ.out.size; omega) (fun k e => by have := Option.some.inj e; omega)
              have hps2 : Ok W2 p := (HK.out p (HP.out ▸ List.getElem_mem hlt)).below hbw2
              have how2 := HOW.out.kept hg2 (by
                rcases hb : (Value.slice A5 xs.length e5).ownBlock with _ | q
                · exact .inl rfl
                · exact .inr fun e => by have := (own_base HOW.out hb).1; have := Option.some.inj e; omega)
              have hbw12 : Below w0.heap.size w1 W2 := HBWQ.out.grown hg2 (by have := HBWQ.out.size; omega) (fun k e => by have := Option.some.inj e; omega)
              have HBW12 := hid hbw12
              have HPS2 := hid hps2
              have HOW2 := hid how2
              have hz2 := hbw12.size
              have hzl : W2.heap.size = wq.heap.size := by rw [hW2]; simp [World.setCell]
              have HW2 := hid hW2
              have HG2 := hid hg2
              have HM2 := hid hm2
              have HBX2 := hid hbx2
              clear hW2 hg2 hm2 hbx2 hps2 how2 hbw12 hbw2
              go_upto_region 12 with fail
              rw [← HW2.out]
              obtain ⟨d0, d1, d2, df⟩ := HM2.out
              obtain ⟨y0, y1, y2, y3, y4, y5, y6, yf⟩ := HBX2.out
              go_wp2_with (at_builtin; go_must (refine wpList_app_txt rfl _ _ rfl w1.heap.size _ xs.length xs rfl HOW2.out p.A p.x.length p.c p.x rfl rfl HPS2.out.nil HPS2.out.txt (by omega) (by omega) ?_))
              intro v3 w3 own3 hg3 _
              have hrow : ∀ k, (Value.slice A5 xs.length e5).ownBlock = some k → w1.heap.size ≤ k := fun k e => (own_base HOW2.out e).1
              have hm3 : MB w3 (w.heap.size + 1) p.s p.u A5 xs.length e5 := HM2.out.block (hg3.block _ (by omega) (fun e => by have := hrow _ e.symm; omega))
              have hw3 : Below w0.heap.size w1 w3 := HBW12.out.grown hg3 (by omega) (fun k e => by have := hrow _ e; omega)
              obtain ⟨A3, e3, rfl, _⟩ := Base.slice_of_row own3
              have hgs := grown_setAt w3 (w.heap.size + 1) 2 (.slice A3 (xs.length + p.x.length) e3)
              have own4 := own3.kept hgs (by
                rcases hb : (Value.slice A3 (xs.length + p.x.length) e3).ownBlock with _ | q
                · exact .inl rfl
                · exact .inr fun e => by have := (own_base own3 hb).1; have := Option.some.inj e; omega)
              have hw4 : Below w0.heap.size w1 (w3.setCell ⟨w.heap.size + 1, 2, none⟩ (.slice A3 (xs.length + p.x.length) e3)) := hw3.grown hgs (by have := hw3.size; omega) (fun k e => by have := Option.some.inj e; omega)
              have hm4 : MB (w3.setCell ⟨w.heap.size + 1, 2, none⟩ (.slice A3 (xs.length + p.x.length) e3)) (w.heap.size + 1) p.s p.u A3 (xs.length + p.x.length) e3 := hm3.set
              obtain ⟨f0, f1, f2, ff⟩ := hm3
              have HO4 := hid own4
              have HW4 := hid hw4
              have HM4 := hid hm4
              clear own3 hg3 hrow hw3 hgs own4 hw4 hm4
              go_wp2
              go_roundw
              case rel =>
                refine ⟨i + 1, p.s, p.u, A3, e3, by omega, by go_num, HYES, hid (fun _ => ⟨HKP.out.2.2.2.2.1, HKP.out.2.2.2.2.2.2⟩), hid ?_, hid ?_, hid ?_, HW4⟩
                · rw [HTK.out, List.length_append]; omega
                · rw [HTK.out, List.length_append, hz0]; exact HM4.out
                · rw [HTK.out, List.length_append, hz1, hz0]; simpa using HO4.out
              case measure => simp [numV]; omega
    · obtain rfl : i = l.length := by omega
      have hj : joinedP l = true := HJ.out.2 fun j hj => HJO.out j hj hj
      have hwe := HWE.out hj
      obtain ⟨rfl, rfl⟩ := HSU.out hl0
      have hM := HM.out
      have hO := HO.out
      have hTL := HTL.out
      rw [List.take_length] at hM hO hTL
      rw [hz0] at hM
      have hMr : MB wr w.heap.size 0 false none 0 0 := HM01.out.block (HW.out.block w.heap.size (by omega))
      have HMr := hid hMr
      have HWEE := hid hwe
      have HOO := hid hO
      have HMM := hid hM
      have hlw := hMr.lt
      obtain ⟨d0, d1, d2, df⟩ := hM
      clear hj hwe hO hMr HM HO HTL HSU HJO
      have hgc := good16_calls f.s f.u A5 (textP l).length e5 wr
      unfold msgV at hgc
      cases hg : goodN f.s (textP l).length with
      | false =>
        have hn := HWEE.out
        rw [hg] at hn hgc
        simp only [Bool.false_eq_true, if_false] at hn
        have HN := hid hn
        have HGC := hid hgc
        clear hn hgc hg
        go_wp2_with (go_at_call 71; go_must (refine HGC.out.mono ?_; rintro e w3 ⟨rfl, hb3⟩; have HB3 := hid hb3; obtain ⟨a0, a1, a2, af⟩ := HMr.out.below hb3; obtain ⟨b0, b1, b2, bf⟩ := HMM.out.below hb3; clear hb3))
        have hm := (HMr.out.below HB3.out).set3 (s' := 0) (u' := false) (A' := none) (n' := 0) (c' := 0)
        have hb3 : Below w0.heap.size w1 w3 := HW.out.trans (HB3.out.mono (by omega))
        have g1 := setCells_grown w.heap.size [.int .i64 0, .bool false, .slice none 0 0] 0 w3
        refine bodyPost_ret (results23 rfl rfl rfl hm.c0 hm.c1 hm.c2) rfl ⟨(HB01.out.trans (hb3.mono (by omega))).grown g1 (by have := hb3.size; omega) (fun k e => by have := Option.some.inj e; omega), ?_⟩
        unfold RWholePost
        rw [HN.out]
        rfl
      | true =>
        have hn := HWEE.out
        rw [hg] at hn hgc
        simp only [if_true] at hn
        have HN := hid hn
        have HGC := hid hgc
        clear hn hgc hg
        go_wp2_with (go_at_call 71; go_must (refine HGC.out.mono ?_; rintro e w3 ⟨rfl, hb3⟩; have HB3 := hid hb3; obtain ⟨a0, a1, a2, af⟩ := HMr.out.below hb3; obtain ⟨b0, b1, b2, bf⟩ := HMM.out.below hb3; clear hb3))
        have hm := (HMr.out.below HB3.out).set3 (s' := f.s) (u' := f.u) (A' := A5) (n' := (textP l).length) (c' := e5)
        have hb3 : Below w0.heap.size w1 w3 := HW.out.trans (HB3.out.mono (by omega))
        have g1 := setCells_grown w.heap.size [.int .i64 f.s, .bool f.u, .slice A5 (textP l).length e5] 0 w3
        refine bodyPost_ret (results23 rfl rfl rfl hm.c0 hm.c1 hm.c2) rfl ⟨(HB01.out.trans (hb3.mono (by omega))).grown g1 (by have := hb3.size; omega) (fun k e => by have := Option.some.inj e; omega), ?_⟩
        unfold RWholePost
        rw [HN.out]
        refine ⟨A5, e5, rfl, own_low ((Base.ownsRow_later HOO.out HB3.out).kept g1 ?_) (by omega)⟩
        rcases hb : (Value.slice A5 (textP l).length e5).ownBlock with _ | q
        · exact .inl rfl
        · exact .inr fun e => by have := (own_base HOO.out hb).1; have := Option.some.inj e; omega
end Go.Proofs.Ythoammfpjheodaa.Rz
