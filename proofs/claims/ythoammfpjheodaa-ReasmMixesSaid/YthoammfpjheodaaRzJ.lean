import Derived.Test.YthoammfpjheodaaRzI
namespace Go.Proofs.Ythoammfpjheodaa.Rz
open Go.ChangeShapes Go.WideShapes Go.ChangeAt Go.RowKit Go.Shelf MK
open Base (hid cell_new1 cell_old1 froz_new1 froz_old1)
attribute [local go_sem] Oper.semAt_some
set_option linter.unusedVariables false
set_option linter.unusedSimpArgs false
set_option maxRecDepth 100000
def okAt (l : List Pm) (i : Nat) (p : Pm) : Bool := (p.b == decide (i = 0)) && ((p.e == decide (i + 1 = l.length)) && (decide (1 ≤ p.x.length ∧ p.x.length ≤ 64) && (decide (i = 0) || ((l[i - 1]?.map (followsP p)).getD true))))
def joinedP (l : List Pm) : Bool := decide (0 < l.length) && (List.range l.length).all fun i => (l[i]?.map (okAt l i)).getD true
theorem within_quiet (n a b : Int) (w : World) (k : Nat) : Calls Try.prog 43 #[.int .i64 n, .int .i64 a, .int .i64 b] (w.drewN k) fun e w'' => e = .returned (.bool (decide (a ≤ n) && decide (n ≤ b))) ∧ ∃ m, w'' = w.drewN m :=
  (within_calls n a b (w.drewN k)).mono fun e w' ⟨h1, h2⟩ => ⟨h1, k, h2.symm⟩
theorem within_quiet' (n a b : Int) (w : World) (k : Nat) {r : Bool} (h : (decide (a ≤ n) && decide (n ≤ b)) = r) : Calls Try.prog 43 #[.int .i64 n, .int .i64 a, .int .i64 b] (w.drewN k) fun e w'' => e = .returned (.bool r) ∧ ∃ m, w'' = w.drewN m := by
  subst h
  exact within_quiet n a b w k
theorem joined_no {l : List Pm} {i : Nat} (hi : i < l.length) (h : okAt l i l[i] = false) : joinedP l = false := by
  unfold joinedP
  rw [Bool.and_eq_false_iff]
  right
  rw [List.all_eq_false]
  exact ⟨i, List.mem_range.2 hi, by rw [List.getElem?_eq_getElem hi]; simp [h]⟩
theorem joined_yes {l : List Pm} (h : ∀ i (hi : i < l.length), okAt l i l[i] = true) : joinedP l = decide (0 < l.length) := by
  unfold joinedP
  rw [List.all_eq_true.2, Bool.and_true]
  intro i hi
  have hi := List.mem_range.1 hi
  rw [List.getElem?_eq_getElem hi]
  simpa using h i hi
set_option maxHeartbeats 8000000 in
theorem joined_calls (w : World) (B : Nat) (A : Option Addr) (c : Nat) (l : List Pm) (h : Row w B A c l) (hl : l.length ≤ 1000000) (hx : ∀ p ∈ l, p.x.length ≤ 1000000) :
    Calls Try.prog 92 #[.slice A l.length c] w fun e w' => e = .returned (.bool (joinedP l)) ∧ Below w.heap.size w w' := by
  have HR := hid h
  have HXL := hid hx
  clear h hx
  go_enter Try.func92, Try.ntmps92
  go_wp2
  go_loopw [7] (fun v7 wr => ∃ i : Nat, i ≤ l.length ∧ v7 = .int .i64 i ∧ Hid (∀ j (hj : j < l.length), j < i → okAt l j l[j] = true) ∧ Hid (Below w.heap.size w wr)) (fun v7 _ => l.length - numV v7)
  case atStart => exact ⟨0, Nat.zero_le _, rfl, hid (fun j _ h => by omega), hid (Below.refl _ _)⟩
  case round =>
    obtain ⟨i, hil, rfl, HJ, HW⟩ := hrel
    by_cases hlt : i < l.length
    · have hRw := HR.out.below HW.out
      obtain ⟨p, hp⟩ : ∃ p, l[i] = p := ⟨_, rfl⟩
      obtain ⟨g, rfl, hBg, hgl, c0, c1, c2, c3, c4, c5, c6⟩ := hRw.cells i hlt
      rw [hp] at c0 c1 c2 c3 c4 c5 c6
      have hno : okAt l i p = false → joinedP l = false := fun h => joined_no hlt (by rw [hp]; exact h)
      have HNO := hid hno
      have hyes : okAt l i p = true → ∀ j (hj : j < l.length), j < i + 1 → okAt l j l[j] = true := fun h j hj hji => by
        rcases Nat.lt_or_ge j i with h' | h'
        · exact HJ.out j hj h'
        · obtain rfl : j = i := by omega
          rw [hp]; exact h
      have HYES := hid hyes
      have hpx : p.x.length ≤ 1000000 := HXL.out p (hp ▸ List.getElem_mem hlt)
      have HRW := hid hRw
      have hwl : wrap64 ((l.length : Int) - 1) = (l.length : Int) - 1 := by unfold wrap64; omega
      clear hp hno hyes hRw
      have HBE : Hid (∀ cs k, Below w.heap.size w ((wr.alloc (.cells cs 40)).drewN k)) := hid fun cs k => (HW.out.trans ((below_alloc (Below.refl _ wr) _).mono HW.out.size)).drewN' k
      have hL : (decide (i + 1 = l.length) = true ∧ ((i : Int) == (l.length : Int) - 1) = true) ∨ (decide (i + 1 = l.length) = false ∧ ((i : Int) == (l.length : Int) - 1) = false) := by
        by_cases h : i + 1 = l.length
        · exact .inl ⟨by simpa using h, by simp; omega⟩
        · exact .inr ⟨by simpa using h, by simp; omega⟩
      have hq : p.e = true ∨ p.e = false := by cases p.e <;> simp
      have hW : (decide (1 ≤ p.x.length ∧ p.x.length ≤ 64) = false ∧ (decide ((1 : Int) ≤ (p.x.length : Int)) && decide ((p.x.length : Int) ≤ 64)) = false) ∨ (decide (1 ≤ p.x.length ∧ p.x.length ≤ 64) = true ∧ (decide ((1 : Int) ≤ (p.x.length : Int)) && decide ((p.x.length : Int) ≤ 64)) = true) := by
        by_cases h1 : 1 ≤ p.x.length ∧ p.x.length ≤ 64
        · exact .inr ⟨by simpa using h1, by rw [Bool.and_eq_true, decide_eq_true_eq, decide_eq_true_eq]; omega⟩
        · exact .inl ⟨by simpa using h1, by rw [← Bool.not_eq_true, Bool.and_eq_true, decide_eq_true_eq, decide_eq_true_eq]; omega⟩
      have hE : (decide (i = 0) = true ∧ ((i : Int) == 0) = true) ∨ (decide (i = 0) = false ∧ ((i : Int) == 0) = false) := by
        by_cases h : i = 0
        · exact .inl ⟨by simpa using h, by simp; omega⟩
        · exact .inr ⟨by simpa using h, by simp; omega⟩
      have hB2 : p.b = true ∨ p.b = false := by cases p.b <;> simp
      rcases hE with ⟨hD0, hE0⟩ | ⟨hD0, hE0⟩ <;> rcases hB2 with hb | hb
      · -- i = 0: true, Begin: true
        have e0 : ((i : Int) == 0) = true := hE0
        rw [hb] at c3
        have HB := hid hb
        have HD0 := hid hD0
        clear hE0 hb hD0
        have d01 : decide ((0 : Int) < (i : Int)) = false := by have := HD0.out; simp at this ⊢; omega
        have d02 : decide (0 < i) = false := by have := HD0.out; simp at this ⊢; omega
        have d03 : ¬ 0 < i := by simpa using d02
        rcases hL with ⟨hDL, hEL⟩ | ⟨hDL, hEL⟩ <;> rcases hq with he | he
        · -- last: true, End: true
          rw [he] at c4
          have HE := hid he
          have HDL := hid hDL
          clear he hDL
          rcases hW with ⟨hw0, hw1⟩ | ⟨hw0, hw1⟩
          · have HWD := hid hw0
            have HWI := hid hw1
            clear hw0 hw1
            go_wp2
            go_quiet ((go_at_call 43; exact within_quiet' _ _ _ _ _ HWI.out))
            go_wp2
            go_ret
            rw [HNO.out (by unfold okAt; rw [HB.out, HD0.out, HE.out, HDL.out, HWD.out]; rfl)]
            exact ⟨by first | rfl | simp, HBE.out _ _⟩
          · have HWD := hid hw0
            have HWI := hid hw1
            clear hw0 hw1
            go_wp2
            go_quiet ((go_at_call 43; exact within_quiet' _ _ _ _ _ HWI.out))
            go_wp2
            go_roundw
            case rel => exact ⟨i + 1, by omega, by go_num, hid (HYES.out (by unfold okAt; rw [HB.out, HD0.out, HE.out, HDL.out, HWD.out]; rfl)), hid (HBE.out _ _)⟩
            case measure => simp [numV]; omega
        · -- last: true, End: false
          rw [he] at c4
          have HE := hid he
          have HDL := hid hDL
          clear he hDL
          go_wp2
          go_quiet (fail)
          go_wp2
          go_ret
          rw [HNO.out (by unfold okAt; rw [HB.out, HD0.out, HE.out, HDL.out]; rfl)]
          exact ⟨by first | rfl | simp, HBE.out _ _⟩
        · -- last: false, End: true
          rw [he] at c4
          have HE := hid he
          have HDL := hid hDL
          clear he hDL
          go_wp2
          go_quiet (fail)
          go_wp2
          go_ret
          rw [HNO.out (by unfold okAt; rw [HB.out, HD0.out, HE.out, HDL.out]; rfl)]
          exact ⟨by first | rfl | simp, HBE.out _ _⟩
        · -- last: false, End: false
          rw [he] at c4
          have HE := hid he
          have HDL := hid hDL
          clear he hDL
          rcases hW with ⟨hw0, hw1⟩ | ⟨hw0, hw1⟩
          · have HWD := hid hw0
            have HWI := hid hw1
            clear hw0 hw1
            go_wp2
            go_quiet ((go_at_call 43; exact within_quiet' _ _ _ _ _ HWI.out))
            go_wp2
            go_ret
            rw [HNO.out (by unfold okAt; rw [HB.out, HD0.out, HE.out, HDL.out, HWD.out]; rfl)]
            exact ⟨by first | rfl | simp, HBE.out _ _⟩
          · have HWD := hid hw0
            have HWI := hid hw1
            clear hw0 hw1
            go_wp2
            go_quiet ((go_at_call 43; exact within_quiet' _ _ _ _ _ HWI.out))
            go_wp2
            go_roundw
            case rel => exact ⟨i + 1, by omega, by go_num, hid (HYES.out (by unfold okAt; rw [HB.out, HD0.out, HE.out, HDL.out, HWD.out]; rfl)), hid (HBE.out _ _)⟩
            case measure => simp [numV]; omega
      · -- i = 0: true, Begin: false
        have e0 : ((i : Int) == 0) = true := hE0
        rw [hb] at c3
        have HB := hid hb
        have HD0 := hid hD0
        clear hE0 hb hD0
        have d01 : decide ((0 : Int) < (i : Int)) = false := by have := HD0.out; simp at this ⊢; omega
        have d02 : decide (0 < i) = false := by have := HD0.out; simp at this ⊢; omega
        have d03 : ¬ 0 < i := by simpa using d02
        go_wp2
        go_quiet (fail)
        go_wp2
        go_ret
        rw [HNO.out (by unfold okAt; rw [HB.out, HD0.out]; rfl)]
        exact ⟨by first | rfl | simp, HBE.out _ _⟩
      · -- i = 0: false, Begin: true
        have e0 : ((i : Int) == 0) = false := hE0
        rw [hb] at c3
        have HB := hid hb
        have HD0 := hid hD0
        clear hE0 hb hD0
        have d01 : decide ((0 : Int) < (i : Int)) = true := by have := HD0.out; simp at this ⊢; omega
        have d02 : decide (0 < i) = true := by have := HD0.out; simp at this ⊢; omega
        have d03 : 0 < i := by simpa using d02
        go_wp2
        go_quiet (fail)
        go_wp2
        go_ret
        rw [HNO.out (by unfold okAt; rw [HB.out, HD0.out]; rfl)]
        exact ⟨by first | rfl | simp, HBE.out _ _⟩
      · -- i = 0: false, Begin: false
        have e0 : ((i : Int) == 0) = false := hE0
        rw [hb] at c3
        have HB := hid hb
        have HD0 := hid hD0
        clear hE0 hb hD0
        have d01 : decide ((0 : Int) < (i : Int)) = true := by have := HD0.out; simp at this ⊢; omega
        have d02 : decide (0 < i) = true := by have := HD0.out; simp at this ⊢; omega
        have d03 : 0 < i := by simpa using d02
        rcases hL with ⟨hDL, hEL⟩ | ⟨hDL, hEL⟩ <;> rcases hq with he | he
        · -- last: true, End: true
          rw [he] at c4
          have HE := hid he
          have HDL := hid hDL
          clear he hDL
          rcases hW with ⟨hw0, hw1⟩ | ⟨hw0, hw1⟩
          · have HWD := hid hw0
            have HWI := hid hw1
            clear hw0 hw1
            go_wp2
            go_quiet ((go_at_call 43; exact within_quiet' _ _ _ _ _ HWI.out))
            go_wp2
            go_ret
            rw [HNO.out (by unfold okAt; rw [HB.out, HD0.out, HE.out, HDL.out, HWD.out]; rfl)]
            exact ⟨by first | rfl | simp, HBE.out _ _⟩
          · have HWD := hid hw0
            have HWI := hid hw1
            clear hw0 hw1
            have hi1 : i - 1 < l.length := by omega
            have hr1 := HRW.out
            obtain ⟨r, hr⟩ : ∃ r, l[i - 1] = r := ⟨_, rfl⟩
            obtain ⟨g', e', _, _, k0, k1, k2, k3, k4, k5, k6⟩ := hr1.cells (i - 1) hi1
            cases e'
            rw [hr] at k0 k1 k2 k3 k4 k5 k6
            have hwi : wrap64 ((i : Int) - 1) = ((i - 1 : Nat) : Int) := by unfold wrap64; omega
            have hwi2 : IntKind.i64.wrap ((i : Int) - 1) = ((i - 1 : Nat) : Int) := by rw [IntKind.wrap_i64]; omega
            have hwl2 : IntKind.i64.wrap ((l.length : Int) - 1) = (l.length : Int) - 1 := by rw [IntKind.wrap_i64]; omega
            have hni : ((i - 1 : Nat) : Int).toNat = i - 1 := by omega
            have hbi : (0 : Int) ≤ ((i - 1 : Nat) : Int) ∧ ((i - 1 : Nat) : Int) < (l.length : Int) := by omega
            have HRR : Hid ((l[i - 1]?.map (followsP p)).getD true = followsP p r) := hid (by rw [List.getElem?_eq_getElem hi1, hr]; rfl)
            clear hr hr1
            have hx2 := Box.new wr p
            have hbw2 : Below w.heap.size w (wr.alloc (.cells #[.int .u32 p.t, .int .u16 p.s, .int .u16 p.q, .bool p.b, .bool p.e, .bool p.u, .slice p.A p.x.length p.c] 40)) := HW.out.trans ((below_alloc (Below.refl _ wr) _).mono HW.out.size)
            have hbr2 : Below wr.heap.size wr (wr.alloc (.cells #[.int .u32 p.t, .int .u16 p.s, .int .u16 p.q, .bool p.b, .bool p.e, .bool p.u, .slice p.A p.x.length p.c] 40)) := below_alloc (Below.refl _ wr) _
            have hpv : p.val = .agg #[.int .u32 p.t, .int .u16 p.s, .int .u16 p.q, .bool false, .bool true, .bool p.u, .slice p.A p.x.length p.c] := by unfold Pm.val; rw [HB.out, HE.out]
            have HPV := hid hpv
            have hrv : r.val = .agg #[.int .u32 r.t, .int .u16 r.s, .int .u16 r.q, .bool r.b, .bool r.e, .bool r.u, .slice r.A r.x.length r.c] := rfl
            have HRV := hid hrv
            rw [HB.out, HE.out] at hx2 hbw2 hbr2
            have HX2 := hid hx2
            have HBW2 := hid hbw2
            have HBR2 := hid hbr2
            clear hx2 hbw2 hbr2 hpv hrv
            cases hf : followsP p r with
            | false =>
              have HF := hid hf
              clear hf
              go_wp2
              generalize (wr.alloc (.cells #[.int .u32 p.t, .int .u16 p.s, .int .u16 p.q, .bool false, .bool true, .bool p.u, .slice p.A p.x.length p.c] 40)) = W2 at HX2 HBW2 HBR2 ⊢
              have hS : ∀ w' : World, Below W2.heap.size W2 w' → w'.cell? ⟨wr.heap.size, 0, none⟩ = some (.int .u32 p.t) ∧ w'.cell? ⟨wr.heap.size, 1, none⟩ = some (.int .u16 p.s) ∧ w'.cell? ⟨wr.heap.size, 2, none⟩ = some (.int .u16 p.q) ∧ w'.cell? ⟨wr.heap.size, 3, none⟩ = some (.bool false) ∧ w'.cell? ⟨wr.heap.size, 4, none⟩ = some (.bool true) ∧ w'.cell? ⟨wr.heap.size, 5, none⟩ = some (.bool p.u) ∧ w'.cell? ⟨wr.heap.size, 6, none⟩ = some (.slice p.A p.x.length p.c) ∧ w'.cell? ⟨g, (i - 1) * 7, none⟩ = some (.int .u32 r.t) ∧ w'.cell? ⟨g, (i - 1) * 7 + 1, none⟩ = some (.int .u16 r.s) ∧ w'.cell? ⟨g, (i - 1) * 7 + 2, none⟩ = some (.int .u16 r.q) ∧ w'.cell? ⟨g, (i - 1) * 7 + 3, none⟩ = some (.bool r.b) ∧ w'.cell? ⟨g, (i - 1) * 7 + 4, none⟩ = some (.bool r.e) ∧ w'.cell? ⟨g, (i - 1) * 7 + 5, none⟩ = some (.bool r.u) ∧ w'.cell? ⟨g, (i - 1) * 7 + 6, none⟩ = some (.slice r.A r.x.length r.c) := fun w' hw' => by
                obtain ⟨y0, y1, y2, y3, y4, y5, y6, yf⟩ := HX2.out.below hw'
                rw [HB.out] at y3
                rw [HE.out] at y4
                have hc : ∀ o v, wr.cell? ⟨g, o, none⟩ = some v → w'.cell? ⟨g, o, none⟩ = some v := fun o v h => (hw'.cell (p := ⟨g, o, none⟩) (Nat.lt_of_lt_of_le hgl HBR2.out.size)).trans ((HBR2.out.cell (p := ⟨g, o, none⟩) hgl).trans h)
                exact ⟨y0, y1, y2, y3, y4, y5, y6, hc _ _ k0, hc _ _ k1, hc _ _ k2, hc _ _ k3, hc _ _ k4, hc _ _ k5, hc _ _ k6⟩
              have HSS := hid hS
              clear hS
              go_region_held3 (fun w' => w'.cell? ⟨wr.heap.size, 0, none⟩ = some (.int .u32 p.t) ∧ w'.cell? ⟨wr.heap.size, 1, none⟩ = some (.int .u16 p.s) ∧ w'.cell? ⟨wr.heap.size, 2, none⟩ = some (.int .u16 p.q) ∧ w'.cell? ⟨wr.heap.size, 3, none⟩ = some (.bool false) ∧ w'.cell? ⟨wr.heap.size, 4, none⟩ = some (.bool true) ∧ w'.cell? ⟨wr.heap.size, 5, none⟩ = some (.bool p.u) ∧ w'.cell? ⟨wr.heap.size, 6, none⟩ = some (.slice p.A p.x.length p.c) ∧ w'.cell? ⟨g, (i - 1) * 7, none⟩ = some (.int .u32 r.t) ∧ w'.cell? ⟨g, (i - 1) * 7 + 1, none⟩ = some (.int .u16 r.s) ∧ w'.cell? ⟨g, (i - 1) * 7 + 2, none⟩ = some (.int .u16 r.q) ∧ w'.cell? ⟨g, (i - 1) * 7 + 3, none⟩ = some (.bool r.b) ∧ w'.cell? ⟨g, (i - 1) * 7 + 4, none⟩ = some (.bool r.e) ∧ w'.cell? ⟨g, (i - 1) * 7 + 5, none⟩ = some (.bool r.u) ∧ w'.cell? ⟨g, (i - 1) * 7 + 6, none⟩ = some (.slice r.A r.x.length r.c)) ((refine HSS.out _ ?_; first | exact Below.drew (Below.refl _ _) | assumption)) (first | (go_at_call 43; refine (within_calls _ _ _ _).mono ?_; rintro e w' ⟨he, rfl⟩; rw [HWI.out] at he; subst he) | (go_at_call 112; go_must (rw [← HPV.out, ← HRV.out]; refine (follows_calls p r _).mono ?_; rintro e w2 ⟨he, hb2⟩; rw [HF.out] at he; subst he; have hb2' : Below W2.heap.size W2 w2 := (Below.drew (Below.refl _ _)).trans hb2; clear hb2)))
              all_goals
                have HB2' := hid hb2'
                clear hb2'
                go_wp2
                go_ret
                rw [HNO.out (by unfold okAt; rw [HB.out, HD0.out, HE.out, HDL.out, HWD.out, HRR.out, HF.out]; rfl)]
                exact ⟨by first | rfl | simp, HBW2.out.trans (HB2'.out.mono HBW2.out.size)⟩
            | true =>
              have HF := hid hf
              clear hf
              go_wp2
              generalize (wr.alloc (.cells #[.int .u32 p.t, .int .u16 p.s, .int .u16 p.q, .bool false, .bool true, .bool p.u, .slice p.A p.x.length p.c] 40)) = W2 at HX2 HBW2 HBR2 ⊢
              have hS : ∀ w' : World, Below W2.heap.size W2 w' → w'.cell? ⟨wr.heap.size, 0, none⟩ = some (.int .u32 p.t) ∧ w'.cell? ⟨wr.heap.size, 1, none⟩ = some (.int .u16 p.s) ∧ w'.cell? ⟨wr.heap.size, 2, none⟩ = some (.int .u16 p.q) ∧ w'.cell? ⟨wr.heap.size, 3, none⟩ = some (.bool false) ∧ w'.cell? ⟨wr.heap.size, 4, none⟩ = some (.bool true) ∧ w'.cell? ⟨wr.heap.size, 5, none⟩ = some (.bool p.u) ∧ w'.cell? ⟨wr.heap.size, 6, none⟩ = some (.slice p.A p.x.length p.c) ∧ w'.cell? ⟨g, (i - 1) * 7, none⟩ = some (.int .u32 r.t) ∧ w'.cell? ⟨g, (i - 1) * 7 + 1, none⟩ = some (.int .u16 r.s) ∧ w'.cell? ⟨g, (i - 1) * 7 + 2, none⟩ = some (.int .u16 r.q) ∧ w'.cell? ⟨g, (i - 1) * 7 + 3, none⟩ = some (.bool r.b) ∧ w'.cell? ⟨g, (i - 1) * 7 + 4, none⟩ = some (.bool r.e) ∧ w'.cell? ⟨g, (i - 1) * 7 + 5, none⟩ = some (.bool r.u) ∧ w'.cell? ⟨g, (i - 1) * 7 + 6, none⟩ = some (.slice r.A r.x.length r.c) := fun w' hw' => by
                obtain ⟨y0, y1, y2, y3, y4, y5, y6, yf⟩ := HX2.out.below hw'
                rw [HB.out] at y3
                rw [HE.out] at y4
                have hc : ∀ o v, wr.cell? ⟨g, o, none⟩ = some v → w'.cell? ⟨g, o, none⟩ = some v := fun o v h => (hw'.cell (p := ⟨g, o, none⟩) (Nat.lt_of_lt_of_le hgl HBR2.out.size)).trans ((HBR2.out.cell (p := ⟨g, o, none⟩) hgl).trans h)
                exact ⟨y0, y1, y2, y3, y4, y5, y6, hc _ _ k0, hc _ _ k1, hc _ _ k2, hc _ _ k3, hc _ _ k4, hc _ _ k5, hc _ _ k6⟩
              have HSS := hid hS
              clear hS
              go_region_held3 (fun w' => w'.cell? ⟨wr.heap.size, 0, none⟩ = some (.int .u32 p.t) ∧ w'.cell? ⟨wr.heap.size, 1, none⟩ = some (.int .u16 p.s) ∧ w'.cell? ⟨wr.heap.size, 2, none⟩ = some (.int .u16 p.q) ∧ w'.cell? ⟨wr.heap.size, 3, none⟩ = some (.bool false) ∧ w'.cell? ⟨wr.heap.size, 4, none⟩ = some (.bool true) ∧ w'.cell? ⟨wr.heap.size, 5, none⟩ = some (.bool p.u) ∧ w'.cell? ⟨wr.heap.size, 6, none⟩ = some (.slice p.A p.x.length p.c) ∧ w'.cell? ⟨g, (i - 1) * 7, none⟩ = some (.int .u32 r.t) ∧ w'.cell? ⟨g, (i - 1) * 7 + 1, none⟩ = some (.int .u16 r.s) ∧ w'.cell? ⟨g, (i - 1) * 7 + 2, none⟩ = some (.int .u16 r.q) ∧ w'.cell? ⟨g, (i - 1) * 7 + 3, none⟩ = some (.bool r.b) ∧ w'.cell? ⟨g, (i - 1) * 7 + 4, none⟩ = some (.bool r.e) ∧ w'.cell? ⟨g, (i - 1) * 7 + 5, none⟩ = some (.bool r.u) ∧ w'.cell? ⟨g, (i - 1) * 7 + 6, none⟩ = some (.slice r.A r.x.length r.c)) ((refine HSS.out _ ?_; first | exact Below.drew (Below.refl _ _) | assumption)) (first | (go_at_call 43; refine (within_calls _ _ _ _).mono ?_; rintro e w' ⟨he, rfl⟩; rw [HWI.out] at he; subst he) | (go_at_call 112; go_must (rw [← HPV.out, ← HRV.out]; refine (follows_calls p r _).mono ?_; rintro e w2 ⟨he, hb2⟩; rw [HF.out] at he; subst he; have hb2' : Below W2.heap.size W2 w2 := (Below.drew (Below.refl _ _)).trans hb2; clear hb2)))
              all_goals
                have HB2' := hid hb2'
                clear hb2'
                go_wp2
                go_roundw
                case rel => exact ⟨i + 1, by omega, by go_num, hid (HYES.out (by unfold okAt; rw [HB.out, HD0.out, HE.out, HDL.out, HWD.out, HRR.out, HF.out]; rfl)), hid (HBW2.out.trans (HB2'.out.mono HBW2.out.size))⟩
                case measure => simp [numV]; omega
        · -- last: true, End: false
          rw [he] at c4
          have HE := hid he
          have HDL := hid hDL
          clear he hDL
          go_wp2
          go_quiet (fail)
          go_wp2
          go_ret
          rw [HNO.out (by unfold okAt; rw [HB.out, HD0.out, HE.out, HDL.out]; rfl)]
          exact ⟨by first | rfl | simp, HBE.out _ _⟩
        · -- last: false, End: true
          rw [he] at c4
          have HE := hid he
          have HDL := hid hDL
          clear he hDL
          go_wp2
          go_quiet (fail)
          go_wp2
          go_ret
          rw [HNO.out (by unfold okAt; rw [HB.out, HD0.out, HE.out, HDL.out]; rfl)]
          exact ⟨by first | rfl | simp, HBE.out _ _⟩
        · -- last: false, End: false
          rw [he] at c4
          have HE := hid he
          have HDL := hid hDL
          clear he hDL
          rcases hW with ⟨hw0, hw1⟩ | ⟨hw0, hw1⟩
          · have HWD := hid hw0
            have HWI := hid hw1
            clear hw0 hw1
            go_wp2
            go_quiet ((go_at_call 43; exact within_quiet' _ _ _ _ _ HWI.out))
            go_wp2
            go_ret
            rw [HNO.out (by unfold okAt; rw [HB.out, HD0.out, HE.out, HDL.out, HWD.out]; rfl)]
            exact ⟨by first | rfl | simp, HBE.out _ _⟩
          · have HWD := hid hw0
            have HWI := hid hw1
            clear hw0 hw1
            have hi1 : i - 1 < l.length := by omega
            have hr1 := HRW.out
            obtain ⟨r, hr⟩ : ∃ r, l[i - 1] = r := ⟨_, rfl⟩
            obtain ⟨g', e', _, _, k0, k1, k2, k3, k4, k5, k6⟩ := hr1.cells (i - 1) hi1
            cases e'
            rw [hr] at k0 k1 k2 k3 k4 k5 k6
            have hwi : wrap64 ((i : Int) - 1) = ((i - 1 : Nat) : Int) := by unfold wrap64; omega
            have hwi2 : IntKind.i64.wrap ((i : Int) - 1) = ((i - 1 : Nat) : Int) := by rw [IntKind.wrap_i64]; omega
            have hwl2 : IntKind.i64.wrap ((l.length : Int) - 1) = (l.length : Int) - 1 := by rw [IntKind.wrap_i64]; omega
            have hni : ((i - 1 : Nat) : Int).toNat = i - 1 := by omega
            have hbi : (0 : Int) ≤ ((i - 1 : Nat) : Int) ∧ ((i - 1 : Nat) : Int) < (l.length : Int) := by omega
            have HRR : Hid ((l[i - 1]?.map (followsP p)).getD true = followsP p r) := hid (by rw [List.getElem?_eq_getElem hi1, hr]; rfl)
            clear hr hr1
            have hx2 := Box.new wr p
            have hbw2 : Below w.heap.size w (wr.alloc (.cells #[.int .u32 p.t, .int .u16 p.s, .int .u16 p.q, .bool p.b, .bool p.e, .bool p.u, .slice p.A p.x.length p.c] 40)) := HW.out.trans ((below_alloc (Below.refl _ wr) _).mono HW.out.size)
            have hbr2 : Below wr.heap.size wr (wr.alloc (.cells #[.int .u32 p.t, .int .u16 p.s, .int .u16 p.q, .bool p.b, .bool p.e, .bool p.u, .slice p.A p.x.length p.c] 40)) := below_alloc (Below.refl _ wr) _
            have hpv : p.val = .agg #[.int .u32 p.t, .int .u16 p.s, .int .u16 p.q, .bool false, .bool false, .bool p.u, .slice p.A p.x.length p.c] := by unfold Pm.val; rw [HB.out, HE.out]
            have HPV := hid hpv
            have hrv : r.val = .agg #[.int .u32 r.t, .int .u16 r.s, .int .u16 r.q, .bool r.b, .bool r.e, .bool r.u, .slice r.A r.x.length r.c] := rfl
            have HRV := hid hrv
            rw [HB.out, HE.out] at hx2 hbw2 hbr2
            have HX2 := hid hx2
            have HBW2 := hid hbw2
            have HBR2 := hid hbr2
            clear hx2 hbw2 hbr2 hpv hrv
            cases hf : followsP p r with
            | false =>
              have HF := hid hf
              clear hf
              go_wp2
              generalize (wr.alloc (.cells #[.int .u32 p.t, .int .u16 p.s, .int .u16 p.q, .bool false, .bool false, .bool p.u, .slice p.A p.x.length p.c] 40)) = W2 at HX2 HBW2 HBR2 ⊢
              have hS : ∀ w' : World, Below W2.heap.size W2 w' → w'.cell? ⟨wr.heap.size, 0, none⟩ = some (.int .u32 p.t) ∧ w'.cell? ⟨wr.heap.size, 1, none⟩ = some (.int .u16 p.s) ∧ w'.cell? ⟨wr.heap.size, 2, none⟩ = some (.int .u16 p.q) ∧ w'.cell? ⟨wr.heap.size, 3, none⟩ = some (.bool false) ∧ w'.cell? ⟨wr.heap.size, 4, none⟩ = some (.bool false) ∧ w'.cell? ⟨wr.heap.size, 5, none⟩ = some (.bool p.u) ∧ w'.cell? ⟨wr.heap.size, 6, none⟩ = some (.slice p.A p.x.length p.c) ∧ w'.cell? ⟨g, (i - 1) * 7, none⟩ = some (.int .u32 r.t) ∧ w'.cell? ⟨g, (i - 1) * 7 + 1, none⟩ = some (.int .u16 r.s) ∧ w'.cell? ⟨g, (i - 1) * 7 + 2, none⟩ = some (.int .u16 r.q) ∧ w'.cell? ⟨g, (i - 1) * 7 + 3, none⟩ = some (.bool r.b) ∧ w'.cell? ⟨g, (i - 1) * 7 + 4, none⟩ = some (.bool r.e) ∧ w'.cell? ⟨g, (i - 1) * 7 + 5, none⟩ = some (.bool r.u) ∧ w'.cell? ⟨g, (i - 1) * 7 + 6, none⟩ = some (.slice r.A r.x.length r.c) := fun w' hw' => by
                obtain ⟨y0, y1, y2, y3, y4, y5, y6, yf⟩ := HX2.out.below hw'
                rw [HB.out] at y3
                rw [HE.out] at y4
                have hc : ∀ o v, wr.cell? ⟨g, o, none⟩ = some v → w'.cell? ⟨g, o, none⟩ = some v := fun o v h => (hw'.cell (p := ⟨g, o, none⟩) (Nat.lt_of_lt_of_le hgl HBR2.out.size)).trans ((HBR2.out.cell (p := ⟨g, o, none⟩) hgl).trans h)
                exact ⟨y0, y1, y2, y3, y4, y5, y6, hc _ _ k0, hc _ _ k1, hc _ _ k2, hc _ _ k3, hc _ _ k4, hc _ _ k5, hc _ _ k6⟩
              have HSS := hid hS
              clear hS
              go_region_held3 (fun w' => w'.cell? ⟨wr.heap.size, 0, none⟩ = some (.int .u32 p.t) ∧ w'.cell? ⟨wr.heap.size, 1, none⟩ = some (.int .u16 p.s) ∧ w'.cell? ⟨wr.heap.size, 2, none⟩ = some (.int .u16 p.q) ∧ w'.cell? ⟨wr.heap.size, 3, none⟩ = some (.bool false) ∧ w'.cell? ⟨wr.heap.size, 4, none⟩ = some (.bool false) ∧ w'.cell? ⟨wr.heap.size, 5, none⟩ = some (.bool p.u) ∧ w'.cell? ⟨wr.heap.size, 6, none⟩ = some (.slice p.A p.x.length p.c) ∧ w'.cell? ⟨g, (i - 1) * 7, none⟩ = some (.int .u32 r.t) ∧ w'.cell? ⟨g, (i - 1) * 7 + 1, none⟩ = some (.int .u16 r.s) ∧ w'.cell? ⟨g, (i - 1) * 7 + 2, none⟩ = some (.int .u16 r.q) ∧ w'.cell? ⟨g, (i - 1) * 7 + 3, none⟩ = some (.bool r.b) ∧ w'.cell? ⟨g, (i - 1) * 7 + 4, none⟩ = some (.bool r.e) ∧ w'.cell? ⟨g, (i - 1) * 7 + 5, none⟩ = some (.bool r.u) ∧ w'.cell? ⟨g, (i - 1) * 7 + 6, none⟩ = some (.slice r.A r.x.length r.c)) ((refine HSS.out _ ?_; first | exact Below.drew (Below.refl _ _) | assumption)) (first | (go_at_call 43; refine (within_calls _ _ _ _).mono ?_; rintro e w' ⟨he, rfl⟩; rw [HWI.out] at he; subst he) | (go_at_call 112; go_must (rw [← HPV.out, ← HRV.out]; refine (follows_calls p r _).mono ?_; rintro e w2 ⟨he, hb2⟩; rw [HF.out] at he; subst he; have hb2' : Below W2.heap.size W2 w2 := (Below.drew (Below.refl _ _)).trans hb2; clear hb2)))
              all_goals
                have HB2' := hid hb2'
                clear hb2'
                go_wp2
                go_ret
                rw [HNO.out (by unfold okAt; rw [HB.out, HD0.out, HE.out, HDL.out, HWD.out, HRR.out, HF.out]; rfl)]
                exact ⟨by first | rfl | simp, HBW2.out.trans (HB2'.out.mono HBW2.out.size)⟩
            | true =>
              have HF := hid hf
              clear hf
              go_wp2
              generalize (wr.alloc (.cells #[.int .u32 p.t, .int .u16 p.s, .int .u16 p.q, .bool false, .bool false, .bool p.u, .slice p.A p.x.length p.c] 40)) = W2 at HX2 HBW2 HBR2 ⊢
              have hS : ∀ w' : World, Below W2.heap.size W2 w' → w'.cell? ⟨wr.heap.size, 0, none⟩ = some (.int .u32 p.t) ∧ w'.cell? ⟨wr.heap.size, 1, none⟩ = some (.int .u16 p.s) ∧ w'.cell? ⟨wr.heap.size, 2, none⟩ = some (.int .u16 p.q) ∧ w'.cell? ⟨wr.heap.size, 3, none⟩ = some (.bool false) ∧ w'.cell? ⟨wr.heap.size, 4, none⟩ = some (.bool false) ∧ w'.cell? ⟨wr.heap.size, 5, none⟩ = some (.bool p.u) ∧ w'.cell? ⟨wr.heap.size, 6, none⟩ = some (.slice p.A p.x.length p.c) ∧ w'.cell? ⟨g, (i - 1) * 7, none⟩ = some (.int .u32 r.t) ∧ w'.cell? ⟨g, (i - 1) * 7 + 1, none⟩ = some (.int .u16 r.s) ∧ w'.cell? ⟨g, (i - 1) * 7 + 2, none⟩ = some (.int .u16 r.q) ∧ w'.cell? ⟨g, (i - 1) * 7 + 3, none⟩ = some (.bool r.b) ∧ w'.cell? ⟨g, (i - 1) * 7 + 4, none⟩ = some (.bool r.e) ∧ w'.cell? ⟨g, (i - 1) * 7 + 5, none⟩ = some (.bool r.u) ∧ w'.cell? ⟨g, (i - 1) * 7 + 6, none⟩ = some (.slice r.A r.x.length r.c) := fun w' hw' => by
                obtain ⟨y0, y1, y2, y3, y4, y5, y6, yf⟩ := HX2.out.below hw'
                rw [HB.out] at y3
                rw [HE.out] at y4
                have hc : ∀ o v, wr.cell? ⟨g, o, none⟩ = some v → w'.cell? ⟨g, o, none⟩ = some v := fun o v h => (hw'.cell (p := ⟨g, o, none⟩) (Nat.lt_of_lt_of_le hgl HBR2.out.size)).trans ((HBR2.out.cell (p := ⟨g, o, none⟩) hgl).trans h)
                exact ⟨y0, y1, y2, y3, y4, y5, y6, hc _ _ k0, hc _ _ k1, hc _ _ k2, hc _ _ k3, hc _ _ k4, hc _ _ k5, hc _ _ k6⟩
              have HSS := hid hS
              clear hS
              go_region_held3 (fun w' => w'.cell? ⟨wr.heap.size, 0, none⟩ = some (.int .u32 p.t) ∧ w'.cell? ⟨wr.heap.size, 1, none⟩ = some (.int .u16 p.s) ∧ w'.cell? ⟨wr.heap.size, 2, none⟩ = some (.int .u16 p.q) ∧ w'.cell? ⟨wr.heap.size, 3, none⟩ = some (.bool false) ∧ w'.cell? ⟨wr.heap.size, 4, none⟩ = some (.bool false) ∧ w'.cell? ⟨wr.heap.size, 5, none⟩ = some (.bool p.u) ∧ w'.cell? ⟨wr.heap.size, 6, none⟩ = some (.slice p.A p.x.length p.c) ∧ w'.cell? ⟨g, (i - 1) * 7, none⟩ = some (.int .u32 r.t) ∧ w'.cell? ⟨g, (i - 1) * 7 + 1, none⟩ = some (.int .u16 r.s) ∧ w'.cell? ⟨g, (i - 1) * 7 + 2, none⟩ = some (.int .u16 r.q) ∧ w'.cell? ⟨g, (i - 1) * 7 + 3, none⟩ = some (.bool r.b) ∧ w'.cell? ⟨g, (i - 1) * 7 + 4, none⟩ = some (.bool r.e) ∧ w'.cell? ⟨g, (i - 1) * 7 + 5, none⟩ = some (.bool r.u) ∧ w'.cell? ⟨g, (i - 1) * 7 + 6, none⟩ = some (.slice r.A r.x.length r.c)) ((refine HSS.out _ ?_; first | exact Below.drew (Below.refl _ _) | assumption)) (first | (go_at_call 43; refine (within_calls _ _ _ _).mono ?_; rintro e w' ⟨he, rfl⟩; rw [HWI.out] at he; subst he) | (go_at_call 112; go_must (rw [← HPV.out, ← HRV.out]; refine (follows_calls p r _).mono ?_; rintro e w2 ⟨he, hb2⟩; rw [HF.out] at he; subst he; have hb2' : Below W2.heap.size W2 w2 := (Below.drew (Below.refl _ _)).trans hb2; clear hb2)))
              all_goals
                have HB2' := hid hb2'
                clear hb2'
                go_wp2
                go_roundw
                case rel => exact ⟨i + 1, by omega, by go_num, hid (HYES.out (by unfold okAt; rw [HB.out, HD0.out, HE.out, HDL.out, HWD.out, HRR.out, HF.out]; rfl)), hid (HBW2.out.trans (HB2'.out.mono HBW2.out.size))⟩
                case measure => simp [numV]; omega
    · obtain rfl : i = l.length := by omega
      go_wp2
      go_ret
      rw [joined_yes (fun j hj => HJ.out j hj hj)]
      refine ⟨?_, HW.out⟩
      simp
end Go.Proofs.Ythoammfpjheodaa.Rz
