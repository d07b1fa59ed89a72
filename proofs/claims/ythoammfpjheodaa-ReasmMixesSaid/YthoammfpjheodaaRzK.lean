import Derived.Test.YthoammfpjheodaaRzJ
namespace Go.Proofs.Ythoammfpjheodaa.Rz
open Go.ChangeShapes Go.WideShapes Go.ChangeAt Go.RowKit Go.Shelf MK
open Base (hid cell_new1 cell_old1 froz_new1 froz_old1)
attribute [local go_sem] Oper.semAt_some
set_option linter.unusedVariables false
set_option linter.unusedSimpArgs false
set_option maxRecDepth 100000
/-- A message's value. -/
def msgV (s : Int) (u : Bool) (A : Option Addr) (n c : Nat) : Value := .agg #[.int .i64 s, .bool u, .slice A n c]
def goodN (s : Int) (n : Nat) : Bool := decide (0 ≤ s ∧ s ≤ 7) && decide (1 ≤ n ∧ n ≤ 400)
theorem within_calls' (n a b : Int) (w : World) {r : Bool} (h : (decide (a ≤ n) && decide (n ≤ b)) = r) : Calls Try.prog 43 #[.int .i64 n, .int .i64 a, .int .i64 b] w fun e w' => e = .returned (.bool r) ∧ w = w' := by
  subst h
  exact within_calls n a b w
set_option maxHeartbeats 1000000 in
theorem good_calls (s : Int) (u : Bool) (A : Option Addr) (n c : Nat) (w : World) : Calls Try.prog 42 #[msgV s u A n c] w fun e w' => e = .returned (.bool (goodN s n)) ∧ Below w.heap.size w w' := by
  unfold msgV
  have h1 : (decide ((0 : Int) ≤ s) && decide (s ≤ 7)) = decide (0 ≤ s ∧ s ≤ 7) := by rw [Bool.decide_and]
  have h2 : (decide ((1 : Int) ≤ (n : Int)) && decide ((n : Int) ≤ 400)) = decide (1 ≤ n ∧ n ≤ 400) := by
    by_cases h : 1 ≤ n ∧ n ≤ 400
    · rw [decide_eq_true h, Bool.and_eq_true, decide_eq_true_eq, decide_eq_true_eq]; omega
    · rw [decide_eq_false h, ← Bool.not_eq_true, Bool.and_eq_true, decide_eq_true_eq, decide_eq_true_eq]; omega
  obtain ⟨g1, hg1⟩ : ∃ g1, decide (0 ≤ s ∧ s ≤ 7) = g1 := ⟨_, rfl⟩
  obtain ⟨g2, hg2⟩ : ∃ g2, decide (1 ≤ n ∧ n ≤ 400) = g2 := ⟨_, rfl⟩
  have hg : goodN s n = (g1 && g2) := by unfold goodN; rw [hg1, hg2]
  rw [hg1] at h1
  rw [hg2] at h2
  have HG := hid hg
  have H1 := hid h1
  have H2 := hid h2
  clear h1 h2 hg hg1 hg2
  have HB : Hid (∀ o, Below w.heap.size w (w.alloc o)) := hid fun o => below_alloc (Below.refl _ _) o
  cases g1 with
  | false =>
    go_enter Try.func42, Try.ntmps42
    go_wp2_with (go_at_call 43; refine (within_calls' _ _ _ _ H1.out).mono ?_; rintro e w' ⟨rfl, rfl⟩)
    go_ret
    exact ⟨by rw [HG.out]; rfl, HB.out _⟩
  | true =>
    go_enter Try.func42, Try.ntmps42
    go_wp2_with (fail)
    refine (within_calls' s 0 7 _ H1.out).mono ?_
    rintro e w' ⟨rfl, rfl⟩
    go_wp2_with (fail)
    refine (within_calls' (n : Int) 1 400 _ H2.out).mono ?_
    rintro e w' ⟨rfl, rfl⟩
    go_wp2_with (fail)
    go_ret
    exact ⟨by rw [HG.out]; simp, HB.out _⟩
def textP (l : List Pm) : List Int := l.flatMap (·.x)
/-- The message of pieces. -/
def wholeP (l : List Pm) : Option (Int × Bool × List Int) := match l with
  | [] => none
  | p :: _ => if joinedP l = true ∧ goodN p.s (textP l).length = true then some (p.s, p.u, textP l) else none
theorem results23 {fn : Func} (h : fn.results = #[.cell 2 34, .tmp 3]) {tmps : Array Value} {b : Nat} {v0 v1 v2 v : Value} {w : World} (ht : tmps[2]? = some (.pointer (some ⟨b, 0, none⟩))) (ht3 : tmps[3]? = some v)
    (c0 : w.cell? ⟨b, 0, none⟩ = some v0) (c1 : w.cell? ⟨b, 1, none⟩ = some v1) (c2 : w.cell? ⟨b, 2, none⟩ = some v2) :
    (results fn tmps).run Try.prog w = .ok (.tuple #[.agg #[v0, v1, v2], v]) w := by
  simp only [results, h]
  simp [go_sem, c0, c1, c2, Sem.run_bind, Array.getD_eq_getD_getElem?, ht, ht3]
theorem joined_ok {l : List Pm} (h : joinedP l = true) : 0 < l.length ∧ ∀ p ∈ l, p.x.length ≤ 64 := by
  unfold joinedP at h
  rw [Bool.and_eq_true, decide_eq_true_eq, List.all_eq_true] at h
  refine ⟨h.1, fun p hp => ?_⟩
  obtain ⟨i, hi, rfl⟩ := List.mem_iff_getElem.1 hp
  have := h.2 i (List.mem_range.2 hi)
  rw [List.getElem?_eq_getElem hi] at this
  simp only [Option.map_some, Option.getD_some] at this
  unfold okAt at this
  rw [Bool.and_eq_true, Bool.and_eq_true, Bool.and_eq_true, decide_eq_true_eq] at this
  exact this.2.2.1.2
theorem text_take {l : List Pm} (h : ∀ p ∈ l, p.x.length ≤ 64) : ∀ i, i ≤ l.length → (textP (l.take i)).length ≤ 64 * i
  | 0, _ => by simp [textP]
  | i + 1, hi => by
    have ih := text_take h i (by omega)
    have hlt : i < l.length := by omega
    rw [List.take_succ_eq_append_getElem hlt]
    unfold textP at ih ⊢
    rw [List.flatMap_append, List.length_append]
    have := h _ (List.getElem_mem hlt)
    simp only [List.flatMap_cons, List.flatMap_nil, List.append_nil]
    omega
theorem wholeP_eq {l : List Pm} (hj : joinedP l = true) (hl : 0 < l.length) : wholeP l = if goodN l[0].s (textP l).length = true then some (l[0].s, l[0].u, textP l) else none := by
  cases l with
  | nil => simp at hl
  | cons p l =>
    unfold wholeP
    simp only [hj, true_and, List.getElem_cons_zero]
/-- A message in a box. -/
structure MB (w : World) (b : Nat) (s : Int) (u : Bool) (A : Option Addr) (n c : Nat) : Prop where
  c0 : w.cell? ⟨b, 0, none⟩ = some (.int .i64 s)
  c1 : w.cell? ⟨b, 1, none⟩ = some (.bool u)
  c2 : w.cell? ⟨b, 2, none⟩ = some (.slice A n c)
  fr : ∀ i, w.frozen? ⟨b, i, none⟩ = false
theorem MB.lt {w : World} {b : Nat} {s : Int} {u : Bool} {A : Option Addr} {n c : Nat} (h : MB w b s u A n c) : b < w.heap.size := lt_of_cell h.c0
theorem MB.block {w w' : World} {b : Nat} {s : Int} {u : Bool} {A : Option Addr} {n c : Nat} (h : MB w b s u A n c) (hb : w'.heap[b]? = w.heap[b]?) : MB w' b s u A n c :=
  ⟨(World.cell?_of_block (a := ⟨b, 0, none⟩) hb).trans h.c0, (World.cell?_of_block (a := ⟨b, 1, none⟩) hb).trans h.c1, (World.cell?_of_block (a := ⟨b, 2, none⟩) hb).trans h.c2, fun i => (World.frozen?_of_block (a := ⟨b, i, none⟩) hb).trans (h.fr i)⟩
theorem MB.below {w w' : World} {b : Nat} {s : Int} {u : Bool} {A : Option Addr} {n c : Nat} (h : MB w b s u A n c) (hb : Below w.heap.size w w') : MB w' b s u A n c := h.block (hb.block b h.lt)
theorem MB.new (w : World) (s : Int) (u : Bool) (A : Option Addr) (n c : Nat) : MB (w.alloc (.cells #[.int .i64 s, .bool u, .slice A n c] 34)) w.heap.size s u A n c := by
  have h := box_new w (.cells #[.int .i64 s, .bool u, .slice A n c] 34) rfl
  exact ⟨(box_at h 0).1, (box_at h 1).1, (box_at h 2).1, fun i => (box_at h i).2⟩
theorem MB.set {w : World} {b : Nat} {s : Int} {u : Bool} {A A' : Option Addr} {n c n' c' : Nat} (h : MB w b s u A n c) : MB (w.setCell ⟨b, 2, none⟩ (.slice A' n' c')) b s u A' n' c' :=
  ⟨(World.cell?_setCell_other _ _ _ _ (by simp)).trans h.c0, (World.cell?_setCell_other _ _ _ _ (by simp)).trans h.c1, World.cell?_setCell_same _ _ _ h.c2, fun i => by have := h.fr i; simpa using this⟩
/-- What Whole answers. -/
def WholePost (w : World) (l : List Pm) (e : Ending) (w' : World) : Prop := match wholeP l with
  | none => e = .returned (.tuple #[msgV 0 false none 0 0, errV 2])
  | some (s, u, x) => ∃ A' c', e = .returned (.tuple #[msgV s u A' x.length c', errV 0]) ∧ w'.ownsRow w.heap.size 5 1 (.slice A' x.length c') x.length (x.map (.int .u8))
set_option maxHeartbeats 4000000 in
theorem whole_calls (w : World) (B : Nat) (A : Option Addr) (c : Nat) (l : List Pm) (h : Row w B A c l) (hl : l.length ≤ 10000) (hk : ∀ p ∈ l, Ok w p) (hu : ∀ p ∈ l, 0 ≤ p.s ∧ p.s ≤ 65535) :
    Calls Try.prog 52 #[.slice A l.length c] w fun e w' => Below w.heap.size w w' ∧ WholePost w l e w' := by
  have HR := hid h
  have HK := hid hk
  have HUU := hid hu
  clear h hk hu
  have HB0 : Hid (∀ o, Below w.heap.size w (w.alloc o)) := hid fun o => below_alloc (Below.refl _ _) o
  cases hj : joinedP l with
  | false =>
    have hw : wholeP l = none := by
      unfold wholeP
      split
      · rfl
      · rw [if_neg]
        rintro ⟨h1, _⟩
        rw [hj] at h1
        cases h1
    have HW := hid hw
    have HJ := hid hj
    clear hw hj
    unfold WholePost
    rw [HW.out]
    go_enter Try.func52, Try.ntmps52
    go_wp2_with (go_at_call 92; go_must (refine (joined_calls _ B A c l (HR.out.below (HB0.out _ |>.mono (Nat.le_refl _))) (by omega) (fun p hp => (HK.out p hp).l)).mono ?_; rintro e w1 ⟨he, hb1⟩; rw [HJ.out] at he; subst he; have HB1 := hid hb1; obtain ⟨a0, a0'⟩ := box_at ((hb1.block w.heap.size (by simp)).trans (box_new w _ rfl)) 0; obtain ⟨a1, a1'⟩ := box_at ((hb1.block w.heap.size (by simp)).trans (box_new w _ rfl)) 1; obtain ⟨a2, a2'⟩ := box_at ((hb1.block w.heap.size (by simp)).trans (box_new w _ rfl)) 2; clear hb1))
    have g1 := setCells_grown w.heap.size [.int .i64 0, .bool false, .slice none 0 0] 0 w1
    refine bodyPost_ret (results23 rfl rfl rfl (v0 := .int .i64 0) (v1 := .bool false) (v2 := .slice none 0 0) ?_ ?_ ?_) rfl ⟨?_, rfl⟩
    · rw [World.cell?_setCell_other _ _ _ _ (by simp), World.cell?_setCell_other _ _ _ _ (by simp)]
      exact World.cell?_setCell_same _ _ _ a0
    · rw [World.cell?_setCell_other _ _ _ _ (by simp)]
      refine World.cell?_setCell_same _ _ _ (u := .bool false) ?_
      rw [World.cell?_setCell_other _ _ _ _ (by simp)]
      exact a1
    · refine World.cell?_setCell_same _ _ _ (u := .slice none 0 0) ?_
      rw [World.cell?_setCell_other _ _ _ _ (by simp), World.cell?_setCell_other _ _ _ _ (by simp)]
      exact a2
    · exact ((HB0.out _).trans (HB1.out.mono (by simp))).grown g1 (by have := HB1.out.size; simp at this; omega) (fun k e => by have := Option.some.inj e; omega)
  | true =>
    obtain ⟨hl0, hl64⟩ := joined_ok hj
    have hwe := wholeP_eq hj hl0
    obtain ⟨p0, hp0⟩ : ∃ p0, l[0] = p0 := ⟨_, rfl⟩
    rw [hp0] at hwe
    have hs0 := HUU.out p0 (hp0 ▸ List.getElem_mem hl0)
    have hws : IntKind.i64.wrap p0.s = p0.s := by rw [IntKind.wrap_i64]; omega
    have HWE := hid hwe
    have HJ := hid hj
    have HL := hid hl64
    have HP0 := hid hp0
    clear hwe hj hl64 hs0 hp0
    go_enter Try.func52, Try.ntmps52
    go_wp2_with (go_at_call 92; go_must (refine (joined_calls _ B A c l (HR.out.below (HB0.out _ |>.mono (Nat.le_refl _))) (by omega) (fun p hp => (HK.out p hp).l)).mono ?_; rintro e w1 ⟨he, hb1⟩; rw [HJ.out] at he; subst he; have HB1 := hid hb1; have HA1 : Hid (MB w1 w.heap.size 0 false none 0 0) := hid ((MB.new w 0 false none 0 0).below hb1); clear hb1))
    have HB01 : Hid (Below w.heap.size w w1) := hid ((HB0.out _).trans (HB1.out.mono (by simp)))
    have hs01 := HB1.out.size
    simp only [World.size_alloc] at hs01
    have HR1 := hid (HR.out.below HB01.out)
    obtain ⟨g, rfl, hBg, hgl, k0, k1, k2, k3, k4, k5, k6⟩ := HR1.out.cells 0 hl0
    rw [HP0.out] at k1 k5
    have k1' : w1.cell? ⟨g, 1, none⟩ = some (.int .u16 p0.s) := by simpa using k1
    have k5' : w1.cell? ⟨g, 5, none⟩ = some (.bool p0.u) := by simpa using k5
    have HSS : Hid (∀ w', Below w1.heap.size w1 w' → w'.cell? ⟨g, 1, none⟩ = some (.int .u16 p0.s) ∧ w'.cell? ⟨g, 5, none⟩ = some (.bool p0.u)) := hid fun w' hw' => ⟨(hw'.cell (p := ⟨g, 1, none⟩) hgl).trans k1', (hw'.cell (p := ⟨g, 5, none⟩) hgl).trans k5'⟩
    clear k0 k1 k2 k3 k4 k5 k6 k1' k5'
    go_region_held3 (fun w' => w'.cell? ⟨g, 1, none⟩ = some (.int .u16 p0.s) ∧ w'.cell? ⟨g, 5, none⟩ = some (.bool p0.u)) ((refine HSS.out _ ?_; first | assumption | exact Below.drew (Below.refl _ _) | exact below_alloc (Below.drew (Below.refl _ _)) _ | exact Below.drew (below_alloc (Below.refl _ _) _))) (fail)
    have hm1 : MB (w1.alloc (.cells #[.int .i64 p0.s, .bool p0.u, .slice none 0 0] 34)).drew w1.heap.size p0.s p0.u none 0 0 := (MB.new w1 p0.s p0.u none 0 0).below (Below.drew (Below.refl _ _))
    have hbx : Below w1.heap.size w1 (w1.alloc (.cells #[.int .i64 p0.s, .bool p0.u, .slice none 0 0] 34)).drew := Below.drew (below_alloc (Below.refl _ _) _)
    generalize (w1.alloc (.cells #[.int .i64 p0.s, .bool p0.u, .slice none 0 0] 34)).drew = X at hm1 hbx ⊢
    have HM1 := hid hm1
    have HBX := hid hbx
    clear hm1 hbx HSS
    go_wp2
    go_loopw [24] (fun v24 wr => ∃ (i : Nat) (A5 : Option Addr) (e5 : Nat), i ≤ l.length ∧ v24 = .int .i64 i ∧ Hid (MB wr w1.heap.size p0.s p0.u A5 (textP (l.take i)).length e5) ∧ Hid (wr.ownsRow (w1.heap.size + 1) 5 1 (.slice A5 (textP (l.take i)).length e5) (textP (l.take i)).length ((textP (l.take i)).map (.int .u8))) ∧ Hid (Below w1.heap.size w1 wr)) (fun v24 _ => l.length - numV v24)
    case atStart => exact ⟨0, none, 0, Nat.zero_le _, rfl, HM1, hid (World.ownsRow_nil _ _ _ _), HBX⟩
    case round =>
      obtain ⟨i, A5, e5, hil, rfl, HM, HO, HW⟩ := hrel
      by_cases hlt : i < l.length
      · have hRw := HR1.out.below HW.out
        obtain ⟨p, hp⟩ : ∃ p, l[i] = p := ⟨_, rfl⟩
        obtain ⟨g', e', _, _, c0, c1, c2, c3, c4, c5, c6⟩ := hRw.cells i hlt
        cases e'
        rw [hp] at c0 c1 c2 c3 c4 c5 c6
        have hpm : p ∈ l := hp ▸ List.getElem_mem hlt
        have HPK := hid ((HK.out p hpm).below HB01.out |>.below HW.out)
        have hp64 := HL.out p hpm
        have htt := text_take HL.out i hil
        have htk : textP (l.take (i + 1)) = textP (l.take i) ++ p.x := by
          rw [List.take_succ_eq_append_getElem hlt, hp]
          unfold textP
          rw [List.flatMap_append]
          simp
        have HTK := hid htk
        obtain ⟨xs, hxs⟩ : ∃ xs, textP (l.take i) = xs := ⟨_, rfl⟩
        rw [hxs] at HM HO HTK htt
        obtain ⟨d0, d1, d2, df⟩ := HM.out
        have hz1 : w1.heap.size < wr.heap.size := HM.out.lt
        clear hRw hp hpm htk hxs
        go_wp2_with (at_builtin; go_must (refine wpList_app_txt rfl _ _ rfl (w1.heap.size + 1) _ xs.length xs rfl (Base.ownsRow_later HO.out (below_alloc (Below.refl _ _) _)) p.A p.x.length p.c p.x rfl rfl HPK.out.nil (HPK.out.txt.below (below_alloc (Below.refl _ _) _)) (by omega) (by simp; omega) ?_))
        intro v2 w2 own2 hg2 _
        have hga := grown_below (below_alloc (Below.refl _ _) _) hg2
        have hrow : ∀ k, (Value.slice A5 xs.length e5).ownBlock = some k → w1.heap.size + 1 ≤ k := fun k e => (own_base HO.out e).1
        have hm2 : MB w2 w1.heap.size p0.s p0.u A5 xs.length e5 := HM.out.block (hga.block _ hz1 (fun e => by have := hrow _ e.symm; omega))
        have hw2 : Below w1.heap.size w1 w2 := HW.out.grown hga HW.out.size (fun k e => by have := hrow _ e; omega)
        obtain ⟨A2, e2, rfl, _⟩ := Base.slice_of_row own2
        have hgs := grown_setAt w2 w1.heap.size 2 (.slice A2 (xs.length + p.x.length) e2)
        have own3 := own2.kept hgs (by
          rcases hb : (Value.slice A2 (xs.length + p.x.length) e2).ownBlock with _ | q
          · exact .inl rfl
          · exact .inr fun e => by have := (own_base own2 hb).1; have := Option.some.inj e; omega)
        have hw3 : Below w1.heap.size w1 (w2.setCell ⟨w1.heap.size, 2, none⟩ (.slice A2 (xs.length + p.x.length) e2)) := hw2.grown hgs hw2.size (fun k e => by have := Option.some.inj e; omega)
        have hm3 : MB (w2.setCell ⟨w1.heap.size, 2, none⟩ (.slice A2 (xs.length + p.x.length) e2)) w1.heap.size p0.s p0.u A2 (xs.length + p.x.length) e2 := hm2.set
        obtain ⟨f0, f1, f2, ff⟩ := hm2
        have HO3 := hid own3
        have HW3 := hid hw3
        have HM3 := hid hm3
        clear own2 hg2 hga hrow hw2 hgs own3 hw3 hm3
        go_wp2
        go_roundw
        case rel =>
          refine ⟨i + 1, A2, e2, by omega, by go_num, hid ?_, hid ?_, HW3⟩
          · rw [HTK.out, List.length_append]; exact HM3.out
          · rw [HTK.out, List.length_append]; simpa using HO3.out
        case measure => simp [numV]; omega
      · obtain rfl : i = l.length := by omega
        have hM := HM.out
        have hO := HO.out
        rw [List.take_length] at hM hO
        have HOF := hid hO
        have HA2 : Hid (MB wr w.heap.size 0 false none 0 0) := hid (HA1.out.below HW.out)
        have hlw : w.heap.size < wr.heap.size := HA2.out.lt
        obtain ⟨d0, d1, d2, df⟩ := hM
        clear hO HM HO
        cases hg : goodN p0.s (textP l).length with
        | false =>
          have HG := hid hg
          have hw := HWE.out
          rw [hg] at hw
          simp only [Bool.false_eq_true, if_false] at hw
          have HWW := hid hw
          clear hg hw
          go_wp2_with (go_at_call 42; go_must (refine (good_calls p0.s p0.u A5 (textP l).length e5 _).mono ?_; rintro e w3 ⟨he, hb3⟩; rw [HG.out] at he; subst he; have HB3 := hid hb3; obtain ⟨a0, a1, a2, af⟩ := HA2.out.below hb3; have hbm : MB w3 w1.heap.size p0.s p0.u A5 (textP l).length e5 := MB.below ⟨d0, d1, d2, df⟩ hb3; clear hb3))
          have g1 := setCells_grown w.heap.size [.int .i64 0, .bool false, .slice none 0 0] 0 w3
          have hs3 := HB3.out.size
          refine bodyPost_ret (results23 rfl rfl rfl (v0 := .int .i64 0) (v1 := .bool false) (v2 := .slice none 0 0) ?_ ?_ ?_) rfl ⟨?_, ?_⟩
          · rw [World.cell?_setCell_other _ _ _ _ (by simp), World.cell?_setCell_other _ _ _ _ (by simp)]
            exact World.cell?_setCell_same _ _ _ a0
          · rw [World.cell?_setCell_other _ _ _ _ (by simp)]
            refine World.cell?_setCell_same _ _ _ (u := .bool false) ?_
            rw [World.cell?_setCell_other _ _ _ _ (by simp)]
            exact a1
          · refine World.cell?_setCell_same _ _ _ (u := .slice none 0 0) ?_
            rw [World.cell?_setCell_other _ _ _ _ (by simp), World.cell?_setCell_other _ _ _ _ (by simp)]
            exact a2
          · exact (HB01.out.trans ((HW.out.trans (HB3.out.mono HW.out.size)).mono HB01.out.size)).grown g1 (by omega) (fun k e => by have := Option.some.inj e; omega)
          · unfold WholePost
            rw [HWW.out]
            rfl
        | true =>
          have HG := hid hg
          have hw := HWE.out
          rw [hg] at hw
          simp only [if_true] at hw
          have HWW := hid hw
          clear hg hw
          go_wp2_with (go_at_call 42; go_must (refine (good_calls p0.s p0.u A5 (textP l).length e5 _).mono ?_; rintro e w3 ⟨he, hb3⟩; rw [HG.out] at he; subst he; have HB3 := hid hb3; obtain ⟨a0, a1, a2, af⟩ := HA2.out.below hb3; have hbm : MB w3 w1.heap.size p0.s p0.u A5 (textP l).length e5 := MB.below ⟨d0, d1, d2, df⟩ hb3; obtain ⟨b0, b1, b2, bf⟩ := hbm; clear hb3))
          have g1 := setCells_grown w.heap.size [.int .i64 p0.s, .bool p0.u, .slice A5 (textP l).length e5] 0 w3
          have hs3 := HB3.out.size
          refine bodyPost_ret (results23 rfl rfl rfl (v0 := .int .i64 p0.s) (v1 := .bool p0.u) (v2 := .slice A5 (textP l).length e5) ?_ ?_ ?_) rfl ⟨?_, ?_⟩
          · rw [World.cell?_setCell_other _ _ _ _ (by simp), World.cell?_setCell_other _ _ _ _ (by simp)]
            exact World.cell?_setCell_same _ _ _ a0
          · rw [World.cell?_setCell_other _ _ _ _ (by simp)]
            refine World.cell?_setCell_same _ _ _ (u := .bool false) ?_
            rw [World.cell?_setCell_other _ _ _ _ (by simp)]
            exact a1
          · refine World.cell?_setCell_same _ _ _ (u := .slice none 0 0) ?_
            rw [World.cell?_setCell_other _ _ _ _ (by simp), World.cell?_setCell_other _ _ _ _ (by simp)]
            exact a2
          · exact (HB01.out.trans ((HW.out.trans (HB3.out.mono HW.out.size)).mono HB01.out.size)).grown g1 (by omega) (fun k e => by have := Option.some.inj e; omega)
          · unfold WholePost
            rw [HWW.out]
            refine ⟨A5, e5, rfl, own_low ((Base.ownsRow_later HOF.out HB3.out).kept g1 ?_) (by omega)⟩
            rcases hb : (Value.slice A5 (textP l).length e5).ownBlock with _ | q
            · exact .inl rfl
            · exact .inr fun e => by have := (own_base HOF.out hb).1; have := Option.some.inj e; omega
end Go.Proofs.Ythoammfpjheodaa.Rz
