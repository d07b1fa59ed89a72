import Derived.Test.YthoammfpjheodaaRmE
namespace Go.Proofs.Ythoammfpjheodaa.Rz
open Go.ChangeShapes Go.WideShapes Go.ChangeAt Go.RowKit Go.Shelf MK Go.Joins
open Base (hid cell_new1 cell_old1 froz_new1 froz_old1)
attribute [local go_sem] Oper.semAt_some
set_option linter.unusedVariables false
set_option linter.unusedSimpArgs false
set_option maxRecDepth 100000
/-! ReasmMixes -/
def mixV (Al : Option Addr) (nl cl : Nat) (tsn seq z : Int) (Ao : Option Addr) (no co : Nat) : Value := .agg #[.slice Al nl cl, .int .u32 tsn, .int .u16 seq, .int .i64 z, .slice Ao no co]
/-- The argument's cells. -/
structure XB (w : World) (b : Nat) (Al : Option Addr) (nl cl : Nat) (tsn seq z : Int) (Ao : Option Addr) (no co : Nat) : Prop where
  c0 : w.cell? ⟨b, 0, none⟩ = some (.slice Al nl cl)
  c1 : w.cell? ⟨b, 1, none⟩ = some (.int .u32 tsn)
  c2 : w.cell? ⟨b, 2, none⟩ = some (.int .u16 seq)
  c3 : w.cell? ⟨b, 3, none⟩ = some (.int .i64 z)
  c4 : w.cell? ⟨b, 4, none⟩ = some (.slice Ao no co)
theorem XB.lt {w : World} {b : Nat} {Al : Option Addr} {nl cl : Nat} {tsn seq z : Int} {Ao : Option Addr} {no co : Nat} (h : XB w b Al nl cl tsn seq z Ao no co) : b < w.heap.size := lt_of_cell h.c0
theorem XB.block {w w' : World} {b : Nat} {Al : Option Addr} {nl cl : Nat} {tsn seq z : Int} {Ao : Option Addr} {no co : Nat} (h : XB w b Al nl cl tsn seq z Ao no co) (hb : w'.heap[b]? = w.heap[b]?) : XB w' b Al nl cl tsn seq z Ao no co :=
  ⟨(World.cell?_of_block (a := ⟨b, 0, none⟩) hb).trans h.c0, (World.cell?_of_block (a := ⟨b, 1, none⟩) hb).trans h.c1, (World.cell?_of_block (a := ⟨b, 2, none⟩) hb).trans h.c2, (World.cell?_of_block (a := ⟨b, 3, none⟩) hb).trans h.c3, (World.cell?_of_block (a := ⟨b, 4, none⟩) hb).trans h.c4⟩
theorem XB.below {w w' : World} {b : Nat} {Al : Option Addr} {nl cl : Nat} {tsn seq z : Int} {Ao : Option Addr} {no co : Nat} (h : XB w b Al nl cl tsn seq z Ao no co) (hb : Below w.heap.size w w') : XB w' b Al nl cl tsn seq z Ao no co := h.block (hb.block b h.lt)
theorem XB.new (w : World) (Al : Option Addr) (nl cl : Nat) (tsn seq z : Int) (Ao : Option Addr) (no co : Nat) : XB (w.alloc (.cells #[.slice Al nl cl, .int .u32 tsn, .int .u16 seq, .int .i64 z, .slice Ao no co] 29)) w.heap.size Al nl cl tsn seq z Ao no co :=
  ⟨by rw [cell_new1 _ _ _ _ rfl]; rfl, by rw [cell_new1 _ _ _ _ rfl]; rfl, by rw [cell_new1 _ _ _ _ rfl]; rfl, by rw [cell_new1 _ _ _ _ rfl]; rfl, by rw [cell_new1 _ _ _ _ rfl]; rfl⟩
theorem rowN (X : World) (k : Nat) (hk : k = X.heap.size) : (X.alloc (.cells #[] 3)).ownsRow k 3 1 (.slice (some ⟨k, 0, none⟩) 0 0) 0 (ints []) := by
  subst hk
  exact World.ownsRow_made X (e := 3) (size := 1) #[] 0 (Nat.le_refl _) (by decide) rfl
theorem own_fr {w : World} {B e s n c g : Nat} {xs : List Value} (h : w.ownsRow B e s (.slice (some ⟨g, 0, none⟩) n c) n xs) (i : Nat) : w.frozen? ⟨g, i, none⟩ = false := by
  rcases h.2 with ⟨h, _⟩ | ⟨g', cap, cur, h, hb, hg, _⟩
  · cases h
  · simp only [Value.slice.injEq, Option.some.injEq, Addr.mk.injEq] at h
    obtain ⟨⟨rfl, _⟩, _⟩ := h
    exact (box_at hg i).2
theorem own_cap {w : World} {B e s n c : Nat} {A : Option Addr} {xs : List Value} (h : w.ownsRow B e s (.slice A n c) n xs) : n ≤ c := by
  rcases h.2 with ⟨h, h0⟩ | ⟨g', cap, cur, h, hb, hg, hc, _⟩
  · omega
  · simp only [Value.slice.injEq] at h
    omega
theorem beq_zero_false {n : Nat} (h : 0 < n) : ((n : Int) == 0) = false := by
  rw [beq_eq_false_iff_ne]
  omega
theorem wrap_succ (i : Nat) (h : i ≤ 1000000) : IntKind.i64.wrap ((i : Int) + 1) = (i : Int) + 1 := by
  rw [IntKind.wrap_i64]
  omega
theorem errV_zero : errV 0 = .nilIface := rfl
theorem wrap_add (a b : Nat) (h : a ≤ 100000) (h2 : b ≤ 100000) : wrap64 ((a : Int) + (b : Int)) = ((a + b : Nat) : Int) := by unfold wrap64; omega
theorem own_blk {w w' : World} {B e s n c g : Nat} {xs : List Value} (h : w.ownsRow B e s (.slice (some ⟨g, 0, none⟩) n c) n xs) (hb : w'.heap[g]? = w.heap[g]?) : w'.ownsRow B e s (.slice (some ⟨g, 0, none⟩) n c) n xs := by
  obtain ⟨h0, h1⟩ := h
  refine ⟨h0, h1.imp id ?_⟩
  rintro ⟨g', cap', cur, e, k1, k2, k3⟩
  have e2 := e
  simp only [Value.slice.injEq, Option.some.injEq, Addr.mk.injEq] at e2
  obtain ⟨⟨rfl, _⟩, _⟩ := e2
  exact ⟨g, cap', cur, e, k1, hb.trans k2, k3⟩
theorem grown_mv {w w1 w2 : World} {bp mb : Nat} {row : Option Nat} (h : w.grownBy w1 row) (hm : Mv w1 w2 bp mb) (h1 : w.heap.size ≤ bp) (h2 : w.heap.size ≤ mb) : w.grownBy w2 row :=
  ⟨hm.os.trans h.os, hm.tape.trans h.tape, hm.output.trans h.output, Nat.le_trans h.size hm.size, fun k hk hne => (hm.block k (Nat.lt_of_lt_of_le hk h.size) (by omega) (by omega)).trans (h.block k hk hne)⟩
theorem grown_below2 {w w1 w2 : World} {row : Option Nat} (h : w.grownBy w1 row) (hm : Below w1.heap.size w1 w2) : w.grownBy w2 row :=
  ⟨hm.os.trans h.os, hm.tape.trans h.tape, hm.output.trans h.output, Nat.le_trans h.size hm.size, fun k hk hne => (hm.block k (Nat.lt_of_lt_of_le hk h.size)).trans (h.block k hk hne)⟩
theorem grown_same {w w1 w2 : World} {g : Nat} (h : w.grownBy w1 (some g)) (hm : w1.grownBy w2 (some g)) : w.grownBy w2 (some g) :=
  ⟨hm.os.trans h.os, hm.tape.trans h.tape, hm.output.trans h.output, Nat.le_trans h.size hm.size, fun k hk hne => (hm.block k (Nat.lt_of_lt_of_le hk h.size) hne).trans (h.block k hk hne)⟩
theorem grown_trans0 {w w1 w2 : World} {row : Option Nat} (h : w.grownBy w1 row) (hm : w1.grownBy w2 none) : w.grownBy w2 row :=
  ⟨hm.os.trans h.os, hm.tape.trans h.tape, hm.output.trans h.output, Nat.le_trans h.size hm.size, fun k hk hne => (hm.block k (Nat.lt_of_lt_of_le hk h.size) (by simp)).trans (h.block k hk hne)⟩
theorem below_none {w w' : World} (h : w.grownBy w' none) : Below w.heap.size w w' := (Below.refl _ w).grown h (Nat.le_refl _) (fun k e => by cases e)
set_option maxHeartbeats 4000000 in
theorem mixes_calls (w : World) (Al : Option Addr) (cl : Nat) (l : List Mg) (tsn seq z : Int) (Ao : Option Addr) (co : Nat) (ord : List Int) (hl : MR w Al cl l) (ho : NR w Ao co ord) (hu : U32 tsn) :
    Calls Try.prog 3 #[mixV Al l.length cl tsn seq z Ao ord.length co] w fun e w' => e = .returned (.bool true) ∧ Below w.heap.size w w' := by
  have HL := hid hl
  have HO := hid ho
  have HU := hid hu
  clear hl ho hu
  unfold mixV
  go_enter Try.func3, Try.ntmps3
  have HX0 := hid (XB.new w Al l.length cl tsn seq z Ao ord.length co)
  obtain ⟨W0, hW0⟩ : ∃ W0, W0 = w.alloc (.cells #[.slice Al l.length cl, .int .u32 tsn, .int .u16 seq, .int .i64 z, .slice Ao ord.length co] 29) := ⟨_, rfl⟩
  have hb0 : Below w.heap.size w W0 := by rw [hW0]; exact below_alloc (Below.refl _ _) _
  rw [← hW0] at HX0
  have HB0 := hid hb0
  have HW0 := hid hW0
  clear hb0 hW0
  go_upto_region 1 with fail
  rw [← HW0.out]
  go_upto_region 3 with (go_at_call 11; go_must (refine (alive_calls _).mono ?_; rintro e w1 ⟨rfl, hb⟩; have HB1 := hid hb; clear hb))
  have HX1 := hid (HX0.out.below HB1.out)
  have HBw1 : Hid (Below w.heap.size w w1) := hid (below_step HB0.out HB1.out)
  clear HX0 HB0 HB1 HW0
  obtain ⟨x0, x1, x2, x3, x4⟩ := HX1.out
  have hxl := HX1.out.lt
  by_cases h8 : 8 < l.length
  · go_wp2_with fail
    go_ret
    exact ⟨rfl, HBw1.out⟩
  · obtain ⟨W2, hW2⟩ : ∃ W2 : World, W2 = ((w1.alloc (.cells #[] 40)).alloc (.cells #[] 3)).alloc (.cells #[] 3) := ⟨_, rfl⟩
    have hz2 : W2.heap.size = w1.heap.size + 3 := by rw [hW2]; simp
    have hb12 : Below w1.heap.size w1 W2 := by rw [hW2]; exact below_alloc (below_alloc (below_alloc (Below.refl _ _) _) _) _
    have hp2 : Row W2 w1.heap.size (some ⟨w1.heap.size, 0, none⟩) 0 [] ∧ W2.ownsRow w1.heap.size 3 1 (.slice (some ⟨w1.heap.size + 1, 0, none⟩) 0 0) 0 (ints []) ∧ W2.ownsRow w1.heap.size 3 1 (.slice (some ⟨w1.heap.size + 2, 0, none⟩) 0 0) 0 (ints []) := by
      rw [hW2]
      refine ⟨Base.ownsRow_later (rowE w1 _ rfl) (below_alloc (below_alloc (Below.refl _ _) _) _), Base.ownsRow_later (own_low (rowN (w1.alloc (.cells #[] 40)) (w1.heap.size + 1) (by simp)) (by omega)) (below_alloc (Below.refl _ _) _), own_low (rowN ((w1.alloc (.cells #[] 40)).alloc (.cells #[] 3)) (w1.heap.size + 2) (by simp)) (by omega)⟩
    have HW2 := hid hW2
    have HB12 := hid hb12
    have HP2 := hid hp2
    clear hW2 hb12 hp2
    go_upto_region 6 with fail
    rw [← HW2.out]
    clear x0 x1 x2 x3 x4
    have HX2 := hid (HX1.out.below HB12.out)
    obtain ⟨x0, x1, x2, x3, x4⟩ := HX2.out
    go_upto_region 7 with fail
    obtain ⟨W3, hW3⟩ : ∃ W3 : World, W3 = W2.alloc (.cells #[.int .u32 tsn, .int .u16 seq, .int .i64 z] 26) := ⟨_, rfl⟩
    have hz3 : W3.heap.size = w1.heap.size + 4 := by rw [hW3]; simp [hz2]
    have hb23 : Below W2.heap.size W2 W3 := by rw [hW3]; exact below_alloc (Below.refl _ _) _
    have hat3 : AT W3 W2.heap.size tsn seq z := by rw [hW3]; exact AT.new W2 tsn seq z _ rfl
    rw [← hW3]
    have hp3 : P1 W3 w1.heap.size W2.heap.size w1.heap.size 0 (w1.heap.size + 1) 0 (w1.heap.size + 2) 0 [] [] [] :=
      ⟨Base.ownsRow_later HP2.out.1 hb23, Base.ownsRow_later HP2.out.2.1 hb23, Base.ownsRow_later HP2.out.2.2 hb23, by omega, by omega, by omega, by omega, fun q hq => by cases hq⟩
    have HAT3 := hid hat3
    have HP3 := hid hp3
    have HX3 := hid (HX2.out.below hb23)
    have HB13 : Hid (Below w1.heap.size w1 W3) := hid (below_step HB12.out hb23)
    clear hat3 hp3 hb23 hW3 x0 x1 x2 x3 x4 HW2 HB12 HP2 HX2
    rw [hz2] at HAT3 HP3
    obtain ⟨b0, hb0⟩ : ∃ b0, b0 = w1.heap.size + 3 := ⟨_, rfl⟩
    rw [← hb0] at HAT3 HP3 ⊢
    have HB0 := hid hb0
    clear hb0 hz2
    clear W2
    obtain ⟨x0, x1, x2, x3, x4⟩ := HX3.out
    have hxl3 := HX3.out.lt
    go_wp2_with fail
    clear x0 x1 x2 x3 x4
    go_loopw [3, 4, 5, 6, 34] (fun v3 v4 v5 v6 v34 wr => ∃ (gs : List (List Pm)) (N g3 c3 g4 c4 g5 c5 : Nat) (q' : Int), gs.length ≤ l.length ∧ Hid (N = gs.flatten.length) ∧ v34 = .int .i64 gs.length ∧ v3 = .slice (some ⟨g3, 0, none⟩) N c3 ∧ v4 = .slice (some ⟨g4, 0, none⟩) N c4 ∧ v5 = .slice (some ⟨g5, 0, none⟩) gs.length c5 ∧ v6 = .int .i64 (held gs.flatten : Nat) ∧ Hid (P1 wr w1.heap.size b0 g3 c3 g4 c4 g5 c5 gs.flatten ((remOf gs).map (·.2)) (gs.map List.length)) ∧ Hid (AT wr b0 (step tsn (N : Nat)) q' z) ∧ Hid (Chain l tsn z.toNat gs) ∧ Hid (Below w1.heap.size w1 wr)) (fun _ _ _ _ v34 _ => l.length - numV v34)
    case atStart =>
      refine ⟨[], 0, w1.heap.size, 0, w1.heap.size + 1, 0, w1.heap.size + 2, 0, seq, Nat.zero_le _, hid rfl, rfl, rfl, rfl, rfl, rfl, HP3, hid ?_, hid (Chain.nil _ _ _), HB13⟩
      have := HAT3.out
      rw [← step_zero HU.out] at this
      exact this
    case round =>
      obtain ⟨gs, N, g3, c3, g4, c4, g5, c5, q', hgl, HN, rfl, rfl, rfl, rfl, rfl, HP, HAT, HC, HBW⟩ := hrel
      obtain ⟨WA, hWA⟩ : ∃ WA, WA = wr := ⟨_, rfl⟩
      rw [← hWA] at HP HAT HBW ⊢
      clear hWA
      clear wr
      by_cases hlt : gs.length < l.length
      · obtain ⟨m, hm⟩ : ∃ m, l[gs.length] = m := ⟨_, rfl⟩
        have HLr := hid (HL.out.below (HBw1.out.trans (HBW.out.mono HBw1.out.size)))
        obtain ⟨ad, rfl, hbl, k0, k1, k2⟩ := HLr.out.at gs.length hlt
        have hmi : MIn WA m := by rw [← hm]; exact HLr.out.inp _ (List.getElem_mem hlt)
        rw [hm] at k0 k1 k2
        have hz := HBW.out.size
        have HM := hid hm
        have HMI := hid hmi
        clear hm hmi
        have hbd := HC.out.bound
        rw [← HN.out] at hbd
        go_upto_region 10 with fail
        obtain ⟨W4, hW4⟩ : ∃ W4 : World, W4 = WA.alloc (.cells #[.int .i64 m.s, .bool m.u, .slice m.A m.x.length m.c] 34) := ⟨_, rfl⟩
        have hb4 : Below WA.heap.size WA W4 := by rw [hW4]; exact below_alloc (Below.refl _ _) _
        have hz4 : W4.heap.size = WA.heap.size + 1 := by rw [hW4]; simp
        have hmb4 : MB W4 WA.heap.size m.s m.u m.A m.x.length m.c := by rw [hW4]; exact MB.new WA _ _ _ _ _
        rw [← hW4]
        have hat4 := HAT.out.below hb4
        have hcc := cut_calls W4 m (step tsn (N : Nat)) q' z (HMI.out.below hb4)
        unfold msgV stV at hcc
        have HCC := hid hcc
        have HB4 := hid hb4
        have HMB4 := hid hmb4
        have HAT4 := hid hat4
        have HP4 := hid (HP.out.below hb4)
        have hb0l := hat4.lt
        clear hcc hb4 hmb4 hat4 hW4 k0 k1 k2
        obtain ⟨k0, k1, k2, kf⟩ := HMB4.out
        obtain ⟨a0, a1, a2, af⟩ := HAT4.out
        go_upto_region 11 with (go_at_call 12; go_must (refine HCC.out.mono ?_; rintro e W5 ⟨hb5, hcase⟩; have HB5 := hid hb5; clear hb5; rcases hcase with ⟨v, rfl⟩ | ⟨A', c', L, rfl, hg5, hz1, hz64, hr5, ht5, hcore⟩))
        · go_wp2_with fail
          go_ret
          exact ⟨rfl, below_step HBw1.out (below_step HBW.out (below_step HB4.out HB5.out))⟩
        · have hgg := hg5
          unfold goodN at hgg
          simp only [Bool.and_eq_true, decide_eq_true_eq] at hgg
          have hcut : Cuts m.s m.u m.x (step tsn (N : Nat)) q' z.toNat L := ⟨hcore, hgg.2, by omega, hgg.1, step_u _ _⟩
          have hz5 := HB5.out.size
          have hLp := hcut.pos
          have hLh := hcut.held
          obtain ⟨gl, rfl, hgl1, hgl2, -⟩ := Row.cells hr5 0 hLp.1
          have hb0n : b0 ≠ gl := by omega
          have HCUT := hid hcut
          have HP5 := hid (HP4.out.below HB5.out)
          have HAT5 := hid (HAT4.out.below HB5.out)
          have HMB5 := hid (HMB4.out.below HB5.out)
          have HB15 : Hid (Below w1.heap.size w1 W5) := hid (below_step HBW.out (below_step HB4.out HB5.out))
          have HR5 := hid hr5
          have HT5 : Hid (∀ q ∈ L, W5.ownsRow W4.heap.size 5 1 (.slice q.A q.x.length q.c) q.x.length (q.x.map (.int .u8))) := hid ht5
          have hxl400 := hgg.2.2
          have hg5' : W5.ownsRow w1.heap.size 3 1 (.slice (some ⟨g5, 0, none⟩) gs.length c5) gs.length (ints (gs.map List.length)) := by
            have := HP5.out.r5
            rwa [List.length_map] at this
          have HG5 := hid hg5'
          have HLH := hid hLh
          clear hcut hr5 ht5 hcore hg5 hgg hLh hg5' k0 k1 k2 kf a0 a1 a2 af
          obtain ⟨k0, k1, k2, kf⟩ := HMB5.out
          go_upto_region 15 with (at_builtin; go_must (refine wpList_app_int rfl _ _ rfl w1.heap.size g5 gs.length c5 (gs.map List.length) rfl (Base.ownsRow_later HG5.out (below_alloc (Below.refl _ _) _)) W5.heap.size L.length rfl (by rw [cell_new1 _ _ _ _ rfl]; rfl) (by omega) (by rw [Base_size]; omega) ?_))
          intro v6 W6 hr6 hg6 hat6
          have hz6 := hg6.size
          rw [Base_size] at hz6
          have hl55 := HP5.out.lt
          have hp55 := HP5.out.below (below_alloc (Below.refl _ W5) (.cells #[.int .i64 (L.length : Nat)] 3))
          obtain ⟨g5', c5', e5', hp6⟩ := hp55.app5 (by rw [List.length_map]; exact hr6) hg6 (by rw [Base_size]; exact hat6) (by rw [Base_size]; omega)
          rw [List.length_map] at e5'
          subst e5'
          have hgb : W5.grownBy W6 (some g5) := grown_fresh (below_alloc (Below.refl _ _) _) hg6
          have hb16 : Below w1.heap.size w1 W6 := HB15.out.grown hgb (by have := HB15.out.size; omega) (fun k e => by cases e; omega)
          have hr56 : Row W6 W4.heap.size (some ⟨gl, 0, none⟩) c' L := World.ownsRow.kept HR5.out hgb (own_apart HR5.out HG5.out (by decide))
          have ht56 : ∀ q ∈ L, W6.ownsRow W4.heap.size 5 1 (.slice q.A q.x.length q.c) q.x.length (q.x.map (.int .u8)) := fun q hq => (HT5.out q hq).kept hgb (own_apart (HT5.out q hq) HG5.out (by decide))
          have hat56 : AT W6 b0 (step tsn (N : Nat)) q' z := HAT5.out.grown hgb (fun e => HP5.out.n5 (Option.some.inj e).symm)
          obtain ⟨g6, hg6e⟩ : ∃ g6, g6 = g3 := ⟨_, rfl⟩
          have hgl3 : g3 ≠ gl := by have := HP4.out.lt; omega
          have HP6 := hid hp6
          have HB16 := hid hb16
          have HR6 := hid hr56
          have HT6 := hid ht56
          have HAT6 := hid hat56
          clear hr6 hg6 hat6 hp55 hp6 hgb hb16 hr56 ht56 hat56 hl55 k0 k1 k2 kf hg6e
          clear g6
          go_wp2_with fail
          go_loopw [3, 4, 62] (fun v3 v4 v62 wr => ∃ (k g3 c3 g4 c4 : Nat), k ≤ L.length ∧ v62 = .int .i64 k ∧ v3 = .slice (some ⟨g3, 0, none⟩) (N + k) c3 ∧ v4 = .slice (some ⟨g4, 0, none⟩) (N + k) c4 ∧ g3 ≠ gl ∧ Hid (P1 wr w1.heap.size b0 g3 c3 g4 c4 g5' c5' (gs.flatten ++ L.take k) ((remOf gs).map (·.2) ++ List.replicate k gs.length) (gs.map List.length ++ [L.length])) ∧ Hid (Row wr W4.heap.size (some ⟨gl, 0, none⟩) c' L) ∧ Hid (∀ q ∈ L, wr.ownsRow W4.heap.size 5 1 (.slice q.A q.x.length q.c) q.x.length (q.x.map (.int .u8))) ∧ Hid (AT wr b0 (step tsn (N : Nat)) q' z) ∧ Hid (Below w1.heap.size w1 wr) ∧ W6.heap.size ≤ wr.heap.size) (fun _ _ v62 _ => L.length - numV v62)
          case atStart => exact ⟨0, g3, c3, g4, c4, Nat.zero_le _, rfl, rfl, rfl, hgl3, hid (by simpa using HP6.out), HR6, HT6, HAT6, HB16, Nat.le_refl _⟩
          case round =>
            obtain ⟨k, g3, c3, g4, c4, hkl, rfl, rfl, rfl, hgl3, HP, HR, HT, HAT, HBW, hzr⟩ := hrel
            obtain ⟨WB, hWB⟩ : ∃ WB, WB = wr := ⟨_, rfl⟩
            rw [← hWB] at HP HR HT HAT HBW hzr ⊢
            clear hWB
            clear wr
            by_cases hkl2 : k < L.length
            · obtain ⟨_, e, _, hgl4, k0, k1, k2, k3, k4, k5, k6⟩ := Row.cells HR.out k hkl2
              cases e
              obtain ⟨q, hq⟩ : ∃ q, L[k] = q := ⟨_, rfl⟩
              have hqt := HT.out L[k] (List.getElem_mem hkl2)
              rw [hq] at k0 k1 k2 k3 k4 k5 k6 hqt
              obtain ⟨X1, hX1⟩ : ∃ X1 : World, X1 = WB.alloc (.cells #[.int .u32 q.t, .int .u16 q.s, .int .u16 q.q, .bool q.b, .bool q.e, .bool q.u, .slice q.A q.x.length q.c] 40) := ⟨_, rfl⟩
              have hz1' : X1.heap.size = WB.heap.size + 1 := by rw [hX1]; simp
              have hb1 : Below WB.heap.size WB X1 := by rw [hX1]; exact below_alloc (Below.refl _ _) _
              have hbx : Box X1 WB.heap.size q := by rw [hX1]; exact Box.new WB q
              have hN1 : N + k = (gs.flatten ++ L.take k).length := by rw [List.length_append, ← HN.out, List.length_take, Nat.min_eq_left hkl]
              have HN1 := hid hN1
              have HQ := hid hq
              have HQT := hid hqt
              have HX1 := hid hX1
              have HBX := hid hbx
              have HB1 := hid hb1
              clear hN1 hq hqt hX1 hbx hb1
              go_upto_region 18 with fail
              rw [← HX1.out]
              clear k0 k1 k2 k3 k4 k5 k6
              obtain ⟨x0, x1, x2, x3, x4, x5, x6, xf⟩ := HBX.out
              have hb2 : Below WB.heap.size WB (X1.alloc (.cells #[.int .u32 q.t, .int .u16 q.s, .int .u16 q.q, .bool q.b, .bool q.e, .bool q.u, .slice q.A q.x.length q.c] 40)) := below_alloc HB1.out _
              have HB2 := hid hb2
              have HS2 : Hid (Src (X1.alloc (.cells #[.int .u32 q.t, .int .u16 q.s, .int .u16 q.q, .bool q.b, .bool q.e, .bool q.u, .slice q.A q.x.length q.c] 40)) (some ⟨WB.heap.size + 1, 0, none⟩) 1 [q]) := hid (Src.one (Box.new' X1 q _ hz1'.symm))
              clear hb2
              go_wp2_with (at_builtin; go_must (first
                | (refine wpList_app_pm rfl _ _ rfl w1.heap.size (some ⟨g3, 0, none⟩) c3 (gs.flatten ++ L.take k) (N + k) HN1.out rfl (HP.out.below HB2.out).r3 (some ⟨WB.heap.size + 1, 0, none⟩) 1 1 [q] rfl rfl HS2.out (by omega) (by have := HBW.out.size; rw [Base_size]; omega) ?_)))
              intro A6 c6 X3 hr3 hg3 hat3
              rw [← List.append_assoc] at hr3
              have hb0B := HAT.out.lt
              have hz3 := hg3.size
              rw [Base_size] at hz3
              obtain ⟨g3', rfl, hp3⟩ := (HP.out.below HB2.out).app3 hr3 hg3 (by rw [Base_size, hz1']; rw [HN1.out] at hat3; exact hat3) (by rw [Base_size]; omega) (own_low (Base.ownsRow_later HQT.out HB2.out) (by omega)) (fun ad e => by
                have h := HQT.out
                rw [e] at h
                have := (own_addr h).1
                omega)
              have hgb3 : WB.grownBy X3 (some g3) := grown_fresh HB2.out hg3
              have hlB := HP.out.lt
              have hbX : Below w1.heap.size w1 X3 := HBW.out.grown hgb3 HBW.out.size (fun k e => by cases e; omega)
              have hrX : Row X3 W4.heap.size (some ⟨gl, 0, none⟩) c' L := World.ownsRow.kept HR.out hgb3 (.inr fun e => hgl3 (Option.some.inj e).symm)
              have htX : ∀ q ∈ L, X3.ownsRow W4.heap.size 5 1 (.slice q.A q.x.length q.c) q.x.length (q.x.map (.int .u8)) := fun q hq => (HT.out q hq).kept hgb3 (own_apart (HT.out q hq) HP.out.r3 (by decide))
              have hatX : AT X3 b0 (step tsn (N : Nat)) q' z := HAT.out.grown hgb3 (fun e => HP.out.n3 (Option.some.inj e).symm)
              have hne3 : g3' ≠ gl := by
                rcases hat3 with h | h
                · have := Option.some.inj h
                  dsimp only at this
                  omega
                · have := Option.some.inj h
                  dsimp only at this
                  omega
              have hap : gs.flatten ++ L.take k ++ [q] = gs.flatten ++ L.take (k + 1) := by rw [List.append_assoc, List.take_succ_eq_append_getElem hkl2, HQ.out]
              rw [hap] at hp3
              have h4 : X3.ownsRow w1.heap.size 3 1 (.slice (some ⟨g4, 0, none⟩) (N + k) c4) (N + k) (ints ((remOf gs).map (·.2) ++ List.replicate k gs.length)) := by
                have := hp3.r4
                rwa [List.length_append, List.length_map, remOf_len, List.length_replicate, ← HN.out] at this
              have HP3' := hid hp3
              have HB3 := hid hbX
              have HR3 := hid hrX
              have HT3 := hid htX
              have HAT3' := hid hatX
              have H4 := hid h4
              clear hr3 hg3 hat3 hp3 hgb3 hbX hrX htX hatX hap h4 x0 x1 x2 x3 x4 x5 x6 xf hlB
              go_wp2_with (at_builtin; go_must (refine wpList_app_int rfl _ _ rfl w1.heap.size g4 (N + k) c4 ((remOf gs).map (·.2) ++ List.replicate k gs.length) rfl (Base.ownsRow_later H4.out (below_alloc (Below.refl _ _) _)) X3.heap.size gs.length rfl (by rw [cell_new1 _ _ _ _ rfl]; rfl) (by omega) (by have := HB3.out.size; rw [Base_size]; omega) ?_))
              intro v6 X5 hr5 hg5 hat5
              have hz5' := hg5.size
              rw [Base_size] at hz5'
              have hN4 : N + k = ((remOf gs).map (·.2) ++ List.replicate k gs.length).length := by rw [List.length_append, List.length_map, remOf_len, List.length_replicate, ← HN.out]
              obtain ⟨g4', c4', e4', hp5⟩ := (HP3'.out.below (below_alloc (Below.refl _ X3) (.cells #[.int .i64 (gs.length : Nat)] 3))).app4 (by rw [← hN4]; exact hr5) hg5 (by rw [Base_size]; exact hat5) (by rw [Base_size]; omega)
              have hgb5 : X3.grownBy X5 (some g4) := grown_fresh (below_alloc (Below.refl _ _) _) hg5
              have hlB := HP3'.out.lt
              have hbX : Below w1.heap.size w1 X5 := HB3.out.grown hgb5 HB3.out.size (fun k e => by cases e; omega)
              have hrX : Row X5 W4.heap.size (some ⟨gl, 0, none⟩) c' L := World.ownsRow.kept HR3.out hgb5 (own_apart HR3.out H4.out (by decide))
              have htX : ∀ q ∈ L, X5.ownsRow W4.heap.size 5 1 (.slice q.A q.x.length q.c) q.x.length (q.x.map (.int .u8)) := fun q hq => (HT3.out q hq).kept hgb5 (own_apart (HT3.out q hq) H4.out (by decide))
              have hatX : AT X5 b0 (step tsn (N : Nat)) q' z := HAT3'.out.grown hgb5 (fun e => HP3'.out.n4 (Option.some.inj e).symm)
              rw [List.append_assoc, ← List.replicate_succ'] at hp5
              rw [← hN4] at e4'
              subst e4'
              have HP5' := hid hp5
              have HB5' := hid hbX
              have HR5' := hid hrX
              have HT5' := hid htX
              have HAT5' := hid hatX
              clear hr5 hg5 hat5 hp5 hgb5 hbX hrX htX hatX hN4 hlB
              go_wp2
              go_roundw
              case rel => exact ⟨k + 1, g3', c6, g4', c4', by omega, by simp, rfl, rfl, hne3, HP5', HR5', HT5', HAT5', HB5', by omega⟩
              case measure => simp [numV]; omega
            · obtain rfl : k = L.length := by omega
              obtain ⟨a0, a1, a2, af⟩ := HAT.out
              have hPz : P1 WB w1.heap.size b0 g3 c3 g4 c4 g5' c5' (gs ++ [L]).flatten ((remOf (gs ++ [L])).map (·.2)) ((gs ++ [L]).map List.length) := by
                have h1 := HP.out
                rw [List.take_length] at h1
                rw [List.flatten_append, List.flatten_singleton, remOf_snoc, List.map_append, List.map_map, List.map_append]
                have h2 : List.map ((fun x : Pm × Nat => x.2) ∘ fun p => (p, gs.length)) L = List.replicate L.length gs.length := by
                  rw [List.eq_replicate_iff]
                  refine ⟨by simp, fun b hb => ?_⟩
                  obtain ⟨_, _, e⟩ := List.mem_map.1 hb
                  exact e.symm
                rw [h2]
                exact h1
              have hCz : Chain l tsn z.toNat (gs ++ [L]) := HC.out.snoc hlt (seq := q') (by rw [HM.out, ← HN.out]; exact HCUT.out)
              have hHz : held (gs ++ [L]).flatten = held gs.flatten + m.x.length := by rw [held_snoc, HLH.out]
              have hNz : N + L.length = (gs ++ [L]).flatten.length := by rw [List.flatten_append, List.flatten_singleton, List.length_append, HN.out]
              have hst : step (step tsn (N : Nat)) (L.length : Nat) = step tsn ((N + L.length : Nat)) := by rw [step_step]; congr 1
              have HPz := hid hPz
              have HCz := hid hCz
              have HHz := hid hHz
              have HNz := hid hNz
              have HST := hid hst
              have HATs : Hid (∀ t q', AT ((WB.setCell ⟨b0, 0, none⟩ (.int .u32 t)).setCell ⟨b0, 1, none⟩ (.int .u16 q')) b0 t q' z) := hid fun t q' => HAT.out.set t q'
              have HPs : Hid (∀ t q', P1 ((WB.setCell ⟨b0, 0, none⟩ (.int .u32 t)).setCell ⟨b0, 1, none⟩ (.int .u16 q')) w1.heap.size b0 g3 c3 g4 c4 g5' c5' (gs ++ [L]).flatten ((remOf (gs ++ [L])).map (·.2)) ((gs ++ [L]).map List.length)) := hid fun t q' => (HPz.out.at_ (grown_setAt _ _ _ _)).at_ (grown_setAt _ _ _ _)
              have HBs : Hid (∀ t q', Below w1.heap.size w1 ((WB.setCell ⟨b0, 0, none⟩ (.int .u32 t)).setCell ⟨b0, 1, none⟩ (.int .u16 q'))) := hid fun t q' => by
                have hb0w : w1.heap.size ≤ b0 := by have := HB0.out; omega
                have h1 := HBW.out.grown (grown_setAt WB b0 0 (.int .u32 t)) HBW.out.size (fun k e => by cases e; exact hb0w)
                exact h1.grown (grown_setAt _ b0 1 (.int .u16 q')) h1.size (fun k e => by cases e; exact hb0w)
              clear hPz hCz hHz hNz hst
              go_wp2
              go_roundw
              case rel =>
                refine ⟨gs ++ [L], N + L.length, g3, c3, g4, c4, g5', c5', IntKind.u16.wrap (q' + 1), by rw [List.length_append, List.length_singleton]; omega, HNz, by rw [List.length_append, List.length_singleton]; rfl, rfl, rfl, by rw [List.length_append, List.length_singleton], by rw [HHz.out]; simp, hid (HPs.out _ _), hid ?_, HCz, hid (HBs.out _ _)⟩
                rw [← HST.out]
                exact HATs.out _ _
              case measure => simp [numV]; omega
      · have hge : gs.length = l.length := by omega
        have HGE := hid hge
        have hbd := HC.out.bound
        rw [← HN.out] at hbd
        have hzA := HBW.out.size
        clear hge hgl
        go_upto_region 23 with fail
        clear hlt
        by_cases d1 : 2000 < held gs.flatten
        · go_wp2_with fail
          go_ret
          exact ⟨rfl, below_step HBw1.out HBW.out⟩
        · by_cases d2 : 300 < N
          · go_wp2_with fail
            go_ret
            exact ⟨rfl, below_step HBw1.out HBW.out⟩
          · have hmix : MixOk gs := HC.out.ok HU.out (by omega) (by rw [← HN.out]; omega)
            have HMX := hid hmix
            have HB0A : Hid (Below w.heap.size w WA) := hid (below_step HBw1.out HBW.out)
            have hlA := HP.out.lt
            have hc3 : N ≤ c3 := by
              have := own_cap HP.out.r3
              rwa [← HN.out] at this
            have hc4 : N ≤ c4 := by
              have := own_cap HP.out.r4
              rwa [List.length_map, remOf_len, ← HN.out] at this
            have hrl : (remOf gs).length = N := by rw [remOf_len, HN.out]
            have hr5 : WA.ownsRow w1.heap.size 3 1 (.slice (some ⟨g5, 0, none⟩) gs.length c5) gs.length (ints (leftV gs.length (remOf gs))) := by
              have := HP.out.r5
              rwa [List.length_map, leftV_zero] at this
            have hr3 : Rd WA g3 (cellsP ((remOf gs).map (·.1))) := by
              rw [remOf_fst]
              exact Rd.of (g := g3) HP.out.r3
            have hr4 : Rd WA g4 (ints ((remOf gs).map (·.2))) := Rd.of (g := g4) HP.out.r4
            have hn45 := HP.out.ne
            have hn35 : g3 ≠ g5 := by
              rcases own_apart HP.out.r3 HP.out.r5 (by decide) with h | h
              · cases h
              · exact fun e => h (by rw [e]; rfl)
            have HR5 := hid hr5
            have HR3 := hid hr3
            have HR4 := hid hr4
            have HRL := hid hrl
            clear hmix hr5 hr3 hr4 hrl
            go_wp2_with (go_at_call 13; go_must (refine (new_calls _).mono ?_; rintro e W7 ⟨bp, mb, rfl, hB7, hbp, hmb, hb7⟩; have HBN7 := hid hB7; have HB7 := hid hb7; clear hB7 hb7))
            have hz7 := HB7.out.size
            have hg7 : WA.grownBy W7 (some g5) := ⟨HB7.out.os, HB7.out.tape, HB7.out.output, HB7.out.size, fun k hk _ => HB7.out.block k hk⟩
            have HG7 := hid hg7
            clear hg7
            go_loopw [3, 4, 15] (fun v3 v4 v15 wr => ∃ (rm : List (Pm × Nat)) (k n g3 c3 g4 c4 : Nat) (mm r : List Pm), v3 = .slice (some ⟨g3, 0, none⟩) rm.length c3 ∧ v4 = .slice (some ⟨g4, 0, none⟩) rm.length c4 ∧ v15 = .int .i64 k ∧ k + rm.length = N ∧ rm.length ≤ c3 ∧ rm.length ≤ c4 ∧ n ≤ k ∧ mm.length ≤ k ∧ (g3 ≠ bp ∧ g3 ≠ mb ∧ g3 ≠ g5) ∧ (g4 ≠ bp ∧ g4 ≠ mb ∧ g4 ≠ g5) ∧ W7.heap.size ≤ wr.heap.size ∧ Hid (Rd wr g3 (cellsP (rm.map (·.1)))) ∧ Hid (Rd wr g4 (ints (rm.map (·.2)))) ∧ Hid (wr.ownsRow w1.heap.size 3 1 (.slice (some ⟨g5, 0, none⟩) gs.length c5) gs.length (ints (leftV gs.length rm))) ∧ Hid (WA.grownBy wr (some g5)) ∧ Hid (Bn wr bp mb n mm) ∧ Hid (Sim mm r) ∧ Hid (MixInv gs r rm) ∧ Hid (held mm ≤ 2000)) (fun v3 _ _ _ => lenV v3)
            case atStart =>
              refine ⟨remOf gs, 0, 0, g3, c3, g4, c4, [], [], by rw [HRL.out], by rw [HRL.out], rfl, by rw [HRL.out]; omega, by rw [HRL.out]; exact hc3, by rw [HRL.out]; exact hc4, Nat.le_refl _, Nat.le_refl _, ⟨by omega, by omega, hn35⟩, ⟨by omega, by omega, hn45⟩, Nat.le_refl _, hid (HR3.out.below HB7.out), hid (HR4.out.below HB7.out), hid (Base.ownsRow_later HR5.out HB7.out), HG7, HBN7, hid rfl, hid (mix_zero HMX.out), hid (Nat.zero_le _)⟩
            case round =>
              obtain ⟨rm, k, n, g3, c3, g4, c4, mm, r, rfl, rfl, rfl, hkN, hrc3, hrc4, hnk, hmk, h3n, h4n, hzr, HR3, HR4, HR5, HG, HBN, HS, HI, HH⟩ := hrel
              obtain ⟨WB, hWB⟩ : ∃ WB, WB = wr := ⟨_, rfl⟩
              rw [← hWB] at HR3 HR4 HR5 HG HBN hzr ⊢
              clear hWB
              clear wr
              by_cases hr0 : 0 < rm.length
              · go_upto_region 30 with fail
                have HE : Hid (Below w.heap.size w WB) := hid (HB0A.out.grown HG.out HB0A.out.size (fun k e => by cases e; omega))
                have HXB : Hid (XB WB w.heap.size Al l.length cl tsn seq z Ao ord.length co) := hid ((HX1.out.below HBW.out).block (HG.out.block _ (by omega) (fun e => by cases e; omega)))
                have hxlB := HXB.out.lt
                have HOB := hid (HO.out.below HE.out)
                obtain ⟨x0, x1, x2, x3, x4⟩ := HXB.out
                obtain ⟨bk, hbk⟩ : ∃ bk, decide ((k : Int) < (ord.length : Int)) = bk := ⟨_, rfl⟩
                go_upto_if 104 with fail
                go_cut [16] (fun v16 wx => ∃ nn : Nat, nn < rm.length ∧ v16 = .int .i64 nn ∧ WB = wx)
                case first =>
                  by_cases hk : k < ord.length
                  · obtain ⟨ado, rfl, hbo, hco⟩ := HOB.out.cells k hk
                    go_wp2
                    obtain ⟨nn, hnn, hne⟩ := pick_lt ord[k] rm.length hr0 (by omega)
                    go_meet
                    case rel => exact ⟨nn, hnn, by rw [hne], rfl⟩
                  · go_wp2
                    go_meet
                    case rel => exact ⟨0, hr0, rfl, rfl⟩
                case rest =>
                  obtain ⟨nn, hnn, rfl, rfl⟩ := hcut
                  obtain ⟨c, hc⟩ : ∃ c, rm[nn] = c := ⟨_, rfl⟩
                  obtain ⟨p, i⟩ := c
                  have hmem : (p, i) ∈ rm := by rw [← hc]; exact List.getElem_mem hnn
                  obtain ⟨hi, hpi⟩ : ∃ hi : i < gs.length, p ∈ gs[i] := HI.out.rm _ hmem
                  have hpg : p ∈ gs.flatten := MixOk.mem hi hpi
                  have htxA := (HP.out.tx p hpg).1
                  have htxB := htxA.kept HG.out (own_apart htxA HP.out.r5 (by decide))
                  have hpr := HMX.out.right p hpg
                  have hps : 0 ≤ p.s ∧ p.s ≤ 65535 := by
                    obtain ⟨seq', hcc⟩ := HC.out.cut i hi (by have := HGE.out; omega)
                    obtain ⟨kk, hkk, e⟩ := List.getElem_of_mem hpi
                    have := (hcc.flds kk hkk).2.1
                    rw [e] at this
                    have := hcc.hs
                    omega
                  have hpu : U32 p.t := by
                    obtain ⟨seq', hcc⟩ := HC.out.cut i hi (by have := HGE.out; omega)
                    obtain ⟨kk, hkk, e⟩ := List.getElem_of_mem hpi
                    have := (hcc.flds kk hkk).1
                    rw [e] at this
                    rw [this]
                    exact step_u _ _
                  have hpx : 1 ≤ p.x.length ∧ p.x.length ≤ 64 := by
                    unfold rightP at hpr
                    simp only [Bool.and_eq_true, decide_eq_true_eq] at hpr
                    omega
                  have hok : Ok WB p := ⟨txt_row htxB, fun e => by rw [e] at htxB; exact nil_row htxB, hpu, by omega⟩
                  have hAp : 0 < p.x.length → ∀ ad, p.A = some ad → ad.block ≠ bp := fun _ ad e => by
                    rw [e] at htxA
                    have := (own_addr htxA).2
                    omega
                  have hms : ∀ a ∈ mm, 0 ≤ a.s ∧ a.s ≤ 65535 := fun a ha => by
                    obtain ⟨b, hb, e⟩ := HS.out.mem ha
                    obtain ⟨_, e2, _⟩ := core_eq e
                    obtain ⟨g, hg, hbg⟩ := List.mem_flatten.1 (HI.out.sub b hb)
                    obtain ⟨i', hi', rfl⟩ := List.getElem_of_mem hg
                    obtain ⟨seq', hcc⟩ := HC.out.cut i' hi' (by have := HGE.out; omega)
                    obtain ⟨kk, hkk, e3⟩ := List.getElem_of_mem hbg
                    have h4 := (hcc.flds kk hkk).2.1
                    rw [e3] at h4
                    have := hcc.hs
                    omega
                  have hlr := HS.out.len
                  have hput := put_calls WB bp mb n mm p HBN.out (by omega) (by omega) hok hAp (by have := HH.out; omega) hps hms
                  obtain ⟨hi', hI2, her, hor⟩ := mix_step HMX.out HI.out (rem' := rid rm nn) hmem (fun c => by rw [rid_mem HI.out.rn hnn, hc]) (rid_nodup HI.out.rn) (by omega)
                  have hil : i < l.length := by have := HGE.out; omega
                  obtain ⟨mi, hmi⟩ : ∃ mi, l[i] = mi := ⟨_, rfl⟩
                  have hor2 : (0 < leftN (rid rm nn) i ∧ (outP r p).ok = false) ∨ (leftN (rid rm nn) i = 0 ∧ (outP r p).ok = true ∧ (outP r p).s = mi.s ∧ (outP r p).u = mi.u ∧ (outP r p).x = mi.x) := by
                    rcases hor with ⟨⟨p', hp'⟩, h2⟩ | ⟨h1, h2, h3⟩
                    · refine .inl ⟨?_, h2⟩
                      rcases Nat.eq_zero_or_pos (leftN (rid rm nn) i) with h0 | h0
                      · exact absurd hp' (leftN_zero.1 h0 p')
                      · exact h0
                    · rw [HC.out.whole i hi hil, hmi] at h3
                      simp only [Option.some.injEq, Prod.mk.injEq] at h3
                      exact .inr ⟨leftN_zero.2 h1, h2, h3.1.symm, h3.2.1.symm, h3.2.2.symm⟩
                  obtain ⟨y0, y1, y2, y3, y4, y5, y6⟩ := HR3.out.piece nn (by rw [List.length_map]; exact hnn)
                  rw [List.getElem_map, hc] at y0 y1 y2 y3 y4 y5 y6
                  dsimp only at y0 y1 y2 y3 y4 y5 y6
                  have HPUT := hid hput
                  have HI2 := hid hI2
                  have HOR := hid hor2
                  have HMIE := hid hmi
                  have HER := hid her
                  have HCE := hid hc
                  have HTA := hid htxA
                  have HPU := hid hpu
                  have HPG := hid hpg
                  have hhr := outP_held (p := p) (show held r ≤ 2000 by rw [← HS.out.held]; exact HH.out)
                  have HHR := hid hhr
                  have horl := outP_len (r := r) (p := p)
                  clear hput hI2 hor hor2 hmi her hc hmem hpi hpg htxA htxB hok hAp hms hpr hps hpu hhr hi'
                  obtain ⟨o, ho⟩ : ∃ o, o = outP r p := ⟨_, rfl⟩
                  rw [← ho] at HI2 HOR HER HHR horl
                  have HO2 := hid ho
                  clear ho
                  have HVP : Hid (p.val = .agg #[.int .u32 p.t, .int .u16 p.s, .int .u16 p.q, .bool p.b, .bool p.e, .bool p.u, .slice p.A p.x.length p.c]) := hid rfl
                  go_upto_region 33 with (go_at_call 14; rw [← HVP.out]; go_must (refine HPUT.out.mono ?_; rintro e W5 ⟨hm5, hpp⟩; obtain ⟨m', n', A5, c5', he, hB5, hn5, hs5, ht5, hnil5, hfr5, hmm5⟩ := put_out hpp HBN.out HS.out rfl HPU.out (by omega); rw [← HO2.out] at he hs5 ht5; rw [HER.out, errV_zero] at he; subst he; have HM5 := hid hm5; have HB5 := hid hB5; have HS5 := hid hs5; have HT5 := hid ht5; have HNIL5 := hid hnil5; have HFR5 := hid hfr5; have HMM5 := hid hmm5; clear hm5 hpp hB5 hs5 ht5 hnil5 hfr5 hmm5))
                  have hz5 := HM5.out.size
                  obtain ⟨W6, hW6⟩ : ∃ W6, W6 = W5.alloc (.cells #[.int .i64 o.s, .bool o.u, .slice A5 o.x.length c5', .int .u16 o.q] 45) := ⟨_, rfl⟩
                  have hz6 : W6.heap.size = W5.heap.size + 1 := by rw [hW6]; simp
                  have hb56 : Below W5.heap.size W5 W6 := by rw [hW6]; exact below_alloc (Below.refl _ _) _
                  have hmb6 : MB W6 W5.heap.size o.s o.u A5 o.x.length c5' := by
                    rw [hW6]
                    exact ⟨by rw [cell_new1 _ _ _ _ rfl]; rfl, by rw [cell_new1 _ _ _ _ rfl]; rfl, by rw [cell_new1 _ _ _ _ rfl]; rfl, fun i => froz_new1 _ _ _ _ rfl _⟩
                  rw [← hW6]
                  have hr36 : Rd W6 g3 (cellsP (rm.map (·.1))) := (HR3.out.mv HM5.out h3n.1 h3n.2.1).below hb56
                  have hr46 : Rd W6 g4 (ints (rm.map (·.2))) := (HR4.out.mv HM5.out h4n.1 h4n.2.1).below hb56
                  have hr56 : W6.ownsRow w1.heap.size 3 1 (.slice (some ⟨g5, 0, none⟩) gs.length c5) gs.length (ints (leftV gs.length rm)) := Base.ownsRow_later (own_blk HR5.out (HM5.out.block g5 (own_base HR5.out rfl).2 (by omega) (by omega))) hb56
                  have hg6 : WA.grownBy W6 (some g5) := grown_below2 (grown_mv HG.out HM5.out (by omega) (by omega)) hb56
                  have hlv := leftN_rid hnn i
                  rw [HCE.out, if_pos rfl] at hlv
                  have hbound : leftN rm i ≤ 1000000 := Nat.le_trans List.countP_le_length (by omega)
                  have k4 := hr46.num nn (by rw [List.length_map]; exact hnn)
                  rw [List.getElem_map, HCE.out] at k4
                  dsimp only at k4
                  have k5 : W6.cell? ⟨g5, i, none⟩ = some (.int .i64 (leftN rm i : Nat)) := by
                    have := hr56.cells (g := g5) rfl i _ (ints_at gs.length rm i hi)
                    rwa [add0] at this
                  have kf := own_fr hr56 i
                  have hbn6 := HB5.out.below hb56
                  have HR36 := hid hr36
                  have HR46 := hid hr46
                  have HR56 := hid hr56
                  have HG6 := hid hg6
                  have HMB6 := hid hmb6
                  have HBN6 := hid hbn6
                  have HB56 := hid hb56
                  have HLV := hid hlv
                  clear hW6 hr36 hr46 hr56 hg6 hmb6 hbn6 hb56 hlv y0 y1 y2 y3 y4 y5 y6 x0 x1 x2 x3 x4
                  go_upto_region 34 with fail
                  obtain ⟨W7, hW7⟩ : ∃ W7, W7 = W6.setCell ⟨g5, i, none⟩ (.int .i64 (leftN (rid rm nn) i : Nat)) := ⟨_, rfl⟩
                  rw [show ((leftN rm i : Nat) : Int) - 1 = ((leftN (rid rm nn) i : Nat) : Int) by have := HLV.out; omega, ← hW7]
                  have hst := World.ownsRow.stored HR56.out i (.int .i64 (leftN (rid rm nn) i : Nat))
                  have hgs := hst.2
                  have hr57 := hst.1
                  have hlr2 := leftV_rid gs.length rm nn hnn
                  rw [HCE.out] at hlr2
                  dsimp only at hlr2
                  rw [← hlr2] at hr57
                  rw [← hW7] at hr57 hgs
                  have hz7' := hgs.size
                  have hr37 : Rd W7 g3 (cellsP (rm.map (·.1))) := HR36.out.grown hgs (fun e => h3n.2.2 (Option.some.inj e))
                  have hr47 : Rd W7 g4 (ints (rm.map (·.2))) := HR46.out.grown hgs (fun e => h4n.2.2 (Option.some.inj e))
                  have hg7 : WA.grownBy W7 (some g5) := grown_same HG6.out hgs
                  have hmb7 : MB W7 W5.heap.size o.s o.u A5 o.x.length c5' := HMB6.out.block (hgs.block _ (by omega) (fun e => by have := Option.some.inj e; omega))
                  have hbn7 : Bn W7 bp mb n' m' := HBN6.out.row hgs (fun e => by have := Option.some.inj e; omega) (fun e => by have := Option.some.inj e; omega) (fun q hq => by rw [hW7]; exact (HBN6.out.ok q hq).set k5 _)
                  have ht7 : Txt W7 A5 o.x := (HT5.out.below HB56.out).row hgs (fun _ ad e e2 => by have := HFR5.out ad e; have := Option.some.inj e2; omega)
                  have he7 : Below w.heap.size w W7 := HB0A.out.grown hg7 HB0A.out.size (fun k e => by cases e; omega)
                  have hxb7 : XB W7 w.heap.size Al l.length cl tsn seq z Ao ord.length co := (HX1.out.below HBW.out).block (hg7.block _ (by omega) (fun e => by cases e; omega))
                  have k47 := hr47.num nn (by rw [List.length_map]; exact hnn)
                  rw [List.getElem_map, HCE.out] at k47
                  dsimp only at k47
                  have k57 : W7.cell? ⟨g5, i, none⟩ = some (.int .i64 (leftN (rid rm nn) i : Nat)) := by
                    have := hr57.cells (g := g5) rfl i _ (ints_at gs.length (rid rm nn) i hi)
                    rwa [add0] at this
                  have hlr7 := HL.out.below he7
                  obtain ⟨lf, hlf⟩ : ∃ lf, leftN (rid rm nn) i = lf := ⟨_, rfl⟩
                  rw [hlf] at k57
                  have hor := HOR.out
                  rw [hlf] at hor
                  obtain ⟨okb, hokb⟩ : ∃ okb, o.ok = okb := ⟨_, rfl⟩
                  rw [hokb] at hor ⊢
                  have HOR7 := hid hor
                  have HR37 := hid hr37
                  have HR47 := hid hr47
                  have HR57 := hid hr57
                  have HG7 := hid hg7
                  have HMB7 := hid hmb7
                  have HBN7 := hid hbn7
                  have HT7 := hid ht7
                  have HE7 := hid he7
                  have HXB7 := hid hxb7
                  have HLR7 := hid hlr7
                  have K47 := hid k47
                  have K57 := hid k57
                  clear hW7 hst hr57 hgs hlr2 hr37 hr47 hg7 hmb7 hbn7 ht7 he7 hxb7 k47 k57 hlr7 hlf hor k4 k5 kf hokb
                  go_cut [170] (fun v170 wx => v170 = .bool false ∧ Hid (Below W7.heap.size W7 wx))
                  case first =>
                    rcases HOR7.out with ⟨hl0, rfl⟩ | ⟨rfl, rfl, hs, hu, hx⟩
                    · have hd3 : (((lf : Nat) : Int) == 0) = false := beq_zero_false hl0
                      clear hl0
                      have HS7 : Hid (∀ X, Below W7.heap.size W7 X → Below W7.heap.size W7 X ∧ X.cell? ⟨g4, nn, none⟩ = some (.int .i64 (i : Nat)) ∧ X.cell? ⟨g5, i, none⟩ = some (.int .i64 (lf : Nat)) ∧ X.cell? ⟨w.heap.size, 0, none⟩ = some (.slice Al l.length cl) ∧ X.cell? ⟨W5.heap.size, 0, none⟩ = some (.int .i64 o.s) ∧ X.cell? ⟨W5.heap.size, 1, none⟩ = some (.bool o.u) ∧ X.cell? ⟨W5.heap.size, 2, none⟩ = some (.slice A5 o.x.length c5')) := hid fun X hX => by
                        obtain ⟨m0, m1, m2, _⟩ := HMB7.out.below hX
                        exact ⟨hX, (hX.cell (p := ⟨g4, nn, none⟩) (HR47.out.lt)).trans K47.out, (hX.cell (p := ⟨g5, i, none⟩) (own_base HR57.out rfl).2).trans K57.out, (HXB7.out.below hX).c0, m0, m1, m2⟩
                      clear HS7
                      have k4 := K47.out
                      have k5 := K57.out
                      go_quiet (fail)
                      go_wp2
                      go_meet
                      case rel => exact ⟨by first | rfl | simp, hid (Below.drewN' (Below.refl _ _) _)⟩
                    · obtain ⟨ad, rfl, hbl, q0, q1, q2⟩ := HLR7.out.at i (by have := HGE.out; omega)
                      rw [HMIE.out] at q0 q1 q2
                      have hmin := HLR7.out.inp mi (by rw [← HMIE.out]; exact List.getElem_mem _)
                      have hmb := HMB7.out
                      have ht7 := HT7.out
                      rw [hs, hu, hx] at hmb
                      rw [hx] at ht7
                      have HMBm := hid hmb
                      have hbl2 : (ad.add (i * 3)).block < W7.heap.size := by rw [add_block]; exact hbl
                      have hcl := HLR7.out.cap
                      have H15 : Hid (∀ X b1 cc, Below W7.heap.size W7 X → MB X b1 mi.s mi.u A5 mi.x.length c5' → Calls Try.prog 15 #[.slice (some ⟨b1, 0, none⟩) 1 1, .slice (some (ad.add (i * 3))) 1 cc] X fun e w' => e = .returned (.bool true) ∧ ∃ n, w' = X.drewN n) := hid fun X b1 cc hX h1 =>
                        msg1a_calls X b1 (ad.add (i * 3)) cc mi.s mi.u mi.x A5 mi.A c5' mi.c h1 ((hX.cell (p := ad.add (i * 3)) hbl2).trans q0) ((hX.cell (p := ⟨(ad.add (i * 3)).block, (ad.add (i * 3)).off + 1, none⟩) hbl2).trans q1) ((hX.cell (p := ⟨(ad.add (i * 3)).block, (ad.add (i * 3)).off + 2, none⟩) hbl2).trans q2) (ht7.below hX) (hmin.txt.below hX) HNIL5.out hmin.nil hmin.by_
                      have hil2 : i < l.length := by have := HGE.out; omega
                      have hil3 : i + 1 ≤ cl := by omega
                      have hil4 : (i : Int) + 1 ≤ (cl : Int) := by omega
                      have hil5 : ((i : Int) + 1).toNat = i + 1 := by omega
                      have hil6 : IntKind.i64.wrap ((i : Int) + 1) = (i : Int) + 1 := wrap_succ i (by omega)
                      have hil7 : (0 : Int) ≤ (i : Int) := by omega
                      have hil8 : (i : Int) ≤ (i : Int) + 1 := by omega
                      have hil9 : ¬ cl = i := by omega
                      have HS7 : Hid (∀ X, Below W7.heap.size W7 X → Below W7.heap.size W7 X ∧ X.cell? ⟨g4, nn, none⟩ = some (.int .i64 (i : Nat)) ∧ X.cell? ⟨g5, i, none⟩ = some (.int .i64 ((0 : Nat) : Int)) ∧ X.cell? ⟨w.heap.size, 0, none⟩ = some (.slice (some ad) l.length cl) ∧ X.cell? ⟨W5.heap.size, 0, none⟩ = some (.int .i64 mi.s) ∧ X.cell? ⟨W5.heap.size, 1, none⟩ = some (.bool mi.u) ∧ X.cell? ⟨W5.heap.size, 2, none⟩ = some (.slice A5 mi.x.length c5')) := hid fun X hX => by
                        obtain ⟨m0, m1, m2, _⟩ := HMBm.out.below hX
                        exact ⟨hX, (hX.cell (p := ⟨g4, nn, none⟩) (HR47.out.lt)).trans K47.out, (hX.cell (p := ⟨g5, i, none⟩) (own_base HR57.out rfl).2).trans K57.out, (HXB7.out.below hX).c0, m0, m1, m2⟩
                      obtain ⟨_, s0, s1, s2, s3, s4, s5⟩ := HS7.out W7 (Below.refl _ _)
                      clear q0 q1 q2 hmin hs hu hx hmb ht7
                      go_region_held3 (fun X => Below W7.heap.size W7 X ∧ X.cell? ⟨g4, nn, none⟩ = some (.int .i64 (i : Nat)) ∧ X.cell? ⟨g5, i, none⟩ = some (.int .i64 ((0 : Nat) : Int)) ∧ X.cell? ⟨w.heap.size, 0, none⟩ = some (.slice (some ad) l.length cl) ∧ X.cell? ⟨W5.heap.size, 0, none⟩ = some (.int .i64 mi.s) ∧ X.cell? ⟨W5.heap.size, 1, none⟩ = some (.bool mi.u) ∧ X.cell? ⟨W5.heap.size, 2, none⟩ = some (.slice A5 mi.x.length c5')) ((refine HS7.out _ ?_; repeat (first | assumption | exact Below.refl _ _ | refine Below.drew ?_ | refine below_alloc ?_ _))) (first
                        | (go_at_call 15; refine (H15.out _ _ _ (by repeat (first | assumption | exact Below.refl _ _ | refine Below.drew ?_ | refine below_alloc ?_ _)) (by first | exact (MB.new' W7 _ _ _ _ _ _ rfl).below (Below.drew (Below.refl _ _)) | exact MB.new' W7 _ _ _ _ _ _ rfl)).mono ?_; rintro e w9 ⟨rfl, hw9⟩; have hb15 : Below W7.heap.size W7 w9 := (by obtain ⟨nq9, hw9⟩ := hw9; rw [hw9]; refine Below.drewN' ?_ _; repeat (first | assumption | exact Below.refl _ _ | refine Below.drew ?_ | refine below_alloc ?_ _)); clear hw9))
                      all_goals
                        have HBNN := hid hb15
                        go_wp2
                        go_meet
                        case rel => exact ⟨by first | rfl | simp, HBNN⟩
                  case rest =>
                    obtain ⟨rfl, HWC⟩ := hcut
                    obtain ⟨i3, h3i, h30, h31, h32⟩ := info_parts info40
                    obtain ⟨i4, h4i, h40, h41, h42⟩ := info_parts info3
                    have hzc := HWC.out.size
                    have hbx : ∀ X, wc.grownBy X none → Rd X g3 (cellsP (rm.map (·.1))) ∧ Rd X g4 (ints (rm.map (·.2))) := fun X hX => ⟨(HR37.out.below HWC.out).below (below_none hX), (HR47.out.below HWC.out).below (below_none hX)⟩
                    have HRX := hid hbx
                    have HO3 : Hid (∀ X, wc.grownBy X none → Rd X g3 (cellsP ((rm.take nn).map (·.1)))) := hid fun X hX => by
                      have h := ((HRX.out X hX).1).take (nn * 7)
                      refine ⟨h.lt, fun j u hj => ?_⟩
                      rw [List.map_take] at hj
                      exact (HRX.out X hX).1.at_ j u (cellsP_take _ _ j u hj)
                    have HO4 : Hid (∀ X, wc.grownBy X none → Rd X g4 (ints ((rm.take nn).map (·.2)))) := hid fun X hX => by
                      have h := ((HRX.out X hX).2).take nn
                      unfold ints at h ⊢
                      rw [List.map_take, List.map_take]
                      exact h
                    have HN3 : Hid (∀ X, wc.grownBy X none → ∀ j u, (cellsP ((rm.drop (nn + 1)).map (·.1)))[j]? = some u → X.cell? ((tlA g3 c3 (nn + 1) 7).add j) = some u) := hid fun X hX j u hj => by
                      rw [List.map_drop] at hj
                      have hj2 := cellsP_drop (rm.map (·.1)) (nn + 1) (by rw [List.length_map]; omega) j u hj
                      have hlt := (List.getElem?_eq_some_iff.1 hj2).1
                      rw [cellsP_len, List.length_map] at hlt
                      unfold tlA
                      rw [if_neg (by omega), add_addN, add0]
                      exact (HRX.out X hX).1.at_ _ u hj2
                    have HN4 : Hid (∀ X, wc.grownBy X none → ∀ j u, (ints ((rm.drop (nn + 1)).map (·.2)))[j]? = some u → X.cell? ((tlA g4 c4 (nn + 1) 1).add j) = some u) := hid fun X hX j u hj => by
                      have h := ((HRX.out X hX).2).drop (g := g4) (c := c4) (n := nn + 1) (s := 1) (by unfold ints; rw [List.length_map, List.length_map]; omega) j u
                      unfold ints at h hj
                      rw [List.map_drop, List.map_drop] at hj
                      rw [Nat.mul_one] at h
                      exact h hj
                    have HE3 : Hid (cellsP ((rid rm nn).map (·.1)) = cellsP ((rm.take nn).map (·.1)) ++ cellsP ((rm.drop (nn + 1)).map (·.1))) := hid (by unfold rid; rw [List.map_append, cellsP_app])
                    have HE4 : Hid (ints ((rid rm nn).map (·.2)) = ints ((rm.take nn).map (·.2)) ++ ints ((rm.drop (nn + 1)).map (·.2))) := hid (by unfold rid; rw [List.map_append, ints_app])
                    have HF : Hid (∀ Z, wc.grownBy Z none → Z.ownsRow w1.heap.size 3 1 (.slice (some ⟨g5, 0, none⟩) gs.length c5) gs.length (ints (leftV gs.length (rid rm nn))) ∧ WA.grownBy Z (some g5) ∧ Bn Z bp mb n' m') := hid fun Z hZ => ⟨Base.ownsRow_later (Base.ownsRow_later HR57.out HWC.out) (below_none hZ), grown_trans0 (grown_below2 HG7.out HWC.out) hZ, (HBN7.out.below HWC.out).below (below_none hZ)⟩
                    go_upto_region 36 with fail
                    have hw1 : IntKind.i64.wrap ((nn : Int) + 1) = (nn : Int) + 1 := wrap_succ nn (by omega)
                    have hw2 : (0 : Int) ≤ (nn : Int) := by omega
                    have hw9 : (0 : Int) ≤ (nn : Int) + 1 := by omega
                    have hw3 : (nn : Int) + 1 ≤ (rm.length : Int) := by omega
                    have hw4 : (nn : Int) ≤ (c3 : Int) := by omega
                    have hw5 : (nn : Int) ≤ (c4 : Int) := by omega
                    have hw6 : ((nn : Int) + 1).toNat = nn + 1 := by omega
                    have hw7 : (rm.length : Int) ≤ (c3 : Int) := by omega
                    have hw8 : (rm.length : Int) ≤ (c4 : Int) := by omega
                    have hl3 : (cellsP ((rm.take nn).map (·.1))).length = nn * 7 := by rw [cellsP_len, List.length_map, List.length_take, Nat.min_eq_left (by omega)]
                    have hl4 : (ints ((rm.take nn).map (·.2))).length = nn * 1 := by unfold ints; rw [List.length_map, List.length_map, List.length_take, Nat.min_eq_left (by omega), Nat.mul_one]
                    have hm3 : (cellsP ((rm.drop (nn + 1)).map (·.1))).length = (rm.length - (nn + 1)) * 7 := by rw [cellsP_len, List.length_map, List.length_drop]
                    have hm4 : (ints ((rm.drop (nn + 1)).map (·.2))).length = (rm.length - (nn + 1)) * 1 := by unfold ints; rw [List.length_map, List.length_map, List.length_drop, Nat.mul_one]
                    have HL3 := hid hl3
                    have HL4 := hid hl4
                    have HM3 := hid hm3
                    have HM4 := hid hm4
                    clear hl3 hl4 hm3 hm4 hbx
                    have hg0 : wc.grownBy wc none := World.grownBy.refl _ _
                    go_region_law (first
                      | (refine step_appR rfl (.tmp 174) (.tmp 178) 31 rfl 40 i3 zP 7 40 Try.underlying31 h3i h30 h31 h32 rfl (by decide) (by decide) g3 nn (cellsP ((rm.take nn).map (·.1))) (by simp [Act.eval, Act.put]) HL3.out (HO3.out _ (by first | assumption | exact grown_none_drew (by assumption))) (tlA g3 c3 (nn + 1) 7) (rm.length - (nn + 1)) (c3 - (nn + 1)) (cellsP ((rm.drop (nn + 1)).map (·.1))) (by simp [Act.eval, Act.put]; unfold tlA; split <;> first | rfl | (simp [add0])) HM3.out (HN3.out _ (by first | assumption | exact grown_none_drew (by assumption))) (by omega) ?_
                         intro ga3 ca3 wa3 hra3 hca3 hga3 hea3
                         have hg3a := grown_trans0 (row := none) (by first | assumption | exact grown_none_drew (by assumption)) hga3)
                      | (refine step_appR rfl (.tmp 183) (.tmp 187) 27 rfl 3 i4 (.int .i64 0) 1 8 Try.underlying27 h4i h40 h41 h42 rfl (by decide) (by decide) g4 nn (ints ((rm.take nn).map (·.2))) (by simp [Act.eval, Act.put]) HL4.out (HO4.out _ (by first | assumption | exact grown_none_drew (by assumption))) (tlA g4 c4 (nn + 1) 1) (rm.length - (nn + 1)) (c4 - (nn + 1)) (ints ((rm.drop (nn + 1)).map (·.2))) (by simp [Act.eval, Act.put]; unfold tlA; split <;> first | rfl | (simp [add0])) HM4.out (HN4.out _ (by first | assumption | exact grown_none_drew (by assumption))) (by omega) ?_
                         intro ga4 ca4 wa4 hra4 hca4 hga4 hea4
                         have hg4a := grown_trans0 (row := none) (by first | assumption | exact grown_none_drew (by assumption)) hga4)
                      | fail)
                    all_goals
                      have hd0 : wc.drew.heap.size = wc.heap.size := rfl
                      have hd3 : wa3.drew.heap.size = wa3.heap.size := rfl
                      have hd4 : wa4.drew.heap.size = wa4.heap.size := rfl
                      have hs3 := hg3a.size
                      have hs4 := hg4a.size
                      have hs33 := hga3.size
                      have hs44 := hga4.size
                      have hrid := rid_len rm nn hnn
                      have hlenz : nn + (rm.length - (nn + 1)) = (rid rm nn).length := by omega
                      have HLZ := hid hlenz
                      have HRA3 := hid hra3
                      have HRA4 := hid hra4
                      have HGA3 := hid hga3
                      have HGA4 := hid hga4
                      have HG3A := hid hg3a
                      have HG4A := hid hg4a
                      have hbl7 := HBN7.out.lt
                      have hgl7 := (own_base HR57.out rfl).2
                      have hml : m'.length ≤ k + 1 := by have := HS5.out.len; omega
                      have hhm : held m' ≤ 2000 := by rw [HS5.out.held]; exact HHR.out
                      have HHM := hid hhm
                      clear hra3 hra4 hga3 hga4 hg3a hg4a hlenz hg0 hhm
                      go_wp2
                      go_roundw
                      case rel =>
                        refine ⟨rid rm nn, k + 1, n', ga3, ca3, ga4, ca4, m', o.r, by rw [HLZ.out], by rw [HLZ.out], by simp, by omega, by have := HLZ.out; omega, by have := HLZ.out; omega, by omega, hml, by omega, by omega, by omega, hid ?r3, hid ?r4, hid (HF.out _ ?g1).1, hid (HF.out _ ?g1).2.1, hid (HF.out _ ?g1).2.2, HS5, HI2, HHM⟩
                        case g1 => first | exact HG4A.out | exact HG3A.out | exact grown_none_drew HG4A.out | exact grown_none_drew HG3A.out
                        case r3 =>
                          rw [HE3.out]
                          first | exact HRA3.out | exact HRA3.out.below (below_none HGA4.out) | exact HRA3.out.below (Below.drew (below_none HGA4.out)) | exact HRA3.out.below (Below.drew (Below.refl _ _))
                        case r4 =>
                          rw [HE4.out]
                          first | exact HRA4.out | exact HRA4.out.below (below_none HGA3.out) | exact HRA4.out.below (Below.drew (below_none HGA3.out)) | exact HRA4.out.below (Below.drew (Below.refl _ _))
                      case measure =>
                        have := HLZ.out
                        simp [lenV]
                        omega
              · have hr0' : rm = [] := List.eq_nil_of_length_eq_zero (by omega)
                subst hr0'
                have hr1 := HI.out.last HMX.out
                subst hr1
                have hm0 : mm = [] := by
                  have := HS.out.len
                  exact List.eq_nil_of_length_eq_zero this
                subst hm0
                have HE : Hid (Below w.heap.size w WB) := hid (HB0A.out.grown HG.out HB0A.out.size (fun k e => by cases e; omega))
                go_wp2_with (first
                  | (go_at_call 16; go_must (refine (len_calls _ _ _ _ _ HBN.out).mono ?_; rintro e w' ⟨rfl, rfl⟩))
                  | (go_at_call 17; go_must (refine (held_calls _ _ _ _ _ HBN.out).mono ?_; rintro e w' ⟨rfl, rfl⟩)))
                go_ret
                exact ⟨rfl, HE.out⟩
end Go.Proofs.Ythoammfpjheodaa.Rz
