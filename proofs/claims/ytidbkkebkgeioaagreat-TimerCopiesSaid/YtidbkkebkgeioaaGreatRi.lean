import Derived.Test.YtidbkkebkgeioaaGreatRh
namespace Go.Proofs.YtidbkkebkgeioaaGreat.En
open Go.ChangeShapes Go.WideShapes Go.ChangeAt Go.RowKit Go.Shelf MK
open Base (hid cell_new1 cell_old1 froz_new1 froz_old1)
open TmA
open TmR (Row Row.below)
attribute [local go_sem] Oper.semAt_some
set_option linter.unusedVariables false
set_option linter.unusedSimpArgs false
set_option maxRecDepth 100000
theorem cell_not_map {w : World} {bt b n : Nat} {m : Tm.M} {a : Addr} {v : Value} (h : w.cell? a = some v) (hT : Tab w bt b n m) : some a.block ≠ some b := by
  intro e
  obtain ⟨D, ⟨es, clock, hbm, _⟩, _⟩ := hT.map
  have e' : a.block = b := by simpa using e
  subst e'
  simp [World.cell?, hbm] at h
theorem row_kept {w w' : World} {A : Option Addr} {l : List TmR.Act} {bt b n : Nat} {m : Tm.M} (h : Row w A l) (hT : Tab w bt b n m) (hg : w.grownBy w' (some b)) : Row w' A l := by
  intro i hi
  obtain ⟨ad, e, c0, c1, c2⟩ := h i hi
  exact ⟨ad, e, hg.cell c0 (cell_not_map c0 hT), hg.cell c1 (cell_not_map c1 hT), hg.cell c2 (cell_not_map c2 hT)⟩
theorem Row.at {w : World} {a : Option Addr} {l : List TmR.Act} (h : Row w a l) (i : Nat) (hi : i < l.length) (p : TmR.Act) (hp : l[i] = p) : ∃ ad, a = some ad ∧ w.cell? (ad.add (i * 3)) = some (.int .i64 p.f0) ∧ w.cell? ⟨(ad.add (i * 3)).block, (ad.add (i * 3)).off + 1, none⟩ = some (.int .i64 p.f1) ∧ w.cell? ⟨(ad.add (i * 3)).block, (ad.add (i * 3)).off + 2, none⟩ = some (.int .i64 p.f2) := by
  subst hp
  exact h i hi
theorem grown_alloc {w wr : World} {row : Option Nat} (h : w.grownBy wr row) (o : Obj) : w.grownBy (wr.alloc o) row := h.trans (grown_below (below_alloc (Below.refl _ _) o) (World.grownBy.refl _ _))
theorem stop_len (m : Tm.M) (hok : Tm.Ok m) (k : Int) : ((Tm.look m k).isSome == decide (((Tm.del m k).length : Int) < (m.length : Int))) = true := by
  have := Tm.length_del hok k
  cases h : (Tm.look m k).isSome with
  | false =>
    rw [h] at this
    have e : decide (((Tm.del m k).length : Int) < (m.length : Int)) = false := by
      rw [decide_eq_false_iff_not]
      simp at this
      omega
    rw [e]
    rfl
  | true =>
    rw [h, if_pos rfl] at this
    have e : decide (((Tm.del m k).length : Int) < (m.length : Int)) = true := by
      rw [decide_eq_true_iff]
      omega
    rw [e]
    rfl
set_option maxHeartbeats 16000000 in
theorem play_calls (w : World) (bt b n0 : Nat) (m0 : Tm.M) (A0 : Option Addr) (c0 : Nat) (As : Option Addr) (cs : Nat) (l : List TmR.Act) (hT : Tab w bt b n0 m0) (hO : Own w 0 A0 c0 m0) (hm : m0.length ≤ n0) (hn : n0 ≤ 1000) (hr : Row w As l) (hw : ∀ p ∈ l, I64 p.f1 ∧ I64 p.f2) (h60 : l.length ≤ 60) :
    Calls Tryz.prog 7 #[.pointer (some ⟨bt, 0, none⟩), .slice A0 m0.length c0, .slice As l.length cs] w fun e w' => ∃ A c m n, e = .returned (.tuple #[.slice A m.length c, .bool true]) ∧ Tab w' bt b n m ∧ Own w' 0 A c m ∧ m.length ≤ n ∧ n ≤ n0 + 60 ∧ w.grownBy w' (some b) := by
  have HT := hid hT
  have HO := hid hO
  have HR := hid hr
  have HW := hid hw
  clear hT hO hr hw
  go_enter Tryz.func7, Tryz.ntmps7
  go_wp2
  go_loopw [1, 25] (fun v1 v25 wr => ∃ (i n : Nat) (m : Tm.M) (A : Option Addr) (c : Nat) (k : Nat), i ≤ l.length ∧ v1 = .slice A k c ∧ v25 = .int .i64 i ∧ n ≤ n0 + i ∧ Hid (k = m.length) ∧ Hid (Tab wr bt b n m) ∧ Hid (Own wr 0 A c m) ∧ Hid (m.length ≤ n) ∧ Hid (w.grownBy wr (some b))) (fun _ v25 _ => l.length - (intOf v25).toNat)
  case atStart => exact ⟨0, n0, m0, A0, c0, m0.length, Nat.zero_le _, rfl, rfl, by omega, hid rfl, HT, HO, hid hm, hid (World.grownBy.refl _ _)⟩
  case round =>
    obtain ⟨i, n, m, A, c, k, hil, rfl, rfl, hni, HK, HT1, HO1, HL, HG⟩ := hrel
    obtain rfl := HK.out
    have hml := HL.out
    clear HK
    by_cases hlt : i < l.length
    · obtain ⟨p, hp⟩ : ∃ p, l[i] = p := ⟨_, rfl⟩
      obtain ⟨ad, rfl, a0, a1, a2⟩ := Row.at (row_kept HR.out HT.out HG.out) i hlt p hp
      have HPW := hid (HW.out p (hp ▸ List.getElem_mem hlt))
      have HTa : Hid (Tab (wr.alloc (.cells #[.int .i64 p.f0, .int .i64 p.f1, .int .i64 p.f2] 57)) bt b n m) := hid (HT1.out.below (below_alloc (Below.refl _ _) _))
      have HOa : Hid (Own (wr.alloc (.cells #[.int .i64 p.f0, .int .i64 p.f1, .int .i64 p.f2] 57)) 0 A c m) := hid (Base.ownsRow_later HO1.out (below_alloc (Below.refl _ _) _))
      have HGa : Hid (w.grownBy (wr.alloc (.cells #[.int .i64 p.f0, .int .i64 p.f1, .int .i64 p.f2] 57)) (some b)) := hid (grown_alloc HG.out _)
      have hbk : b ≠ wr.heap.size := by have := HT1.out.lt.2; omega
      clear hp
      by_cases k0 : p.f0 = 0
      · have d0 : (p.f0 == 0) = true := by simpa using k0
        have K0 := hid k0
        clear k0
        by_cases hv : 0 ≤ p.f2 ∧ p.f2 ≤ 4611686018427387904
        · have HV := hid hv
          have hpl := Tm.length_put HT1.out.ok p.f1 p.f2
          have hpl2 : (Tm.put m p.f1 p.f2).length ≤ n + 1 := by split at hpl <;> omega
          clear hv hpl
          go_wp2_with fail
          refine (TmA.set_ok _ bt b n m p.f1 p.f2 HTa.out HPW.out.1 (by omega) HV.out).mono ?_
          rintro e w3 ⟨rfl, hT3, ht3⟩
          have HT3 := hid hT3
          have HO3 : Hid (Own w3 0 A c m) := hid (own_kept HOa.out HTa.out ht3.grown)
          have HG3 : Hid (w.grownBy w3 (some b)) := hid (HGa.out.trans ht3.grown)
          have e0 : w3.cell? ⟨wr.heap.size, 0, none⟩ = some (.int .i64 p.f0) := (ht3.grown).cell (cell_new1 _ _ _ _ rfl 0) (fun e => hbk (by cases e; rfl))
          have e1 : w3.cell? ⟨wr.heap.size, 1, none⟩ = some (.int .i64 p.f1) := (ht3.grown).cell (cell_new1 _ _ _ _ rfl 1) (fun e => hbk (by cases e; rfl))
          have e2 : w3.cell? ⟨wr.heap.size, 2, none⟩ = some (.int .i64 p.f2) := (ht3.grown).cell (cell_new1 _ _ _ _ rfl 2) (fun e => hbk (by cases e; rfl))
          clear hT3 ht3
          go_wp2_with fail
          refine (En.set_ok A c 0 m p.f1 p.f2 w3 HO3.out (by omega) HV.out).mono ?_
          rintro e w4 ⟨A4, c4, rfl, hO4, hB4⟩
          have HOx : Hid (Own w4 0 A4 c4 (Tm.put m p.f1 p.f2)) := hid (Base.ownsRow_base hO4 (Nat.zero_le _))
          have HTx := hid (HT3.out.below hB4)
          have HGx := hid (HG3.out.trans (grown_below hB4 (World.grownBy.refl w4 (some b))))
          clear hO4 hB4 e0 e1 e2
          generalize Tm.put m p.f1 p.f2 = mx at *
          go_wp2_with (go_at_call 25; go_must (refine (num_nil _).mono ?_; rintro e w5 ⟨rfl, rfl⟩))
          have HT8 := hid (HTx.out)
          have hs8 := HGx.out.size
          go_wp2_with (go_at_call 10; go_must (refine (stands_calls _ bt b (n + 1) _ A4 c4 HTx.out HOx.out (by omega)).mono ?_; rintro e w9 ⟨rfl, hB9⟩; have HT9 := hid (HTx.out.below hB9); have HO9 := hid (Base.ownsRow_later HOx.out hB9); have HG9 := hid (HGx.out.trans (grown_below hB9 (World.grownBy.refl w9 (some b)))); clear hB9))
          go_roundw
          case rel => exact ⟨i + 1, (n + 1), _, A4, c4, _, by omega, rfl, by go_num, by omega, hid rfl, HT9, HO9, hid (by omega), HG9⟩
          case measure => simp [intOf]; omega
        · have HV := hid hv
          clear hv
          go_wp2_with fail
          refine (TmA.set_bad _ bt p.f1 p.f2 HV.out).mono ?_
          rintro e w3 ⟨rfl, rfl⟩
          go_wp2_with fail
          refine (En.set_bad A c m p.f1 p.f2 _ HV.out).mono ?_
          rintro e w4 ⟨rfl, rfl⟩
          have HOx := HOa
          have HTx := HTa
          have HGx := HGa
          go_wp2_with (go_at_call 25; go_must (refine (num_err 1 (by decide) _).mono ?_; rintro e w5 ⟨rfl, rfl⟩))
          have HT8 := hid (HTx.out)
          have hs8 := HGx.out.size
          go_wp2_with (go_at_call 10; go_must (refine (stands_calls _ bt b n _ A c HTx.out HOx.out (by omega)).mono ?_; rintro e w9 ⟨rfl, hB9⟩; have HT9 := hid (HTx.out.below hB9); have HO9 := hid (Base.ownsRow_later HOx.out hB9); have HG9 := hid (HGx.out.trans (grown_below hB9 (World.grownBy.refl w9 (some b)))); clear hB9))
          go_roundw
          case rel => exact ⟨i + 1, n, _, A, c, _, by omega, rfl, by go_num, by omega, hid rfl, HT9, HO9, hid (by omega), HG9⟩
          case measure => simp [intOf]; omega
      · have d0 : (p.f0 == 0) = false := by simpa using k0
        have K0 := hid k0
        clear k0
        by_cases k1 : p.f0 = 1
        · have d1 : (p.f0 == 1) = true := by simpa using k1
          have K1 := hid k1
          clear k1
          have hsl := stop_len m HT1.out.ok p.f1
          have hdl := del_len m p.f1
          go_wp2_with fail
          refine (TmA.stop_calls _ bt b n m p.f1 HTa.out HPW.out.1).mono ?_
          rintro e w3 ⟨rfl, hT3, ht3⟩
          have HT3 := hid hT3
          have HO3 : Hid (Own w3 0 A c m) := hid (own_kept HOa.out HTa.out ht3.grown)
          have HG3 : Hid (w.grownBy w3 (some b)) := hid (HGa.out.trans ht3.grown)
          have e0 : w3.cell? ⟨wr.heap.size, 0, none⟩ = some (.int .i64 p.f0) := (ht3.grown).cell (cell_new1 _ _ _ _ rfl 0) (fun e => hbk (by cases e; rfl))
          have e1 : w3.cell? ⟨wr.heap.size, 1, none⟩ = some (.int .i64 p.f1) := (ht3.grown).cell (cell_new1 _ _ _ _ rfl 1) (fun e => hbk (by cases e; rfl))
          have e2 : w3.cell? ⟨wr.heap.size, 2, none⟩ = some (.int .i64 p.f2) := (ht3.grown).cell (cell_new1 _ _ _ _ rfl 2) (fun e => hbk (by cases e; rfl))
          clear hT3 ht3
          go_wp2_with fail
          refine (En.stop_calls A c 0 m p.f1 w3 HO3.out (by omega)).mono ?_
          rintro e w4 ⟨A4, c4, rfl, hO4, hB4⟩
          have HOx : Hid (Own w4 0 A4 c4 (Tm.del m p.f1)) := hid (Base.ownsRow_base hO4 (Nat.zero_le _))
          have HTx := hid (HT3.out.below hB4)
          have HGx := hid (HG3.out.trans (grown_below hB4 (World.grownBy.refl w4 (some b))))
          have hdl2 : (Tm.del m p.f1).length ≤ n := by omega
          generalize hzb : (Tm.look m p.f1).isSome = zb at *
          generalize hzd : decide (((Tm.del m p.f1).length : Int) < (m.length : Int)) = zd at *
          obtain rfl : zb = zd := by simpa using hsl
          clear hO4 hB4 e0 e1 e2 hsl hdl hzb hzd
          generalize Tm.del m p.f1 = mx at *
          have hzz : (zb == zb) = true := by simp
          have HT8 := hid (HTx.out)
          have hs8 := HGx.out.size
          go_wp2_with (go_at_call 10; go_must (refine (stands_calls _ bt b n _ A4 c4 HTx.out HOx.out (by omega)).mono ?_; rintro e w9 ⟨rfl, hB9⟩; have HT9 := hid (HTx.out.below hB9); have HO9 := hid (Base.ownsRow_later HOx.out hB9); have HG9 := hid (HGx.out.trans (grown_below hB9 (World.grownBy.refl w9 (some b)))); clear hB9))
          go_roundw
          case rel => exact ⟨i + 1, n, _, A4, c4, _, by omega, rfl, by go_num, by omega, hid rfl, HT9, HO9, hid (by omega), HG9⟩
          case measure => simp [intOf]; omega
        · have d1 : (p.f0 == 1) = false := by simpa using k1
          have K1 := hid k1
          clear k1
          by_cases k2 : p.f0 = 2
          · have d2 : (p.f0 == 2) = true := by simpa using k2
            have K2 := hid k2
            clear k2
            have hdn := Tm.length_rest HT1.out.ok p.f2
            go_wp2_with fail
            refine (TmA.due_calls _ bt b n m p.f2 HTa.out (by omega)).mono ?_
            rintro e w3 ⟨v3, rfl, hv3, hT3, ht3⟩
            have HV3 := hid hv3
            have HT3 := hid hT3
            have HO3 : Hid (Own w3 0 A c m) := hid (own_kept HOa.out HTa.out ht3)
            have HG3 : Hid (w.grownBy w3 (some b)) := hid (HGa.out.trans ht3)
            have e0 : w3.cell? ⟨wr.heap.size, 0, none⟩ = some (.int .i64 p.f0) := (ht3).cell (cell_new1 _ _ _ _ rfl 0) (fun e => hbk (by cases e; rfl))
            have e1 : w3.cell? ⟨wr.heap.size, 1, none⟩ = some (.int .i64 p.f1) := (ht3).cell (cell_new1 _ _ _ _ rfl 1) (fun e => hbk (by cases e; rfl))
            have e2 : w3.cell? ⟨wr.heap.size, 2, none⟩ = some (.int .i64 p.f2) := (ht3).cell (cell_new1 _ _ _ _ rfl 2) (fun e => hbk (by cases e; rfl))
            clear hT3 ht3 hv3
            go_wp2_with fail
            refine (En.rdue_calls A c 0 m p.f2 w3 HO3.out HT1.out.ok (by omega)).mono ?_
            rintro e w4 ⟨A4, c4, v4, rfl, hv4, hO4, hB4⟩
            have HOx := hid hO4
            have HTx := hid (HT3.out.below hB4)
            have HGx := hid (HG3.out.trans (grown_below hB4 (World.grownBy.refl w4 (some b))))
            have HI := hid (ints_calls v3 v4 0 (Tm.due m p.f2) w4 (Base.ownsRow_base (Base.ownsRow_later HV3.out hB4) (Nat.zero_le _)) (Base.ownsRow_base hv4 (Nat.zero_le _)) (by omega))
            have hrl : (Tm.rest m p.f2).length ≤ n := by omega
            clear hO4 hB4 e0 e1 e2 hv4 hdn HV3
            generalize Tm.rest m p.f2 = mx at *
            go_wp2_with (go_at_call 28; go_must (refine HI.out.mono ?_; rintro e w5 ⟨rfl, q, rfl⟩))
            have hdr : Below w4.heap.size w4 (w4.drewN q) := below_drewN (Below.refl _ _) q
            have HOx : Hid (Own (w4.drewN q) 0 A4 c4 mx) := hid (Base.ownsRow_later HOx.out hdr)
            have HTx := hid (HTx.out.below hdr)
            have HGx := hid (HGx.out.trans (grown_below hdr (World.grownBy.refl (w4.drewN q) (some b))))
            clear hdr
            generalize w4.drewN q = w6 at *
            have HT8 := hid (HTx.out)
            have hs8 := HGx.out.size
            go_wp2_with (go_at_call 10; go_must (refine (stands_calls _ bt b n _ A4 c4 HTx.out HOx.out (by omega)).mono ?_; rintro e w9 ⟨rfl, hB9⟩; have HT9 := hid (HTx.out.below hB9); have HO9 := hid (Base.ownsRow_later HOx.out hB9); have HG9 := hid (HGx.out.trans (grown_below hB9 (World.grownBy.refl w9 (some b)))); clear hB9))
            go_roundw
            case rel => exact ⟨i + 1, n, _, A4, c4, _, by omega, rfl, by go_num, by omega, hid rfl, HT9, HO9, hid (by omega), HG9⟩
            case measure => simp [intOf]; omega
          · have d2 : (p.f0 == 2) = false := by simpa using k2
            have K2 := hid k2
            clear k2
            cases hs : (Tm.look m p.f1).isSome with
            | true =>
              have HS := hid hs
              have hr2 := look_range HT1.out hs
              have hdl := del_len m p.f1
              have hpl := Tm.length_put (Tm.del_ok HT1.out.ok p.f1) p.f2 (Tm.lk m p.f1)
              have hpl2 : (Tm.put (Tm.del m p.f1) p.f2 (Tm.lk m p.f1)).length ≤ n + 1 := by split at hpl <;> omega
              have HR2 := hid hr2
              clear hs hr2 hpl hdl
              go_wp2_with fail
              refine (TmA.move_ok _ bt b n m p.f1 p.f2 HTa.out HPW.out.1 HPW.out.2 (by omega) HS.out).mono ?_
              rintro e w3 ⟨rfl, hT3, ht3⟩
              have HT3 := hid hT3
              have HO3 : Hid (Own w3 0 A c m) := hid (own_kept HOa.out HTa.out ht3)
              have HG3 : Hid (w.grownBy w3 (some b)) := hid (HGa.out.trans ht3)
              have e0 : w3.cell? ⟨wr.heap.size, 0, none⟩ = some (.int .i64 p.f0) := (ht3).cell (cell_new1 _ _ _ _ rfl 0) (fun e => hbk (by cases e; rfl))
              have e1 : w3.cell? ⟨wr.heap.size, 1, none⟩ = some (.int .i64 p.f1) := (ht3).cell (cell_new1 _ _ _ _ rfl 1) (fun e => hbk (by cases e; rfl))
              have e2 : w3.cell? ⟨wr.heap.size, 2, none⟩ = some (.int .i64 p.f2) := (ht3).cell (cell_new1 _ _ _ _ rfl 2) (fun e => hbk (by cases e; rfl))
              clear hT3 ht3
              go_wp2_with fail
              refine (En.rmove_ok A c 0 m p.f1 p.f2 w3 HO3.out (by omega) HS.out HR2.out).mono ?_
              rintro e w4 ⟨A4, c4, rfl, hO4, hB4⟩
              have HOx : Hid (Own w4 0 A4 c4 (Tm.put (Tm.del m p.f1) p.f2 (Tm.lk m p.f1))) := hid (Base.ownsRow_base hO4 (Nat.zero_le _))
              have HTx := hid (HT3.out.below hB4)
              have HGx := hid (HG3.out.trans (grown_below hB4 (World.grownBy.refl w4 (some b))))
              clear hO4 hB4 e0 e1 e2
              generalize Tm.put (Tm.del m p.f1) p.f2 (Tm.lk m p.f1) = mx at *
              go_wp2_with (go_at_call 25; go_must (refine (num_nil _).mono ?_; rintro e w5 ⟨rfl, rfl⟩))
              have HT8 := hid (HTx.out)
              have hs8 := HGx.out.size
              go_wp2_with (go_at_call 10; go_must (refine (stands_calls _ bt b (n + 1) _ A4 c4 HTx.out HOx.out (by omega)).mono ?_; rintro e w9 ⟨rfl, hB9⟩; have HT9 := hid (HTx.out.below hB9); have HO9 := hid (Base.ownsRow_later HOx.out hB9); have HG9 := hid (HGx.out.trans (grown_below hB9 (World.grownBy.refl w9 (some b)))); clear hB9))
              go_roundw
              case rel => exact ⟨i + 1, (n + 1), _, A4, c4, _, by omega, rfl, by go_num, by omega, hid rfl, HT9, HO9, hid (by omega), HG9⟩
              case measure => simp [intOf]; omega
            | false =>
              have HS := hid hs
              clear hs
              go_wp2_with fail
              refine (TmA.move_no _ bt b n m p.f1 p.f2 HTa.out HPW.out.1 HS.out).mono ?_
              rintro e w3 ⟨rfl, rfl⟩
              go_wp2_with fail
              refine (En.rmove_no A c 0 m p.f1 p.f2 _ HOa.out (by omega) HS.out).mono ?_
              rintro e w4 ⟨rfl, rfl⟩
              have HOx := HOa
              have HTx := HTa
              have HGx := HGa
              go_wp2_with (go_at_call 25; go_must (refine (num_err 4 (by decide) _).mono ?_; rintro e w5 ⟨rfl, rfl⟩))
              have HT8 := hid (HTx.out)
              have hs8 := HGx.out.size
              go_wp2_with (go_at_call 10; go_must (refine (stands_calls _ bt b n _ A c HTx.out HOx.out (by omega)).mono ?_; rintro e w9 ⟨rfl, hB9⟩; have HT9 := hid (HTx.out.below hB9); have HO9 := hid (Base.ownsRow_later HOx.out hB9); have HG9 := hid (HGx.out.trans (grown_below hB9 (World.grownBy.refl w9 (some b)))); clear hB9))
              go_roundw
              case rel => exact ⟨i + 1, n, _, A, c, _, by omega, rfl, by go_num, by omega, hid rfl, HT9, HO9, hid (by omega), HG9⟩
              case measure => simp [intOf]; omega
    · obtain rfl : i = l.length := by omega
      go_wp2
      go_ret2
      exact ⟨A, c, m, n, rfl, HT1.out, HO1.out, HL.out, by omega, HG.out⟩
end Go.Proofs.YtidbkkebkgeioaaGreat.En
