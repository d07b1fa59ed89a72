import Derived.Test.YtidbkkebkgeioaaTmR
namespace Go.Proofs.Ytidbkkebkgeioaa.TmR
open Go.ChangeShapes Go.WideShapes Go.ChangeAt Go.RowKit Go.Shelf MK
open Base (hid cell_new1 cell_old1 froz_new1 froz_old1)
open TmA
attribute [local go_sem] Oper.semAt_some
set_option linter.unusedVariables false
set_option maxRecDepth 100000
theorem Row.at {w : World} {a : Option Addr} {l : List Act} (h : Row w a l) (i : Nat) (hi : i < l.length) (p : Act) (hp : l[i] = p) : ∃ ad, a = some ad ∧ w.cell? (ad.add (i * 3)) = some (.int .i64 p.f0) ∧ w.cell? ⟨(ad.add (i * 3)).block, (ad.add (i * 3)).off + 1, none⟩ = some (.int .i64 p.f1) ∧ w.cell? ⟨(ad.add (i * 3)).block, (ad.add (i * 3)).off + 2, none⟩ = some (.int .i64 p.f2) := by
  subst hp
  exact h i hi
set_option maxHeartbeats 8000000 in
theorem moves_calls (A : Option Addr) (c : Nat) (l : List Act) (x y : Int) (w : World) (hr : Row w A l) (hw : ∀ p ∈ l, I64 p.f1 ∧ I64 p.f2) (hx : I64 x) (hy : I64 y) :
    Calls Try.prog 5 #[.slice A l.length c, .int .i64 x, .int .i64 y] w fun e w' => e = .returned (.bool true) ∧ Below w.heap.size w w' := by
  have HR := hid hr
  have HW := hid hw
  clear hr hw
  by_cases h60 : 60 < l.length
  · have hd : decide ((60 : Int) < (l.length : Int)) = true := by simp; omega
    go_enter Try.func5, Try.ntmps5
    go_wp2_with (go_at_call 16; refine (TmS.alive_calls _).mono ?_; rintro e w1 ⟨rfl, hb⟩)
    go_ret
    exact ⟨rfl, hb⟩
  · have hd : decide ((60 : Int) < (l.length : Int)) = false := by simp; omega
    have h60' : l.length ≤ 60 := by omega
    clear h60
    go_enter Try.func5, Try.ntmps5
    go_wp2_with (first
      | (go_at_call 16; refine (TmS.alive_calls _).mono ?_; rintro e w1 ⟨rfl, hb⟩; have HB := hid hb; clear hb)
      | (go_at_call 17; refine (new_calls _).mono ?_; rintro e w2 ⟨bt, b, rfl, hT, hbt, hb, hB⟩; have HT := hid hT; have HB2 := hid hB; clear hT hB))
    have hs1 := HB.out.size
    go_loopw [31] (fun v31 wr => ∃ (i n : Nat) (m : Tm.M), i ≤ l.length ∧ v31 = .int .i64 i ∧ n ≤ i ∧ Hid (Tab wr bt b n m) ∧ Hid (m.length ≤ n) ∧ Hid (Below w.heap.size w wr)) (fun v31 _ => l.length - (intOf v31).toNat)
    case atStart => exact ⟨0, 0, [], Nat.zero_le _, rfl, Nat.le_refl _, HT, hid (Nat.le_refl _), hid (HB.out.trans (HB2.out.mono hs1))⟩
    case round =>
      obtain ⟨i, n, m, hil, rfl, hni, HTr, HL, HBr⟩ := hrel
      by_cases hlt : i < l.length
      · obtain ⟨p, hp⟩ : ∃ p, l[i] = p := ⟨_, rfl⟩
        obtain ⟨ad, rfl, c0, c1, c2⟩ := (HR.out.below HBr.out).at i hlt p hp
        have hpw := HW.out p (hp ▸ List.getElem_mem hlt)
        have HPW := hid hpw
        clear hp hpw
        by_cases hv : 0 ≤ p.f2 ∧ p.f2 ≤ 4611686018427387904
        · have HV := hid hv
          clear hv
          go_wp2_with (go_at_call 18; go_must (refine (set_ok _ bt b n m p.f1 p.f2 (HTr.out.below (below_alloc (Below.refl _ _) _)) HPW.out.1 (by omega) HV.out).mono ?_; rintro e w3 ⟨rfl, hT3, ht3⟩; have HT3 := hid hT3; have HT4 := hid ht3; clear hT3 ht3))
          go_roundw
          case rel =>
            exact ⟨i + 1, n + 1, _, by omega, by go_num, by omega, HT3, hid (HT3.out.map.size_le), hid (HBr.out.alloc HBr.out.size _ |>.grown HT4.out.grown (by have := HBr.out.size; simp; omega) (fun k e => by cases e; omega))⟩
          case measure => simp [intOf]; omega
        · have HV := hid hv
          clear hv
          go_wp2_with (go_at_call 18; go_must (refine (set_bad _ bt p.f1 p.f2 HV.out).mono ?_; rintro e w3 ⟨rfl, rfl⟩))
          go_roundw
          case rel =>
            exact ⟨i + 1, n, m, by omega, by go_num, by omega, hid (HTr.out.below (below_alloc (Below.refl _ _) _)), HL, hid (HBr.out.alloc HBr.out.size _)⟩
          case measure => simp [intOf]; omega
      · obtain rfl : i = l.length := by omega
        have hsr := HBr.out.size
        go_wp2_with (go_at_call 19; go_must (refine (copy_calls _ bt b n m HTr.out).mono ?_; rintro e w3 ⟨bt2, b2, rfl, hT2, hbt2, hb2, hB3⟩; have HT2 := hid hT2; have HTb := hid (HTr.out.below hB3); have HB3 := hid (HBr.out.trans (hB3.mono hsr)); clear hT2 hB3))
        refine (at_calls _ bt b n m x HTb.out hx).mono ?_
        rintro e w4 ⟨rfl, rfl⟩
        have hne : b ≠ b2 := by have := HTr.out.lt.2; omega
        have hne2 : bt ≠ b2 := by have := HTr.out.lt.1; omega
        have hni60 : n < 1000000 := by omega
        have hwb2 : w.heap.size ≤ b2 := by omega
        cases hs : (Tm.look m x).isSome with
        | false =>
          go_wp2_with fail
          refine (move_no _ bt2 b2 n m x y HT2.out hx hs).mono ?_
          rintro e w5 ⟨rfl, rfl⟩
          have HB4 := HB3
          clear hs
          go_wp2
          go_loopw [59] (fun v59 wr => ∃ i : Nat, i ≤ l.length ∧ v59 = .int .i64 i ∧ Hid (Tab wr bt b n m) ∧ Hid (Tab wr bt2 b2 n m) ∧ Hid (Below w.heap.size w wr)) (fun v59 _ => l.length - (intOf v59).toNat)
          case atStart => exact ⟨0, Nat.zero_le _, rfl, HTb, HT2, HB4⟩
          case round =>
            obtain ⟨i, hil, rfl, HTr, HTr2, HBr⟩ := hrel
            by_cases hlt : i < l.length
            · obtain ⟨p, hp⟩ : ∃ p, l[i] = p := ⟨_, rfl⟩
              obtain ⟨ad, rfl, c0, c1, c2⟩ := (HR.out.below HBr.out).at i hlt p hp
              have HPW := hid (HW.out p (hp ▸ List.getElem_mem hlt))
              clear hp
              go_wp2_with fail
              refine (at_calls _ bt b n m p.f1 (HTr.out.below (below_alloc (Below.refl _ _) _)) HPW.out.1).mono ?_
              rintro e w5 ⟨rfl, rfl⟩
              go_wp2_with fail
              refine (at_calls _ bt2 b2 _ _ p.f1 (HTr2.out.below (below_alloc (Below.refl _ _) _)) HPW.out.1).mono ?_
              rintro e w6 ⟨rfl, rfl⟩
              by_cases h1 : p.f1 = x
              · have d1 : (p.f1 != x) = false := by simpa using h1
                have D := hid h1
                clear h1
                go_wp2
                go_roundw
                case rel => exact ⟨i + 1, by omega, by go_num, hid (HTr.out.below (below_alloc (Below.refl _ _) _)), hid (HTr2.out.below (below_alloc (Below.refl _ _) _)), hid (HBr.out.alloc HBr.out.size _)⟩
                case measure => simp [intOf]; omega
              · have d1 : (p.f1 != x) = true := by simpa using h1
                by_cases h2 : p.f1 = y
                · have d2 : (p.f1 != y) = false := by simpa using h2
                  have D := hid h1
                  have D2 := hid h2
                  clear h1 h2
                  go_wp2
                  go_roundw
                  case rel => exact ⟨i + 1, by omega, by go_num, hid (HTr.out.below (below_alloc (Below.refl _ _) _)), hid (HTr2.out.below (below_alloc (Below.refl _ _) _)), hid (HBr.out.alloc HBr.out.size _)⟩
                  case measure => simp [intOf]; omega
                · have d2 : (p.f1 != y) = true := by simpa using h2
                  have e1 : Tm.look m p.f1 = Tm.look m p.f1 := rfl
                  have e2 : Tm.lk m p.f1 = Tm.lk m p.f1 := congrArg (fun o : Option Int => o.getD 0) e1
                  rw [e1, e2]
                  generalize Tm.lk m p.f1 = u
                  generalize (Tm.look m p.f1).isSome = u2
                  have d3 : (u != u) = false := by simp
                  have d4 : (u2 != u2) = false := by simp
                  have D := hid h1
                  have D2 := hid h2
                  clear h1 h2 e1 e2
                  go_wp2
                  go_roundw
                  case rel => exact ⟨i + 1, by omega, by go_num, hid (HTr.out.below (below_alloc (Below.refl _ _) _)), hid (HTr2.out.below (below_alloc (Below.refl _ _) _)), hid (HBr.out.alloc HBr.out.size _)⟩
                  case measure => simp [intOf]; omega
            · obtain rfl : i = l.length := by omega
              go_wp2_with fail
              refine (at_calls _ bt2 b2 _ _ y HTr2.out hy).mono ?_
              rintro e w5 ⟨rfl, rfl⟩
              go_wp2_with fail
              refine (at_calls _ bt2 b2 _ _ x HTr2.out hx).mono ?_
              rintro e w6 ⟨rfl, rfl⟩
              go_wp2
              go_ret
              exact ⟨by simp, HBr.out⟩
        | true =>
          go_wp2_with fail
          refine (move_ok _ bt2 b2 n m x y HT2.out hx hy hni60 hs).mono ?_
          rintro e w5 ⟨rfl, hT5, hg5⟩
          have HTb := hid (HTb.out.kept (hg5.block bt HTb.out.lt.1 (fun e => by cases e; exact hne2 rfl)) (hg5.block b HTb.out.lt.2 (fun e => by cases e; exact hne rfl)))
          have HT2 := hid hT5
          have HB4 := hid (HB3.out.grown hg5 HB3.out.size (fun k e => by cases e; exact hwb2))
          clear hs hT5 hg5
          go_wp2
          go_loopw [59] (fun v59 wr => ∃ i : Nat, i ≤ l.length ∧ v59 = .int .i64 i ∧ Hid (Tab wr bt b n m) ∧ Hid (Tab wr bt2 b2 (n + 1) (Tm.put (Tm.del m x) y (Tm.lk m x))) ∧ Hid (Below w.heap.size w wr)) (fun v59 _ => l.length - (intOf v59).toNat)
          case atStart => exact ⟨0, Nat.zero_le _, rfl, HTb, HT2, HB4⟩
          case round =>
            obtain ⟨i, hil, rfl, HTr, HTr2, HBr⟩ := hrel
            by_cases hlt : i < l.length
            · obtain ⟨p, hp⟩ : ∃ p, l[i] = p := ⟨_, rfl⟩
              obtain ⟨ad, rfl, c0, c1, c2⟩ := (HR.out.below HBr.out).at i hlt p hp
              have HPW := hid (HW.out p (hp ▸ List.getElem_mem hlt))
              clear hp
              go_wp2_with fail
              refine (at_calls _ bt b n m p.f1 (HTr.out.below (below_alloc (Below.refl _ _) _)) HPW.out.1).mono ?_
              rintro e w5 ⟨rfl, rfl⟩
              go_wp2_with fail
              refine (at_calls _ bt2 b2 _ _ p.f1 (HTr2.out.below (below_alloc (Below.refl _ _) _)) HPW.out.1).mono ?_
              rintro e w6 ⟨rfl, rfl⟩
              by_cases h1 : p.f1 = x
              · have d1 : (p.f1 != x) = false := by simpa using h1
                have D := hid h1
                clear h1
                go_wp2
                go_roundw
                case rel => exact ⟨i + 1, by omega, by go_num, hid (HTr.out.below (below_alloc (Below.refl _ _) _)), hid (HTr2.out.below (below_alloc (Below.refl _ _) _)), hid (HBr.out.alloc HBr.out.size _)⟩
                case measure => simp [intOf]; omega
              · have d1 : (p.f1 != x) = true := by simpa using h1
                by_cases h2 : p.f1 = y
                · have d2 : (p.f1 != y) = false := by simpa using h2
                  have D := hid h1
                  have D2 := hid h2
                  clear h1 h2
                  go_wp2
                  go_roundw
                  case rel => exact ⟨i + 1, by omega, by go_num, hid (HTr.out.below (below_alloc (Below.refl _ _) _)), hid (HTr2.out.below (below_alloc (Below.refl _ _) _)), hid (HBr.out.alloc HBr.out.size _)⟩
                  case measure => simp [intOf]; omega
                · have d2 : (p.f1 != y) = true := by simpa using h2
                  have e1 : Tm.look (Tm.put (Tm.del m x) y (Tm.lk m x)) p.f1 = Tm.look m p.f1 := by rw [Tm.look_put, if_neg h2, Tm.look_del, if_neg h1]
                  have e2 : Tm.lk (Tm.put (Tm.del m x) y (Tm.lk m x)) p.f1 = Tm.lk m p.f1 := congrArg (fun o : Option Int => o.getD 0) e1
                  rw [e1, e2]
                  generalize Tm.lk m p.f1 = u
                  generalize (Tm.look m p.f1).isSome = u2
                  have d3 : (u != u) = false := by simp
                  have d4 : (u2 != u2) = false := by simp
                  have D := hid h1
                  have D2 := hid h2
                  clear h1 h2 e1 e2
                  go_wp2
                  go_roundw
                  case rel => exact ⟨i + 1, by omega, by go_num, hid (HTr.out.below (below_alloc (Below.refl _ _) _)), hid (HTr2.out.below (below_alloc (Below.refl _ _) _)), hid (HBr.out.alloc HBr.out.size _)⟩
                  case measure => simp [intOf]; omega
            · obtain rfl : i = l.length := by omega
              go_wp2_with fail
              refine (at_calls _ bt2 b2 _ _ y HTr2.out hy).mono ?_
              rintro e w5 ⟨rfl, rfl⟩
              go_wp2_with fail
              refine (at_calls _ bt2 b2 _ _ x HTr2.out hx).mono ?_
              rintro e w6 ⟨rfl, rfl⟩
              have f1 : Tm.look (Tm.put (Tm.del m x) y (Tm.lk m x)) y = some (Tm.lk m x) := by rw [Tm.look_put, if_pos rfl]
              have f2 : Tm.lk (Tm.put (Tm.del m x) y (Tm.lk m x)) y = Tm.lk m x := by have h := congrArg (fun o : Option Int => o.getD 0) f1; exact h
              have f3 : (Tm.look (Tm.put (Tm.del m x) y (Tm.lk m x)) x).isSome = (x == y) := by
                rw [Tm.look_put]
                by_cases e : x = y
                · rw [if_pos e, e]
                  simp
                · rw [if_neg e, Tm.look_del, if_pos rfl]
                  simp [e]
              rw [f1, f2, f3]
              generalize Tm.lk m x = u
              have d5 : (u == u) = true := by simp
              have d6 : ((x == y) == (x == y)) = true := by simp
              clear f1 f2 f3
              go_wp2
              go_ret
              exact ⟨by simp, HBr.out⟩
end Go.Proofs.Ytidbkkebkgeioaa.TmR
