import Derived.Test.YtidbkkebkgeioaaTmMv
import Derived.Test.YtidbkkebkgeioaaTmD
namespace Go.Proofs.Ytidbkkebkgeioaa.TmR
open Go.ChangeShapes Go.WideShapes Go.ChangeAt Go.RowKit Go.Shelf MK
open Base (hid cell_new1 cell_old1 froz_new1 froz_old1)
open TmA
attribute [local go_sem] Oper.semAt_some
set_option linter.unusedVariables false
set_option maxRecDepth 100000
set_option maxHeartbeats 8000000 in
theorem dues_calls (A : Option Addr) (c : Nat) (l : List Act) (now : Int) (w : World) (hr : Row w A l) (hw : ∀ p ∈ l, I64 p.f1 ∧ I64 p.f2) (hn : I64 now) :
    Calls Try.prog 4 #[.slice A l.length c, .int .i64 now] w fun e w' => e = .returned (.bool true) ∧ Below w.heap.size w w' := by
  have HR := hid hr
  have HW := hid hw
  clear hr hw
  by_cases h60 : 60 < l.length
  · have hd : decide ((60 : Int) < (l.length : Int)) = true := by simp; omega
    go_enter Try.func4, Try.ntmps4
    go_wp2_with (go_at_call 16; refine (TmS.alive_calls _).mono ?_; rintro e w1 ⟨rfl, hb⟩)
    go_ret
    exact ⟨rfl, hb⟩
  · have hd : decide ((60 : Int) < (l.length : Int)) = false := by simp; omega
    have h60' : l.length ≤ 60 := by omega
    clear h60
    go_enter Try.func4, Try.ntmps4
    go_wp2_with (first
      | (go_at_call 16; refine (TmS.alive_calls _).mono ?_; rintro e w1 ⟨rfl, hb⟩; have HB := hid hb; clear hb)
      | (go_at_call 17; refine (new_calls _).mono ?_; rintro e w2 ⟨bt, b, rfl, hT, hbt, hb, hB⟩; have HT := hid hT; have HB2 := hid hB; clear hT hB))
    have hs1 := HB.out.size
    go_loopw [27] (fun v27 wr => ∃ (i n : Nat) (m : Tm.M), i ≤ l.length ∧ v27 = .int .i64 i ∧ n ≤ i ∧ Hid (Tab wr bt b n m) ∧ Hid (m.length ≤ n) ∧ Hid (Below w.heap.size w wr)) (fun v27 _ => l.length - (intOf v27).toNat)
    case atStart => exact ⟨0, 0, [], Nat.zero_le _, rfl, Nat.le_refl _, HT, hid (Nat.le_refl _), hid (HB.out.trans (HB2.out.mono hs1))⟩
    case round =>
      obtain ⟨i, n, m, hil, rfl, hni, HTr, HL, HBr⟩ := hrel
      by_cases hlt : i < l.length
      · obtain ⟨p, hp⟩ : ∃ p, l[i] = p := ⟨_, rfl⟩
        obtain ⟨ad, rfl, c0, c1, c2⟩ := (HR.out.below HBr.out).at i hlt p hp
        have hpw := HW.out p (hp ▸ List.getElem_mem hlt)
        have HPW := hid hpw
        clear hp hpw
        by_cases hv : 0 ≤ p.f2 ∧ p.f2 ≤ 4611686018427387904
        · have HV := hid hv
          clear hv
          go_wp2_with (go_at_call 18; go_must (refine (set_ok _ bt b n m p.f1 p.f2 (HTr.out.below (below_alloc (Below.refl _ _) _)) HPW.out.1 (by omega) HV.out).mono ?_; rintro e w3 ⟨rfl, hT3, ht3⟩; have HT3 := hid hT3; have HT4 := hid ht3; clear hT3 ht3))
          go_roundw
          case rel =>
            exact ⟨i + 1, n + 1, _, by omega, by go_num, by omega, HT3, hid (HT3.out.map.size_le), hid (HBr.out.alloc HBr.out.size _ |>.grown HT4.out.grown (by have := HBr.out.size; simp; omega) (fun k e => by cases e; omega))⟩
          case measure => simp [intOf]; omega
        · have HV := hid hv
          clear hv
          go_wp2_with (go_at_call 18; go_must (refine (set_bad _ bt p.f1 p.f2 HV.out).mono ?_; rintro e w3 ⟨rfl, rfl⟩))
          go_roundw
          case rel =>
            exact ⟨i + 1, n, m, by omega, by go_num, by omega, hid (HTr.out.below (below_alloc (Below.refl _ _) _)), HL, hid (HBr.out.alloc HBr.out.size _)⟩
          case measure => simp [intOf]; omega
      · obtain rfl : i = l.length := by omega
        have hsr := HBr.out.size
        have hml : m.length ≤ 1000000 := by have := HL.out; omega
        have HBt : Hid (w.heap.size ≤ bt) := hid (by omega)
        have HBb : Hid (w.heap.size ≤ b) := hid (by omega)
        clear HT HB2 hbt hb HB hs1 h60' hni hil
        go_wp2_with fail
        refine (copy_calls _ bt b n m HTr.out).mono ?_
        rintro e w3 ⟨bt2, b2, rfl, hT2, hbt2, hb2, hB3⟩
        have HT2 := hid hT2
        have HTb := hid (HTr.out.below hB3)
        have HB3 := hid (HBr.out.trans (hB3.mono hsr))
        have hne : b ≠ b2 := by have := HTr.out.lt.2; omega
        have hne2 : bt ≠ b2 := by have := HTr.out.lt.1; omega
        have hne3 : b ≠ bt2 := by have := HTr.out.lt.2; omega
        have hne4 : bt ≠ bt2 := by have := HTr.out.lt.1; omega
        have hbt2' : w.heap.size ≤ bt2 := by omega
        have hb2' : w.heap.size ≤ b2 := by omega
        clear hT2 hB3 hbt2 hb2 HTr HBr hsr
        go_wp2_with fail
        refine (len_calls _ bt b n m HTb.out).mono ?_
        rintro e w4 ⟨rfl, rfl⟩
        go_wp2_with fail
        refine (due_calls _ bt b n m now HTb.out hml).mono ?_
        rintro e w4 ⟨v, rfl, hO, hTr, hG⟩
        have hTb2 : Tab w4 bt2 b2 n m := HT2.out.kept (hG.block bt2 HT2.out.lt.1 (fun e => by cases e; exact hne3 rfl)) (hG.block b2 HT2.out.lt.2 (fun e => by cases e; exact hne rfl))
        obtain ⟨A1, c1, rfl, hc1⟩ := Base.slice_of_row hO
        obtain ⟨ds, hds⟩ : ∃ ds, Tm.due m now = ds := ⟨_, rfl⟩
        have hlen := Tm.length_rest HT2.out.ok now
        have hone := Tm.due_one (m := m) now
        have hpair := Tm.due_pair HT2.out.ok now
        have hrange : ∀ k, (Tm.look m k).isSome = true → 0 ≤ Tm.lk m k := fun k h => (look_range HT2.out h).1
        have hkey : ∀ k, (Tm.look m k).isSome = true → I64 k := fun k h => order_I64 HT2.out k (Tm.order_mem.2 h)
        rw [hds] at hO hlen hone hpair hc1
        have hB4 : Below w.heap.size w w4 := HB3.out.grown hG HB3.out.size (fun k e => by cases e; exact HBb.out)
        have HO := hid hO
        have HTr := hid hTr
        have HT2' := hid hTb2
        have HB4 := hid hB4
        have HLEN := hid hlen
        have HONE := hid hone
        have HPAIR := hid hpair
        have HRANGE := hid hrange
        have HKEY := hid hkey
        rw [hds]
        have hdl : ds.length ≤ 1000000 := by omega
        clear hO hTr hG hTb2 hB4 hlen hone hpair hrange hkey HTb HT2 HB3 HL hds
        go_wp2
        go_loopw [11, 47] (fun v11 v47 wr => ∃ (i : Nat) (last : Int), i ≤ ds.length ∧ v11 = .int .i64 last ∧ v47 = .int .i64 i ∧ wr = w4 ∧ Hid ((i = 0 → last = -1) ∧ (∀ h : i - 1 < ds.length, 0 < i → last = Tm.lk m ds[i - 1]))) (fun _ v47 _ => ds.length - (intOf v47).toNat)
        case atStart => exact ⟨0, -1, Nat.zero_le _, rfl, rfl, rfl, hid ⟨fun _ => rfl, fun _ h => by omega⟩⟩
        case round =>
          obtain ⟨i, last, hil, rfl, rfl, rfl, HLA⟩ := hrel
          by_cases hlt : i < ds.length
          · obtain ⟨g, rfl⟩ : ∃ g, A1 = some ⟨g, 0, none⟩ := by
              obtain ⟨g, c, e, _⟩ := own_some HO.out (by omega)
              cases e
              exact ⟨g, rfl⟩
            obtain ⟨k, hk⟩ : ∃ k, ds[i] = k := ⟨_, rfl⟩
            obtain ⟨u, hu⟩ : ∃ u, Tm.lk m k = u := ⟨_, rfl⟩
            have h1 := HONE.out i hlt
            rw [hk] at h1
            have h2 := HRANGE.out k h1.1
            have hkI := HKEY.out k h1.1
            have c0 : wr.cell? ⟨g, i, none⟩ = some (.int .i64 k) := by
              have h1 := HO.out.cells (g := g) rfl i (.int .i64 ds[i]) (by simp [hlt])
              rw [add0, hk] at h1
              exact h1
            have d1 : decide (now < u) = false := by simp; omega
            have d2 : decide (u < last) = false := by
              rw [decide_eq_false_iff_not]
              rcases Nat.eq_zero_or_pos i with h | h
              · have := HLA.out.1 h
                omega
              · have e := HLA.out.2 (by omega) h
                have p := HPAIR.out (i - 1) i (by omega) hlt (by omega)
                rw [hk, hu] at p
                omega
            go_wp2_with fail
            refine (at_calls _ bt2 b2 n m k HT2'.out hkI).mono ?_
            rintro e w5 ⟨rfl, rfl⟩
            rw [h1.1, hu]
            by_cases hi0 : i = 0
            · have d3 : decide ((0 : Int) < (i : Int)) = false := by simp; omega
              have HK := hid hk
              have HU := hid hu
              clear hk hu h1 h2 hkI
              go_wp2
              go_roundw
              case rel => exact ⟨i + 1, u, by omega, by first | trivial | rfl, by first | trivial | go_num, by first | trivial | rfl, hid ⟨fun h => by omega, fun h _ => by simp only [Nat.add_sub_cancel]; rw [HK.out, HU.out]⟩⟩
              case measure => simp [intOf]; omega
            · have d3 : decide ((0 : Int) < (i : Int)) = true := by simp; omega
              by_cases hul : u = last
              · have d4 : (u == last) = true := by simpa using hul
                obtain ⟨k0, hk0⟩ : ∃ k0, ds[i - 1]'(by omega) = k0 := ⟨_, rfl⟩
                have c1 : wr.cell? ⟨g, i - 1, none⟩ = some (.int .i64 k0) := by
                  have h1 := HO.out.cells (g := g) rfl (i - 1) (.int .i64 (ds[i - 1]'(by omega))) (by simp)
                  rw [add0, hk0] at h1
                  exact h1
                have d5 : decide (k ≤ k0) = false := by
                  rw [decide_eq_false_iff_not]
                  have e := HLA.out.2 (by omega) (by omega)
                  have p := HPAIR.out (i - 1) i (by omega) hlt (by omega)
                  rw [hk, hu, hk0] at p
                  rw [hk0] at e
                  omega
                have HK := hid hk
                have HU := hid hu
                have hw1 : wrap64 ((i : Int) - 1) = ((i - 1 : Nat) : Int) := by unfold wrap64; omega
                have hi1 : i - 1 < ds.length := by omega
                clear hk hu h1 h2 hkI hk0 hul
                go_wp2
                go_roundw
                case rel => exact ⟨i + 1, u, by omega, by first | trivial | rfl, by first | trivial | go_num, by first | trivial | rfl, hid ⟨fun h => by omega, fun h _ => by simp only [Nat.add_sub_cancel]; rw [HK.out, HU.out]⟩⟩
                case measure => simp [intOf]; omega
              · have d4 : (u == last) = false := by simpa using hul
                have HK := hid hk
                have HU := hid hu
                clear hk hu h1 h2 hkI hul
                go_wp2
                go_roundw
                case rel => exact ⟨i + 1, u, by omega, by first | trivial | rfl, by first | trivial | go_num, by first | trivial | rfl, hid ⟨fun h => by omega, fun h _ => by simp only [Nat.add_sub_cancel]; rw [HK.out, HU.out]⟩⟩
                case measure => simp [intOf]; omega
          · obtain rfl : i = ds.length := by omega
            have hrl : (Tm.rest m now).length ≤ 1000000 := by have := HLEN.out; omega
            have hsw := HB4.out.size
            go_wp2_with fail
            refine (next_calls _ bt b n _ HTr.out hrl).mono ?_
            rintro e w5 ⟨rfl, hB5⟩
            have HT5 := hid (HTr.out.below hB5)
            have HB5 := hid (HB4.out.trans (hB5.mono hsw))
            have hd5 := due_calls w5 bt b n _ now HT5.out hrl
            rw [Tm.due_rest] at hd5
            have HD5 := hid hd5
            have hsm : (((Tm.rest m now).length : Nat) : Int) + (ds.length : Nat) = (m.length : Nat) := by have := HLEN.out; omega
            have hsw5 := HB5.out.size
            have hse : ((((Tm.rest m now).length : Nat) : Int) + (ds.length : Nat) == (m.length : Nat)) = true := by simpa using hsm
            clear hB5 hd5 HLEN hsw HTr
            cases ho : Tm.order (Tm.rest m now) with
            | nil =>
              have en : nextV (Tm.rest m now) = .tuple #[.int .i64 0, .int .i64 0, .bool false] := by unfold nextV; rw [ho]
              rw [en]
              clear ho en
              go_wp2_with fail
              refine (len_calls _ bt b n _ HT5.out).mono ?_
              rintro e w6 ⟨rfl, rfl⟩
              go_wp2_with fail
              refine HD5.out.mono ?_
              rintro e w6 ⟨v6, rfl, hO6, hT6, hG6⟩
              obtain ⟨A6, c6, rfl, hc6⟩ := Base.slice_of_row hO6
              have HG6 := hid hG6
              clear hO6 hT6 hG6
              go_wp2
              go_ret
              exact ⟨by simp, HB5.out.grown HG6.out hsw5 (fun k e => by cases e; exact HBb.out)⟩
            | cons k r =>
              have en : nextV (Tm.rest m now) = .tuple #[.int .i64 k, .int .i64 (Tm.lk (Tm.rest m now) k), .bool true] := by unfold nextV; rw [ho]
              have hgt := Tm.rest_after (Tm.order_head ho).1
              rw [en]
              have d1 : decide (now < Tm.lk (Tm.rest m now) k) = true := by simpa using hgt
              clear ho en hgt
              go_wp2_with fail
              refine (len_calls _ bt b n _ HT5.out).mono ?_
              rintro e w6 ⟨rfl, rfl⟩
              go_wp2_with fail
              refine HD5.out.mono ?_
              rintro e w6 ⟨v6, rfl, hO6, hT6, hG6⟩
              obtain ⟨A6, c6, rfl, hc6⟩ := Base.slice_of_row hO6
              have HG6 := hid hG6
              clear hO6 hT6 hG6
              go_wp2
              go_ret
              exact ⟨by simp, HB5.out.grown HG6.out hsw5 (fun k e => by cases e; exact HBb.out)⟩
end Go.Proofs.Ytidbkkebkgeioaa.TmR
