import Derived.Test.YtidbkkebkgeioaaTmMv
import Derived.Test.YtidbkkebkgeioaaTmD
namespace Go.Proofs.Ytidbkkebkgeioaa.TmR
open Go.ChangeShapes Go.WideShapes Go.ChangeAt Go.RowKit Go.Shelf MK
open Base (hid cell_new1 cell_old1 froz_new1 froz_old1)
open TmA
attribute [local go_sem] Oper.semAt_some
set_option linter.unusedVariables false
set_option maxRecDepth 100000
set_option maxHeartbeats 8000000 in
theorem tnext_calls (A : Option Addr) (c : Nat) (l : List Act) (w : World) (hr : Row w A l) (hw : ∀ p ∈ l, I64 p.f1 ∧ I64 p.f2) :
    Calls Try.prog 6 #[.slice A l.length c] w fun e w' => e = .returned (.bool true) ∧ Below w.heap.size w w' := by
  have HR := hid hr
  have HW := hid hw
  clear hr hw
  by_cases h60 : 60 < l.length
  · have hd : decide ((60 : Int) < (l.length : Int)) = true := by simp; omega
    go_enter Try.func6, Try.ntmps6
    go_wp2_with (go_at_call 16; refine (TmS.alive_calls _).mono ?_; rintro e w1 ⟨rfl, hb⟩)
    go_ret
    exact ⟨rfl, hb⟩
  · have hd : decide ((60 : Int) < (l.length : Int)) = false := by simp; omega
    have h60' : l.length ≤ 60 := by omega
    clear h60
    go_enter Try.func6, Try.ntmps6
    go_wp2_with (first
      | (go_at_call 16; refine (TmS.alive_calls _).mono ?_; rintro e w1 ⟨rfl, hb⟩; have HB := hid hb; clear hb)
      | (go_at_call 17; refine (new_calls _).mono ?_; rintro e w2 ⟨bt, b, rfl, hT, hbt, hb, hB⟩; have HT := hid hT; have HB2 := hid hB; clear hT hB))
    have hs1 := HB.out.size
    go_loopw [23] (fun v23 wr => ∃ (i n : Nat) (m : Tm.M), i ≤ l.length ∧ v23 = .int .i64 i ∧ n ≤ i ∧ Hid (Tab wr bt b n m) ∧ Hid (m.length ≤ n) ∧ Hid (Below w.heap.size w wr)) (fun v23 _ => l.length - (intOf v23).toNat)
    case atStart => exact ⟨0, 0, [], Nat.zero_le _, rfl, Nat.le_refl _, HT, hid (Nat.le_refl _), hid (HB.out.trans (HB2.out.mono hs1))⟩
    case round =>
      obtain ⟨i, n, m, hil, rfl, hni, HTr, HL, HBr⟩ := hrel
      by_cases hlt : i < l.length
      · obtain ⟨p, hp⟩ : ∃ p, l[i] = p := ⟨_, rfl⟩
        obtain ⟨ad, rfl, c0, c1, c2⟩ := (HR.out.below HBr.out).at i hlt p hp
        have hpw := HW.out p (hp ▸ List.getElem_mem hlt)
        have HPW := hid hpw
        clear hp hpw
        by_cases hv : 0 ≤ p.f2 ∧ p.f2 ≤ 4611686018427387904
        · have HV := hid hv
          clear hv
          go_wp2_with (go_at_call 18; go_must (refine (set_ok _ bt b n m p.f1 p.f2 (HTr.out.below (below_alloc (Below.refl _ _) _)) HPW.out.1 (by omega) HV.out).mono ?_; rintro e w3 ⟨rfl, hT3, ht3⟩; have HT3 := hid hT3; have HT4 := hid ht3; clear hT3 ht3))
          go_roundw
          case rel =>
            exact ⟨i + 1, n + 1, _, by omega, by go_num, by omega, HT3, hid (HT3.out.map.size_le), hid (HBr.out.alloc HBr.out.size _ |>.grown HT4.out.grown (by have := HBr.out.size; simp; omega) (fun k e => by cases e; omega))⟩
          case measure => simp [intOf]; omega
        · have HV := hid hv
          clear hv
          go_wp2_with (go_at_call 18; go_must (refine (set_bad _ bt p.f1 p.f2 HV.out).mono ?_; rintro e w3 ⟨rfl, rfl⟩))
          go_roundw
          case rel =>
            exact ⟨i + 1, n, m, by omega, by go_num, by omega, hid (HTr.out.below (below_alloc (Below.refl _ _) _)), HL, hid (HBr.out.alloc HBr.out.size _)⟩
          case measure => simp [intOf]; omega
      · obtain rfl : i = l.length := by omega
        have hsr := HBr.out.size
        have hml : m.length ≤ 1000000 := by have := HL.out; omega
        have HBt : Hid (w.heap.size ≤ bt) := hid (by omega)
        have HBb : Hid (w.heap.size ≤ b) := hid (by omega)
        clear HT HB2 hbt hb HB hs1 h60' hni hil
        go_wp2_with fail
        refine (copy_calls _ bt b n m HTr.out).mono ?_
        rintro e w3 ⟨bt2, b2, rfl, hT2, hbt2, hb2, hB3⟩
        have HT2 := hid hT2
        have HTb := hid (HTr.out.below hB3)
        have HB3 := hid (HBr.out.trans (hB3.mono hsr))
        have hne : b ≠ b2 := by have := HTr.out.lt.2; omega
        have hne2 : bt ≠ b2 := by have := HTr.out.lt.1; omega
        have hne3 : b ≠ bt2 := by have := HTr.out.lt.2; omega
        have hne4 : bt ≠ bt2 := by have := HTr.out.lt.1; omega
        have hbt2' : w.heap.size ≤ bt2 := by omega
        have hb2' : w.heap.size ≤ b2 := by omega
        clear hT2 hB3 hbt2 hb2 HTr HBr hsr
        go_wp2_with fail
        refine (due_calls _ bt b n m 4611686018427387904 HTb.out hml).mono ?_
        rintro e w4 ⟨v, rfl, hO, hTr, hG⟩
        have hTb2 : Tab w4 bt2 b2 n m := HT2.out.kept (hG.block bt2 HT2.out.lt.1 (fun e => by cases e; exact hne3 rfl)) (hG.block b2 HT2.out.lt.2 (fun e => by cases e; exact hne rfl))
        obtain ⟨A1, c1, rfl, hc1⟩ := Base.slice_of_row hO
        have hall : Tm.due m 4611686018427387904 = Tm.order m := Tm.due_all _ fun k hk => (look_range HT2.out (Tm.order_mem.1 hk)).2
        obtain ⟨ds, hds⟩ : ∃ ds, Tm.order m = ds := ⟨_, rfl⟩
        have hlen := Tm.length_rest HT2.out.ok 4611686018427387904
        have hol := Tm.order_len m
        have hkey : ∀ k ∈ ds, I64 k := fun k h => order_I64 HT2.out k (hds ▸ h)
        rw [hall, hds] at hO hlen hc1
        rw [hds] at hol
        have hrz : Tm.rest m 4611686018427387904 = [] := List.eq_nil_of_length_eq_zero (by omega)
        rw [hrz] at hTr
        have hB4 : Below w.heap.size w w4 := HB3.out.grown hG HB3.out.size (fun k e => by cases e; exact HBb.out)
        obtain ⟨A, hA⟩ : ∃ B : Option Addr, B = A1 := ⟨_, rfl⟩
        have hgA : ∀ g, A1 = some ⟨g, 0, none⟩ → 0 < ds.length → w3.heap.size ≤ g ∧ g < w4.heap.size := by
          intro g e h0
          rcases hO.2 with ⟨_, hz⟩ | ⟨g', cap, cur, e', hb', hgg, _⟩
          · omega
          · rw [e] at e'
            cases e'
            exact ⟨hb', (Array.getElem?_eq_some_iff.1 hgg).1⟩
        have hsb : b2 < w3.heap.size := HT2.out.lt.2
        clear hA A
        have HO := hid hO
        have HTr := hid hTr
        have HT2' := hid hTb2
        have HB4 := hid hB4
        have HKEY := hid hkey
        have HGA := hid hgA
        have HSB := hid hsb
        rw [hall, hds]
        have hdl : ds.length ≤ 1000000 := by omega
        have HDS := hid hds
        have HN3 := hid hne2
        have HN4 := hid hne
        clear hO hTr hG hTb2 hB4 hlen hkey HTb HT2 HB3 HL hds hall hol hrz hgA hsb
        go_wp2
        go_loopw [40] (fun v40 wr => ∃ (i : Nat) (mu : Tm.M), i ≤ ds.length ∧ v40 = .int .i64 i ∧ Hid (Tab wr bt2 b2 n mu) ∧ Hid (Tm.order mu = ds.drop i) ∧ Hid (w4.grownBy wr (some b2))) (fun v40 _ => ds.length - (intOf v40).toNat)
        case atStart => exact ⟨0, m, Nat.zero_le _, rfl, HT2', HDS, hid (World.grownBy.refl _ _)⟩
        case round =>
          obtain ⟨i, mu, hil, rfl, HTU, HOU, HGU⟩ := hrel
          have hml2 : mu.length ≤ 1000000 := by
            rw [← Tm.order_len, HOU.out, List.length_drop]
            omega
          by_cases hlt : i < ds.length
          · obtain ⟨g, rfl⟩ : ∃ g, A1 = some ⟨g, 0, none⟩ := by
              obtain ⟨g, c, e, _⟩ := own_some HO.out (by omega)
              cases e
              exact ⟨g, rfl⟩
            obtain ⟨k, hk⟩ : ∃ k, ds[i] = k := ⟨_, rfl⟩
            have hou := HOU.out
            rw [List.drop_eq_getElem_cons hlt, hk] at hou
            have hga := HGA.out g rfl (by omega)
            have hkI := HKEY.out k (hk ▸ List.getElem_mem hlt)
            have c0 : wr.cell? ⟨g, i, none⟩ = some (.int .i64 k) := by
              have h1 := HO.out.cells (g := g) rfl i (.int .i64 ds[i]) (by simp [hlt])
              rw [add0, hk] at h1
              exact (World.cell?_of_block (w := w4) (a := ⟨g, i, none⟩) (HGU.out.block g hga.2 (fun e => by cases e; have := HSB.out; omega))).trans h1
            have en : nextV mu = .tuple #[.int .i64 k, .int .i64 (Tm.lk mu k), .bool true] := by unfold nextV; rw [hou]
            have his := (Tm.order_head hou).1
            have hod := Tm.order_del HTU.out.ok hou
            have HOD := hid hod
            have HKI := hid hkI
            clear hou hga hk hod hkI
            go_wp2_with fail
            refine (next_calls _ bt2 b2 n mu HTU.out hml2).mono ?_
            rintro e w5 ⟨rfl, hB5⟩
            rw [en]
            have HT5 := hid (HTU.out.below hB5)
            have HG5 := hid (HGU.out.trans (grown_below hB5 (World.grownBy.refl w5 (some b2))))
            clear hB5 en
            go_wp2_with fail
            refine (at_calls _ bt2 b2 n mu k HT5.out HKI.out).mono ?_
            rintro e w6 ⟨rfl, rfl⟩
            rw [his]
            have hst := stop_calls w5 bt2 b2 n mu k HT5.out HKI.out
            rw [his] at hst
            have HST := hid hst
            obtain ⟨u, hu⟩ : ∃ u, Tm.lk mu k = u := ⟨_, rfl⟩
            rw [hu]
            have d1 : (k != k) = false := by simp
            have d2 : (u != u) = false := by simp
            clear his hst hu
            go_wp2_with fail
            refine HST.out.mono ?_
            rintro e w7 ⟨rfl, hT7, ht7⟩
            have HT7 := hid hT7
            have HG7 := hid (HG5.out.trans ht7.grown)
            clear hT7 ht7
            go_wp2
            go_roundw
            case rel => exact ⟨i + 1, _, by omega, by go_num, HT7, HOD, HG7⟩
            case measure => simp [intOf]; omega
          · obtain rfl : i = ds.length := by omega
            have hmz : mu.length = 0 := by
              rw [← Tm.order_len, HOU.out, List.length_drop]
              omega
            have HTR2 : Hid (Tab wr bt b n []) := hid (HTr.out.kept (HGU.out.block bt HTr.out.lt.1 (fun e => by cases e; exact HN3.out rfl)) (HGU.out.block b HTr.out.lt.2 (fun e => by cases e; exact HN4.out rfl)))
            have hl2 := len_calls wr bt2 b2 n mu HTU.out
            rw [hmz] at hl2
            have HL2 := hid hl2
            clear hl2 hmz
            go_wp2_with fail
            refine (len_calls _ bt b n [] HTR2.out).mono ?_
            rintro e w6 ⟨rfl, rfl⟩
            simp only [List.length_nil]
            go_wp2_with fail
            refine HL2.out.mono ?_
            rintro e w6 ⟨rfl, rfl⟩
            go_wp2
            go_ret
            exact ⟨by simp, HB4.out.grown HGU.out HB4.out.size (fun k e => by cases e; exact hb2')⟩
end Go.Proofs.Ytidbkkebkgeioaa.TmR
