import Derived.Test.YtidbkkebkgeioaaGreatRf
namespace Go.Proofs.YtidbkkebkgeioaaGreat.En
open Go.ChangeShapes Go.WideShapes Go.ChangeAt Go.RowKit Go.Shelf
open Base (hid cell_new1 cell_old1 froz_new1 froz_old1)
attribute [local go_sem] Oper.semAt_some
set_option linter.unusedVariables false
set_option linter.unusedSimpArgs false
set_option maxRecDepth 100000
theorem rmove_no (A : Option Addr) (c B : Nat) (l : Tm.M) (x y : Int) (w : World) (h : Own w B A c l) (hl : l.length ≤ 100000) (hs : (Tm.look l x).isSome = false) :
    Calls Tryz.prog 29 #[.slice A l.length c, .int .i64 x, .int .i64 y] w fun e w' => e = .returned (.tuple #[.slice A l.length c, .int .i64 4]) ∧ w = w' := by
  have ha := rat_calls A c B l x w h (by omega)
  rw [hs] at ha
  have HA := hid ha
  clear ha h hs
  go_enter Tryz.func29, Tryz.ntmps29
  go_wp2_with (go_at_call 39; go_must (refine HA.out.mono ?_; rintro e w1 ⟨rfl, rfl⟩))
  go_ret2
  exact ⟨rfl, rfl⟩
theorem rmove_ok (A : Option Addr) (c B : Nat) (l : Tm.M) (x y : Int) (w : World) (h : Own w B A c l) (hl : l.length ≤ 100000) (hs : (Tm.look l x).isSome = true) (hr : 0 ≤ Tm.lk l x ∧ Tm.lk l x ≤ 4611686018427387904) :
    Calls Tryz.prog 29 #[.slice A l.length c, .int .i64 x, .int .i64 y] w fun e w' => ∃ A' c', e = .returned (.tuple #[.slice A' (Tm.put (Tm.del l x) y (Tm.lk l x)).length c', .int .i64 0]) ∧ Own w' w.heap.size A' c' (Tm.put (Tm.del l x) y (Tm.lk l x)) ∧ Below w.heap.size w w' := by
  have ha := rat_calls A c B l x w h (by omega)
  have hst := stop_calls A c B l x w h (by omega)
  rw [hs] at ha
  have hdl := del_len l x
  obtain ⟨v, hv⟩ : ∃ v, Tm.lk l x = v := ⟨_, rfl⟩
  obtain ⟨d, hd⟩ : ∃ d, Tm.del l x = d := ⟨_, rfl⟩
  rw [hv] at ha hr ⊢
  rw [hd] at hst hdl ⊢
  have HA := hid ha
  have HS := hid hst
  have HR := hid hr
  clear ha hst h hs hr hv hd
  go_enter Tryz.func29, Tryz.ntmps29
  go_wp2_with (first
    | (go_at_call 39; go_must (refine HA.out.mono ?_; rintro e w1 ⟨rfl, rfl⟩))
    | (go_at_call 26; go_must (refine HS.out.mono ?_; rintro e w2 ⟨A2, c2, rfl, hO2, hB2⟩; have HO2 := hid hO2; have HB2 := hid hB2; clear hO2 hB2))
    | (go_at_call 24; go_must (refine (set_ok A2 c2 _ d y v _ HO2.out (by omega) HR.out).mono ?_; rintro e w3 ⟨A3, c3, rfl, hO3, hB3⟩; have HO3 := hid hO3; have HB3 := hid hB3; clear hO3 hB3)))
  go_ret2
  exact ⟨A3, c3, rfl, Base.ownsRow_base HO3.out HB2.out.size, HB2.out.trans (HB3.out.mono HB2.out.size)⟩
theorem own_apart {w : World} {B B' : Nat} {s s' : Nat} {v v' : Value} {n n' : Nat} {xs xs' : List Value} {e e' : TypeId} (h : w.ownsRow B e s v n xs) (h' : w.ownsRow B' e' s' v' n' xs') (hne : e ≠ e') {k : Nat} (hk : v.ownBlock = some k) : v'.ownBlock ≠ some k := by
  intro hk'
  rcases h.2 with ⟨rfl, _⟩ | ⟨g, cap, cur, rfl, hb, hg, _⟩
  · simp [Value.ownBlock] at hk
  · rcases h'.2 with ⟨rfl, _⟩ | ⟨g', cap', cur', rfl, hb', hg', _⟩
    · simp [Value.ownBlock] at hk'
    · simp [Value.ownBlock] at hk hk'
      subst hk
      subst hk'
      rw [hg] at hg'
      cases hg'
      exact hne rfl
theorem news1 (w : World) (x : Int) : ∀ j u, [Value.int .i64 x][j]? = some u → (w.alloc (.cells #[.int .i64 x] 3)).cell? ((⟨w.heap.size, 0, none⟩ : Addr).add j) = some u := by
  intro j u hj
  rw [add0, cell_new1 _ _ _ _ rfl]
  simpa using hj
def slen : Value → Nat
  | .slice _ n _ => n
  | _ => 0
theorem info3 : (Tryz.prog.info? 3).map (fun i => (i.zero, i.size, i.bytes)) = some (some (.int .i64 0), 1, 8) := by kernel_rfl
set_option maxHeartbeats 4000000 in
theorem rdue_calls (A : Option Addr) (c B : Nat) (l : Tm.M) (now : Int) (w : World) (h : Own w B A c l) (hok : Tm.Ok l) (hl : l.length ≤ 100000) :
    Calls Tryz.prog 27 #[.slice A l.length c, .int .i64 now] w fun e w' => ∃ A' c' v, e = .returned (.tuple #[.slice A' (Tm.rest l now).length c', v]) ∧ w'.ownsRow w.heap.size 3 1 v (Tm.due l now).length ((Tm.due l now).map (.int .i64)) ∧ Own w' 0 A' c' (Tm.rest l now) ∧ Below w.heap.size w w' := by
  obtain ⟨i0, hi, hi0, hi1, hi2⟩ := info_parts info3
  have hnd := Tm.order_nodup hok
  have hol := Tm.order_len l
  have hdt := TmA.due_take l now
  obtain ⟨os, hos⟩ : ∃ os, Tm.order l = os := ⟨_, rfl⟩
  rw [hos] at hnd hol hdt
  have H := hid (Base.ownsRow_base h (Nat.zero_le _))
  have HOK := hid hok
  have HND := hid hnd
  have HDT := hid hdt
  have HOS := hid hos
  clear h hok hnd hdt hos
  go_enter Tryz.func27, Tryz.ntmps27
  go_wp2
  go_loopw [0, 6] (fun v0 v6 wr => ∃ (i n : Nat) (ks : List Int) (cur : Tm.M) (A' : Option Addr) (c' : Nat), i ≤ os.length ∧ v0 = .slice A' n c' ∧ n ≤ 100000 ∧ Hid (n = cur.length) ∧ Hid (ks = os.take i) ∧ Hid (cur = Tm.delAll l ks) ∧ Hid (Tm.order cur = os.drop i) ∧ Hid (∀ j (h : j < os.length), j < i → Tm.lk l os[j] ≤ now) ∧ Hid (wr.ownsRow w.heap.size 3 1 v6 i (ks.map (.int .i64))) ∧ Hid (Own wr 0 A' c' cur) ∧ Hid (Below w.heap.size w wr)) (fun v0 _ _ => slen v0)
  case atStart => exact ⟨0, l.length, [], l, A, c, Nat.zero_le _, rfl, hl, hid rfl, hid rfl, hid rfl, HOS, hid (fun j _ h => by omega), hid (World.ownsRow_nil _ _ _ _), H, hid (Below.refl _ _)⟩
  case round =>
    obtain ⟨i, n, ks, cur, A', c', hio, rfl, hn, HN, HKS, HC, HO, HJ, HR, HOW, HB⟩ := hrel
    obtain rfl := HN.out
    have hsr := HB.out.size
    have hkl : Hid (ks.length = i) := hid (by rw [HKS.out, List.length_take]; omega)
    have hoc : Hid (Tm.Ok cur) := hid (by rw [HC.out]; exact Tm.delAll_ok HOK.out _)
    have hnx := rnext_calls A' c' 0 cur wr HOW.out hoc.out (by omega)
    have HNX := hid hnx
    clear hnx
    by_cases hlt : i < os.length
    · obtain ⟨k, hk⟩ : ∃ k, os[i] = k := ⟨_, rfl⟩
      have ho : Tm.order cur = k :: os.drop (i + 1) := by rw [HO.out, List.drop_eq_getElem_cons hlt, hk]
      have hnin : k ∉ ks := by
        rw [HKS.out]
        intro hm
        obtain ⟨j, hj, e⟩ := List.mem_iff_getElem.1 hm
        rw [List.length_take] at hj
        rw [List.getElem_take, ← hk] at e
        exact (List.pairwise_iff_getElem.1 (List.nodup_iff_pairwise_ne.1 HND.out)) j i (by omega) hlt (by omega) e
      have hlk : Tm.lk cur k = Tm.lk l k := by rw [HC.out]; exact TmA.lk_delAll hnin
      have en : rnextV cur = .tuple #[.agg #[.int .i64 k, .int .i64 (Tm.lk l k)], .bool true] := by unfold rnextV; rw [ho, ← hlk]
      obtain ⟨u, hu⟩ : ∃ u, Tm.lk l k = u := ⟨_, rfl⟩
      have htk : os.take (i + 1) = ks ++ [k] := by rw [HKS.out, List.take_succ_eq_append_getElem hlt, hk]
      have hod : Tm.order (Tm.del cur k) = os.drop (i + 1) := Tm.order_del hoc.out ho
      have hdl : (Tm.del cur k).length + 1 = cur.length := by
        have := Tm.length_del hoc.out k
        rw [(Tm.order_head ho).1, if_pos rfl] at this
        exact this
      have hst := stop_calls A' c' 0 cur k
      obtain ⟨d, hd⟩ : ∃ d, Tm.del cur k = d := ⟨_, rfl⟩
      have hdall : d = Tm.delAll l (ks ++ [k]) := by rw [← hd, HC.out, Tm.delAll_snoc]
      rw [hd] at hod hdl hst
      rw [hu] at en
      rw [en] at HNX
      have HU := hid hu
      have HK := hid hk
      have HTK := hid htk
      have HOD := hid hod
      have HDA := hid hdall
      have HST := hid hst
      clear hk ho hnin hlk en hu htk hod hst hd hdall
      by_cases hgt : now < u
      · have hd : decide (now < u) = true := by simpa using hgt
        have hdue := HDT.out i hio HJ.out (fun h => by rw [HK.out, HU.out]; exact hgt)
        have HDUE := hid hdue
        have hrest : Tm.rest l now = cur := by unfold Tm.rest; rw [hdue, ← HKS.out, HC.out]
        have HRS := hid hrest
        clear hdue hrest hgt
        go_wp2_with (go_at_call 31; go_must (refine HNX.out.mono ?_; rintro e w1 ⟨rfl, hB⟩; have HB1 := hid hB; clear hB))
        have hs1 := HB1.out.size
        go_ret2
        rw [HRS.out, HDUE.out, ← HKS.out, hkl.out]
        exact ⟨A', c', u6, rfl, Base.ownsRow_later HR.out (HB1.out.alloc hs1 _), Base.ownsRow_later HOW.out (HB1.out.alloc hs1 _), HB.out.trans (HB1.out.mono hsr) |>.alloc (by omega) _⟩
      · have hd : decide (now < u) = false := by simpa using hgt
        have HGT := hid hgt
        clear hgt
        go_wp2_with (first
          | (go_at_call 31; go_must (refine HNX.out.mono ?_; rintro e w1 ⟨rfl, hB⟩; have HB1 := hid hB; clear hB))
          | (at_builtin; go_must (refine wpList_append_own_at _ rfl _ _ 44 rfl w.heap.size 3 i0 (.int .i64 0) 1 8 Tryz.underlying44 hi hi0 hi1 hi2 rfl (by decide) _ _ _ rfl (Base.ownsRow_later HR.out ((HB1.out.alloc HB1.out.size _).alloc (by have := HB1.out.size; simp; omega) _)) ⟨w1.heap.size + 1, 0, none⟩ 1 1 [.int .i64 k] rfl rfl ?news ?one ?c3 ?c4 ?c5 ?_)))
        case news =>
          have h := news1 (w1.alloc (.cells #[.int .i64 k, .int .i64 u] 66)) k
          rw [World.size_alloc] at h
          exact h
        case one => exact fun x hx => by rw [List.mem_singleton.1 hx]; rfl
        case c3 => unfold maxLen; omega
        case c4 => omega
        case c5 => have := HB1.out.size; simp; omega
        have hs1 := HB1.out.size
        intro v2 w2 own2 hg2 _ _
        have hub : ∀ q, u6.ownBlock = some q → q < w1.heap.size ∧ w.heap.size ≤ q := by
          intro q hq
          have := own_base HR.out hq
          omega
        have hcE : w2.cell? ⟨w1.heap.size, 0, none⟩ = some (.int .i64 k) := by
          refine (hg2.cell_far _ (by rw [World.size_alloc, World.size_alloc]; exact Nat.lt_succ_of_lt (Nat.lt_succ_self _)) (fun e => ?_)).trans ?_
          · have := (hub _ e.symm).1
            simp at this
          · exact (cell_old1 _ _ _ (by rw [World.size_alloc]; omega) 0).trans (cell_new1 _ _ _ _ rfl 0)
        have hO2 : Own w2 0 A' c' cur := (Base.ownsRow_later HOW.out ((HB1.out.alloc hs1 _).alloc (by simp; omega) _)).kept hg2 (by
          rcases hv : (Value.slice A' cur.length c').ownBlock with _ | q
          · exact .inl rfl
          · exact .inr fun e => own_apart HOW.out HR.out (by decide) hv e.symm)
        have hB2 : Below w.heap.size w w2 := ((HB.out.trans (HB1.out.mono hsr)).alloc (by omega) _ |>.alloc (by simp; omega) _).grown hg2 (by simp; omega) (fun q e => (hub q e).2)
        have hst2 := HST.out w2 hO2 (by omega)
        have own3 : w2.ownsRow w.heap.size 3 1 v2 (i + 1) ((ks ++ [k]).map (.int .i64)) := by rw [List.map_append]; exact own2
        obtain ⟨A2, c2, rfl, _⟩ := Base.slice_of_row own2
        have HO3 := hid own3
        have HB2 := hid hB2
        have HST2 := hid hst2
        clear own2 hg2 hub hO2 hB2 hst2 own3
        go_wp2_with (go_at_call 26; go_must (refine HST2.out.mono ?_; rintro e w3 ⟨A3, c3, rfl, hO4, hB4⟩; have HO4 := hid hO4; have HB4 := hid hB4; clear hO4 hB4))
        go_roundw
        case rel =>
          refine ⟨i + 1, d.length, ks ++ [k], d, A3, c3, by omega, rfl, by omega, hid rfl, hid HTK.out.symm, HDA, HOD, hid (fun j hj hji => ?_), hid (Base.ownsRow_later HO3.out HB4.out), hid (Base.ownsRow_base HO4.out (Nat.zero_le _)), hid (HB2.out.trans (HB4.out.mono HB2.out.size))⟩
          rcases Nat.lt_or_ge j i with h | h
          · exact HJ.out j hj h
          · obtain rfl : j = i := by omega
            rw [HK.out, HU.out]
            have := HGT.out
            omega
        case measure => simp [slen]; omega
    · have hdue := HDT.out i hio HJ.out (fun h => absurd h hlt)
      have hnil : Tm.order cur = [] := by rw [HO.out, List.drop_eq_nil_of_le (by omega)]
      have en : rnextV cur = .tuple #[.agg #[.int .i64 0, .int .i64 0], .bool false] := by unfold rnextV; rw [hnil]
      have hrest : Tm.rest l now = cur := by unfold Tm.rest; rw [hdue, ← HKS.out, HC.out]
      rw [en] at HNX
      have HRS := hid hrest
      have HDUE := hid hdue
      clear hdue hnil en hrest
      go_wp2_with (go_at_call 31; go_must (refine HNX.out.mono ?_; rintro e w1 ⟨rfl, hB⟩; have HB1 := hid hB; clear hB))
      have hs1 := HB1.out.size
      go_ret2
      rw [HRS.out, HDUE.out, ← HKS.out, hkl.out]
      exact ⟨A', c', u6, rfl, Base.ownsRow_later HR.out (HB1.out.alloc hs1 _), Base.ownsRow_later HOW.out (HB1.out.alloc hs1 _), HB.out.trans (HB1.out.mono hsr) |>.alloc (by omega) _⟩
end Go.Proofs.YtidbkkebkgeioaaGreat.En
