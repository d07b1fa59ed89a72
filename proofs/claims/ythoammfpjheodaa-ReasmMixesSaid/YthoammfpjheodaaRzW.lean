import Derived.Test.YthoammfpjheodaaRzV
namespace Go.Proofs.Ythoammfpjheodaa.Rz
open Go.ChangeShapes Go.WideShapes Go.ChangeAt Go.RowKit Go.Shelf MK Go.Joins
open Base (hid cell_new1 cell_old1 froz_new1 froz_old1)
attribute [local go_sem] Oper.semAt_some
set_option linter.unusedVariables false
set_option linter.unusedSimpArgs false
set_option maxRecDepth 100000
/-- What is seen. -/
def fS (ks : List Int) : Int → Option Value := fun t => if t ∈ ks then some (.int .i64 1) else none
theorem fS_none {ks : List Int} {t : Int} (h : t ∉ ks) : fS ks t = none := if_neg h
theorem fS_upd {ks : List Int} {t : Int} (h : t ∉ ks) (x : Int) : upd (fS ks) t (some (.int .i64 1)) x = fS (ks ++ [t]) x := by
  unfold upd fS
  by_cases hx : x = t
  · subst hx; simp
  · rw [if_neg hx]; simp [hx]
theorem fresh_key {l : List Pm} (h : (keys l).Nodup) (j : Nat) (hj : j < l.length) : l[j].t ∉ keys (l.take j) := by
  intro hm
  have e : keys l = keys (l.take j) ++ keys (l.drop j) := by unfold keys; rw [← List.map_append, List.take_append_drop]
  rw [e, List.nodup_append] at h
  refine h.2.2 _ hm _ ?_ rfl
  exact List.mem_map.2 ⟨l[j], by rw [List.drop_eq_getElem_cons hj]; exact List.mem_cons_self, rfl⟩
theorem Mv.below {w w2 w3 : World} {bp mb N : Nat} (h : Below N w w2) (hm : Mv w2 w3 bp mb) (h1 : N ≤ bp) (h2 : N ≤ mb) (hN : N ≤ w2.heap.size) : Below N w w3 :=
  ⟨hm.os.trans h.os, hm.tape.trans h.tape, hm.output.trans h.output, Nat.le_trans h.size hm.size, fun k hk => (hm.block k (by omega) (by omega) (by omega)).trans (h.block k hk)⟩
set_option maxHeartbeats 4000000 in
theorem heldL_calls (w : World) (A : Option Addr) (c : Nat) (l : List Pm) (f : Int) (h : InR w A c l) :
    Calls Try.prog 9 #[.slice A l.length c, .int .u32 f] w fun e w' => e = .returned (.bool true) ∧ Below w.heap.size w w' := by
  have H := hid h
  clear h
  go_enter Try.func9, Try.ntmps9
  go_wp2_with (go_at_call 11; go_must (refine (alive_calls w).mono ?_; rintro e w1 ⟨rfl, hb⟩; have HB1 := hid hb; clear hb))
  have hlc := long_calls w1 A c l (H.out.below HB1.out)
  cases hL : longP l with
  | true =>
    rw [hL] at hlc
    have HLC := hid hlc
    clear hL hlc
    go_wp2_with (go_at_call 33; go_must (refine HLC.out.mono ?_; rintro e w2 ⟨rfl, hb⟩; have HB2 := hid hb; clear hb))
    go_ret
    exact ⟨rfl, HB1.out.trans (HB2.out.mono HB1.out.size)⟩
  | false =>
    have hL1 : l.length ≤ 51 ∧ held l ≤ 4000 := by unfold longP at hL; simp at hL; omega
    rw [hL] at hlc
    have HLC := hid hlc
    clear hL hlc
    go_wp2_with (go_at_call 33; go_must (refine HLC.out.mono ?_; rintro e w2 ⟨rfl, hb⟩; have HB2 := hid hb; clear hb))
    go_wp2_with (go_at_call 13; go_must (refine (new_calls _).mono ?_; rintro e w3 ⟨bp, mb, rfl, hb, hbp, hmb, hB⟩; have HB3 := hid hb; have HB4 := hid hB; clear hb hB))
    have hz3 := HB4.out.size
    have hz2 := HB2.out.size
    have hz1 := HB1.out.size
    have hbpl := HB3.out.lt
    have HWW : Hid (Below w.heap.size w w3) := hid ((HB1.out.trans (HB2.out.mono hz1)).trans (HB4.out.mono (by omega)))
    go_loopw [23] (fun v23 wr => ∃ (i n : Nat) (m : List Pm), v23 = .int .i64 i ∧ i ≤ l.length ∧ n ≤ i ∧ m.length ≤ i ∧ Hid (held m ≤ 2000) ∧ Hid (∀ q ∈ m, 0 ≤ q.s ∧ q.s ≤ 65535) ∧ Hid (Bn wr bp mb n m) ∧ Hid (Below w.heap.size w wr)) (fun v23 _ => l.length - numV v23)
    case atStart => exact ⟨0, 0, [], rfl, Nat.zero_le _, Nat.le_refl _, Nat.le_refl _, hid (Nat.zero_le _), hid (fun q hq => by cases hq), HB3, HWW⟩
    case round =>
      obtain ⟨i, n, m, rfl, hil, hni, hmi, HH, HS, HB, HW⟩ := hrel
      have hwr := HW.out.size
      by_cases hlt : i < l.length
      · obtain ⟨ad, rfl, hbl, c0, c1, c2, c3, c4, c5, c6⟩ := (H.out.below HW.out).at i hlt
        obtain ⟨p, hp⟩ : ∃ p, l[i] = p := ⟨_, rfl⟩
        have hin : Inp w p := by rw [← hp]; exact H.out.inp _ (List.getElem_mem hlt)
        have hpl : p.x.length ≤ 4000 := by
          have h1 := held_take_succ l i hlt
          have h2 := held_take_le l (i + 1)
          rw [hp] at h1
          omega
        rw [hp] at c0 c1 c2 c3 c4 c5 c6
        have hokp : Ok w p := hin.ok (by omega)
        have hAp : 0 < p.x.length → ∀ ad, p.A = some ad → ad.block ≠ bp := fun h0 ad e => by
          obtain ⟨ad', e', hlb, _⟩ := hokp.txt 0 h0
          rw [e] at e'
          cases e'
          omega
        obtain ⟨wp, hwp⟩ : ∃ wp, wp = wr.alloc (.cells #[.int .u32 p.t, .int .u16 p.s, .int .u16 p.q, .bool p.b, .bool p.e, .bool p.u, .slice p.A p.x.length p.c] 40) := ⟨_, rfl⟩
        have hbp' : Below wr.heap.size wr wp := by rw [hwp]; exact below_alloc (Below.refl _ _) _
        have hzp : wp.heap.size = wr.heap.size + 1 := by rw [hwp]; simp
        have hbx : Box wp wr.heap.size p := by rw [hwp]; exact Box.new wr p
        have hwp2 : Below w.heap.size w wp := HW.out.trans (hbp'.mono hwr)
        have hbnp := HB.out.below hbp'
        have hput := put_left wp bp mb n m p hbnp (by omega) (by omega) (hokp.below hwp2) hAp HH.out hin.s HS.out
        have HPUT := hid hput
        have HLEN := hid (len_calls wp bp mb n m hbnp)
        have HBX := hid hbx
        have HWP := hid hwp2
        have HUT := hid hin.u
        have HWPE := hid hwp
        have HBPP := hid hbp'
        clear hp hin hput hbnp hbx hwp2 hokp hAp hwp hbp'
        obtain ⟨x0, x1, x2, x3, x4, x5, x6, xf⟩ := HBX.out
        go_upto_region 11 with (first | (go_at_call 16; rw [← HWPE.out]; go_must (refine HLEN.out.mono ?_; rintro e w' ⟨rfl, rfl⟩)) | (go_at_call 14; go_must (refine HPUT.out.mono ?_; rintro e w4 ⟨hm4, m', s4, u4, A4, k4, e4, q4, ok, er, rfl, hLF⟩; have HM4 := hid hm4; have HLF := hid hLF; clear hm4 hLF)))
        obtain ⟨w5, hw5⟩ : ∃ w5, w5 = w4.alloc (.cells #[.int .i64 s4, .bool u4, .slice A4 k4 e4, .int .u16 q4] 45) := ⟨_, rfl⟩
        rw [← hw5]
        obtain ⟨⟨n', hn', hb4⟩, hml, hh', hs', hout⟩ := HLF.out
        have hb45 : Below w4.heap.size w4 w5 := by rw [hw5]; exact below_alloc (Below.refl _ _) _
        have hz4 := HM4.out.size
        have hz5 := hb45.size
        have HB5 := hid (hb4.below hb45)
        have HW5 : Hid (Below w.heap.size w w5) := hid ((Mv.below HWP.out HM4.out (by omega) (by omega) (by omega)).trans (hb45.mono (by omega)))
        have hbx5 : Box w5 wr.heap.size p := (HBX.out.block (HM4.out.block wr.heap.size (by omega) (by have := HB.out.lt; omega) (by have := HB.out.lt; omega))).below hb45
        have HHE := hid hh'
        have HSS := hid hs'
        have HLN := hid hml
        obtain ⟨y0, y1, y2, y3, y4, y5, y6, yf⟩ := hbx5
        clear hw5 hb4 hb45 hh' hs' hml HLF x0 x1 x2 x3 x4 x5 x6 xf c0 c1 c2 c3 c4 c5 c6
        rcases hout with ⟨he, rfl⟩ | ⟨rfl, rfl, hlen, hsome⟩ | ⟨rfl, rfl, hnone⟩
        · rw [show errV er = .iface 81 (.int .i64 er) from if_neg he]
          clear he
          go_upto_region 13 with (fail)
          obtain ⟨w6, hw6⟩ : ∃ w6, w6 = w5 := ⟨_, rfl⟩
          rw [← hw6]
          have HBN : Hid (Bn w6 bp mb n' m') := by rw [hw6]; exact HB5
          have HWX : Hid (Below w.heap.size w w6) := by rw [hw6]; exact HW5
          have hz6 : w5.heap.size ≤ w6.heap.size := by rw [hw6]; exact Nat.le_refl _
          clear hw6 y0 y1 y2 y3 y4 y5 y6 yf
          have hml6 := HLN.out
          have hb6 := HBN.out
          have hu6 := hb6.u
          have hnd6 := hb6.nod
          have hmade := MapIs.made (P := Try.prog) (k := 23) w6 KU
          obtain ⟨w7, hw7⟩ : ∃ w7, w7 = w6.alloc (.map #[] 0) := ⟨_, rfl⟩
          rw [← hw7] at hmade
          have hb67 : Below w6.heap.size w6 w7 := by rw [hw7]; exact below_alloc (Below.refl _ _) _
          have hz7 : w7.heap.size = w6.heap.size + 1 := by rw [hw7]; simp
          have hpc := pieces_calls w7 bp mb n' m' f (hb6.below hb67) (by omega)
          have HMADE := hid hmade
          have HB67 := hid hb67
          have HPC := hid hpc
          have HW7 := hid hw7
          have HU6 := hid hu6
          have HND6 := hid hnd6
          clear hmade hb67 hpc hb6 hw7 hu6 hnd6
          have hmm := @run_makeMap Try.prog
          go_upto_region 14 with (fail)
          rw [← HW7.out]
          go_wp2_with (go_at_call 35; go_must (refine HPC.out.mono ?_; rintro e w8 ⟨A8, c8, l8, rfl, hl8, hR8, hF8, hB8⟩; have HL8 := hid hl8; have HR8 := hid hR8; have HF8 := hid hF8; have HB8 := hid hB8; clear hl8 hR8 hF8 hB8))
          have hz8 := HB8.out.size
          have hlo : l8.length = (ord f m').length := by rw [HL8.out, ord_len f HU6.out HND6.out]
          have hk8 : keys l8 = ord f m' := HF8.out.keys hlo
          have hh8 : held l8 = held m' := HF8.out.held_eq hlo HU6.out HND6.out
          have hn8 : (keys l8).Nodup := by rw [hk8]; exact ord_nodup f HU6.out
          have hu8 : ∀ t ∈ keys l8, U32 t := by rw [hk8]; exact fun t ht => HU6.out t ((ord_str f HU6.out).2 t |>.1 ht)
          have hll8 : l8.length ≤ 1000 := by have := HL8.out; omega
          have HH8 := hid hh8
          have HN8 := hid hn8
          have HU8 := hid hu8
          clear hlo hk8 hh8 hn8 hu8
          go_loopw [12, 70] (fun v12 v70 wr => ∃ j : Nat, j ≤ l8.length ∧ v12 = .int .i64 (held (l8.take j) : Nat) ∧ v70 = .int .i64 j ∧ Hid (MapIs Try.prog 23 wr KU w6.heap.size j (fS (keys (l8.take j))) j) ∧ Hid (Mv w8 wr w6.heap.size w6.heap.size)) (fun v12 v70 _ => l8.length - numV v70)
          case atStart => exact ⟨0, Nat.zero_le _, rfl, rfl, hid ((HMADE.out.below HB8.out).ext fun x _ => rfl), hid (Mv.of_below (Below.refl _ _))⟩
          case round =>
            obtain ⟨j, hjl, rfl, rfl, HMI, HMW⟩ := hrel
            have hzW := HMW.out.size
            by_cases hlt8 : j < l8.length
            · obtain ⟨g8, rfl, _, hgl, c0, c1, c2, c3, c4, c5, c6⟩ := (HR8.out.mv HMW.out (by omega) (by omega)).cells j hlt8
              obtain ⟨q, hq⟩ : ∃ q, l8[j] = q := ⟨_, rfl⟩
              have hqk : q.t ∈ keys l8 := by rw [← hq]; exact List.mem_map.2 ⟨_, List.getElem_mem hlt8, rfl⟩
              have hqn : q.t ∉ keys (l8.take j) := by rw [← hq]; exact fresh_key HN8.out j hlt8
              have hsuc := held_take_succ l8 j hlt8
              have hle8 := held_take_le l8 (j + 1)
              have hks : keys (l8.take (j + 1)) = keys (l8.take j) ++ [q.t] := by rw [List.take_succ_eq_append_getElem hlt8, hq]; exact keys_app _ _
              rw [hq] at c0 c1 c2 c3 c4 c5 c6 hsuc
              obtain ⟨W1, hW1⟩ : ∃ W1, W1 = wr.alloc (.cells #[.int .u32 q.t, .int .u16 q.s, .int .u16 q.q, .bool q.b, .bool q.e, .bool q.u, .slice q.A q.x.length q.c] 40) := ⟨_, rfl⟩
              have hbW : Below wr.heap.size wr W1 := by rw [hW1]; exact below_alloc (Below.refl _ _) _
              have hzW1 : W1.heap.size = wr.heap.size + 1 := by rw [hW1]; simp
              have hbx : Box W1 wr.heap.size q := by rw [hW1]; exact Box.new wr q
              have hmi := HMI.out.below hbW
              have hlk := hmi.lookup Try.underlying90 (Try.zeroValue3 W1) q.t (u_wf (HU8.out _ hqk))
              rw [fS_none hqn] at hlk
              have hlk : (Instr.lookup 90 (.map (some w6.heap.size)) (.int .u32 q.t) false).run Try.prog W1 = .ok (.int .i64 0) W1 := hlk
              obtain ⟨W2, hst, hM2, hT2⟩ := hmi.store Try.underlying90 (by unfold maxLen; omega) q.t (u_wf (HU8.out _ hqk)) (.int .i64 1)
              rw [fS_none hqn] at hM2
              have hst : (Instr.mapUpdate 90 (.map (some w6.heap.size)) (.int .u32 q.t) (.int .i64 1)).run Try.prog W1 = .ok () W2 := hst
              have hM2 := (hM2.ext (g := fS (keys (l8.take (j + 1)))) fun x _ => by rw [hks]; exact fS_upd hqn x)
              have hsum : wrap64 ((held (l8.take j) : Nat) + (q.x.length : Int)) = ((held (l8.take (j + 1)) : Nat) : Int) := by have := HH8.out; have := HHE.out; unfold wrap64; omega
              have HM2 := hid hM2
              have HMW2 : Hid (Mv w8 W2 w6.heap.size w6.heap.size) := hid ((HMW.out.trans (Mv.of_below hbW)).trans (Mv.grown hT2.grown (.inl rfl)))
              have HWE := hid hW1
              obtain ⟨z0, z1, z2, z3, z4, z5, z6, zf⟩ := hbx
              clear hq hqk hqn hsuc hle8 hks hW1 hmi hM2 hT2 hbW
              go_upto_region 17 with (fail)
              rw [← HWE.out]
              go_wp2
              go_roundw
              case rel => exact ⟨j + 1, by omega, by rw [hsum], by simp, HM2, HMW2⟩
              case measure => simp [numV]; omega
            · obtain rfl : j = l8.length := by omega
              have hx := HMI.out.len Try.underlying90
              have hbnW : Bn wr bp mb n' m' := HBN.out.below (Mv.below (HB67.out.trans (HB8.out.mono (by omega))) HMW.out (Nat.le_refl _) (Nat.le_refl _) (by omega))
              have hlc9 := len_calls wr bp mb n' m' hbnW
              have hhc9 := held_calls wr bp mb n' m' hbnW
              have hl8 := HL8.out
              rw [← hl8] at hlc9
              have hh8 := HH8.out
              have hhe := HHE.out
              rw [← hh8] at hhc9
              have d1 : decide ((2000 : Int) < ((held l8 : Nat) : Int)) = false := by simp; omega
              have HBW := hid hbnW
              have HLC9 := hid hlc9
              have HHC9 := hid hhc9
              have HWF : Hid (Below w.heap.size w wr) := hid (HWX.out.trans ((Mv.below (HB67.out.trans (HB8.out.mono (by omega))) HMW.out (Nat.le_refl _) (Nat.le_refl _) (by omega)).mono (by omega)))
              clear hbnW hlc9 hhc9 hl8 hh8 hhe
              rw [List.take_length]
              go_upto_region 20 with (fail)
              go_wp2_with (first | (go_at_call 17; go_must (refine HHC9.out.mono ?_; rintro e w' ⟨rfl, rfl⟩)) | (go_at_call 16; go_must (refine HLC9.out.mono ?_; rintro e w' ⟨rfl, rfl⟩)))
              exact ⟨⟨i + 1, n', m', by simp, by omega, by omega, by omega, HHE, HSS, HBW, HWF⟩, by simp [numV]; omega⟩
        · rw [show errV 0 = .nilIface from rfl]
          have hlc := len_calls w5 bp mb n' m' HB5.out
          rw [hlen] at hlc
          have hac := has_calls w5 bp mb n' m' p.t HB5.out HUT.out
          rw [hsome] at hac
          have HLC5 := hid hlc
          have HAC := hid hac
          have hwm : IntKind.i64.wrap ((m.length : Int) + 1) = ((m.length + 1 : Nat) : Int) := by rw [IntKind.wrap_i64]; omega
          have hwm' : wrap64 ((m.length : Int) + 1) = ((m.length + 1 : Nat) : Int) := by unfold wrap64; omega
          clear hlc hac hsome
          go_upto_region 13 with (first | (go_at_call 16; go_must (refine HLC5.out.mono ?_; rintro e w' ⟨rfl, rfl⟩)) | (go_at_call 37; go_must (refine HAC.out.mono ?_; rintro e w6 ⟨rfl, hb⟩; have HB6 := hid hb; clear hb)))
          have HBN : Hid (Bn w6 bp mb n' m') := hid (HB5.out.below HB6.out)
          have HWX : Hid (Below w.heap.size w w6) := hid (HW5.out.trans (HB6.out.mono (by omega)))
          have hz6 : w5.heap.size ≤ w6.heap.size := HB6.out.size
          clear hwm hwm' y0 y1 y2 y3 y4 y5 y6 yf
          have hml6 := HLN.out
          have hb6 := HBN.out
          have hu6 := hb6.u
          have hnd6 := hb6.nod
          have hmade := MapIs.made (P := Try.prog) (k := 23) w6 KU
          obtain ⟨w7, hw7⟩ : ∃ w7, w7 = w6.alloc (.map #[] 0) := ⟨_, rfl⟩
          rw [← hw7] at hmade
          have hb67 : Below w6.heap.size w6 w7 := by rw [hw7]; exact below_alloc (Below.refl _ _) _
          have hz7 : w7.heap.size = w6.heap.size + 1 := by rw [hw7]; simp
          have hpc := pieces_calls w7 bp mb n' m' f (hb6.below hb67) (by omega)
          have HMADE := hid hmade
          have HB67 := hid hb67
          have HPC := hid hpc
          have HW7 := hid hw7
          have HU6 := hid hu6
          have HND6 := hid hnd6
          clear hmade hb67 hpc hb6 hw7 hu6 hnd6
          have hmm := @run_makeMap Try.prog
          go_upto_region 14 with (fail)
          rw [← HW7.out]
          go_wp2_with (go_at_call 35; go_must (refine HPC.out.mono ?_; rintro e w8 ⟨A8, c8, l8, rfl, hl8, hR8, hF8, hB8⟩; have HL8 := hid hl8; have HR8 := hid hR8; have HF8 := hid hF8; have HB8 := hid hB8; clear hl8 hR8 hF8 hB8))
          have hz8 := HB8.out.size
          have hlo : l8.length = (ord f m').length := by rw [HL8.out, ord_len f HU6.out HND6.out]
          have hk8 : keys l8 = ord f m' := HF8.out.keys hlo
          have hh8 : held l8 = held m' := HF8.out.held_eq hlo HU6.out HND6.out
          have hn8 : (keys l8).Nodup := by rw [hk8]; exact ord_nodup f HU6.out
          have hu8 : ∀ t ∈ keys l8, U32 t := by rw [hk8]; exact fun t ht => HU6.out t ((ord_str f HU6.out).2 t |>.1 ht)
          have hll8 : l8.length ≤ 1000 := by have := HL8.out; omega
          have HH8 := hid hh8
          have HN8 := hid hn8
          have HU8 := hid hu8
          clear hlo hk8 hh8 hn8 hu8
          go_loopw [12, 70] (fun v12 v70 wr => ∃ j : Nat, j ≤ l8.length ∧ v12 = .int .i64 (held (l8.take j) : Nat) ∧ v70 = .int .i64 j ∧ Hid (MapIs Try.prog 23 wr KU w6.heap.size j (fS (keys (l8.take j))) j) ∧ Hid (Mv w8 wr w6.heap.size w6.heap.size)) (fun v12 v70 _ => l8.length - numV v70)
          case atStart => exact ⟨0, Nat.zero_le _, rfl, rfl, hid ((HMADE.out.below HB8.out).ext fun x _ => rfl), hid (Mv.of_below (Below.refl _ _))⟩
          case round =>
            obtain ⟨j, hjl, rfl, rfl, HMI, HMW⟩ := hrel
            have hzW := HMW.out.size
            by_cases hlt8 : j < l8.length
            · obtain ⟨g8, rfl, _, hgl, c0, c1, c2, c3, c4, c5, c6⟩ := (HR8.out.mv HMW.out (by omega) (by omega)).cells j hlt8
              obtain ⟨q, hq⟩ : ∃ q, l8[j] = q := ⟨_, rfl⟩
              have hqk : q.t ∈ keys l8 := by rw [← hq]; exact List.mem_map.2 ⟨_, List.getElem_mem hlt8, rfl⟩
              have hqn : q.t ∉ keys (l8.take j) := by rw [← hq]; exact fresh_key HN8.out j hlt8
              have hsuc := held_take_succ l8 j hlt8
              have hle8 := held_take_le l8 (j + 1)
              have hks : keys (l8.take (j + 1)) = keys (l8.take j) ++ [q.t] := by rw [List.take_succ_eq_append_getElem hlt8, hq]; exact keys_app _ _
              rw [hq] at c0 c1 c2 c3 c4 c5 c6 hsuc
              obtain ⟨W1, hW1⟩ : ∃ W1, W1 = wr.alloc (.cells #[.int .u32 q.t, .int .u16 q.s, .int .u16 q.q, .bool q.b, .bool q.e, .bool q.u, .slice q.A q.x.length q.c] 40) := ⟨_, rfl⟩
              have hbW : Below wr.heap.size wr W1 := by rw [hW1]; exact below_alloc (Below.refl _ _) _
              have hzW1 : W1.heap.size = wr.heap.size + 1 := by rw [hW1]; simp
              have hbx : Box W1 wr.heap.size q := by rw [hW1]; exact Box.new wr q
              have hmi := HMI.out.below hbW
              have hlk := hmi.lookup Try.underlying90 (Try.zeroValue3 W1) q.t (u_wf (HU8.out _ hqk))
              rw [fS_none hqn] at hlk
              have hlk : (Instr.lookup 90 (.map (some w6.heap.size)) (.int .u32 q.t) false).run Try.prog W1 = .ok (.int .i64 0) W1 := hlk
              obtain ⟨W2, hst, hM2, hT2⟩ := hmi.store Try.underlying90 (by unfold maxLen; omega) q.t (u_wf (HU8.out _ hqk)) (.int .i64 1)
              rw [fS_none hqn] at hM2
              have hst : (Instr.mapUpdate 90 (.map (some w6.heap.size)) (.int .u32 q.t) (.int .i64 1)).run Try.prog W1 = .ok () W2 := hst
              have hM2 := (hM2.ext (g := fS (keys (l8.take (j + 1)))) fun x _ => by rw [hks]; exact fS_upd hqn x)
              have hsum : wrap64 ((held (l8.take j) : Nat) + (q.x.length : Int)) = ((held (l8.take (j + 1)) : Nat) : Int) := by have := HH8.out; have := HHE.out; unfold wrap64; omega
              have HM2 := hid hM2
              have HMW2 : Hid (Mv w8 W2 w6.heap.size w6.heap.size) := hid ((HMW.out.trans (Mv.of_below hbW)).trans (Mv.grown hT2.grown (.inl rfl)))
              have HWE := hid hW1
              obtain ⟨z0, z1, z2, z3, z4, z5, z6, zf⟩ := hbx
              clear hq hqk hqn hsuc hle8 hks hW1 hmi hM2 hT2 hbW
              go_upto_region 17 with (fail)
              rw [← HWE.out]
              go_wp2
              go_roundw
              case rel => exact ⟨j + 1, by omega, by rw [hsum], by simp, HM2, HMW2⟩
              case measure => simp [numV]; omega
            · obtain rfl : j = l8.length := by omega
              have hx := HMI.out.len Try.underlying90
              have hbnW : Bn wr bp mb n' m' := HBN.out.below (Mv.below (HB67.out.trans (HB8.out.mono (by omega))) HMW.out (Nat.le_refl _) (Nat.le_refl _) (by omega))
              have hlc9 := len_calls wr bp mb n' m' hbnW
              have hhc9 := held_calls wr bp mb n' m' hbnW
              have hl8 := HL8.out
              rw [← hl8] at hlc9
              have hh8 := HH8.out
              have hhe := HHE.out
              rw [← hh8] at hhc9
              have d1 : decide ((2000 : Int) < ((held l8 : Nat) : Int)) = false := by simp; omega
              have HBW := hid hbnW
              have HLC9 := hid hlc9
              have HHC9 := hid hhc9
              have HWF : Hid (Below w.heap.size w wr) := hid (HWX.out.trans ((Mv.below (HB67.out.trans (HB8.out.mono (by omega))) HMW.out (Nat.le_refl _) (Nat.le_refl _) (by omega)).mono (by omega)))
              clear hbnW hlc9 hhc9 hl8 hh8 hhe
              rw [List.take_length]
              go_upto_region 20 with (fail)
              go_wp2_with (first | (go_at_call 17; go_must (refine HHC9.out.mono ?_; rintro e w' ⟨rfl, rfl⟩)) | (go_at_call 16; go_must (refine HLC9.out.mono ?_; rintro e w' ⟨rfl, rfl⟩)))
              exact ⟨⟨i + 1, n', m', by simp, by omega, by omega, by omega, HHE, HSS, HBW, HWF⟩, by simp [numV]; omega⟩
        · rw [show errV 0 = .nilIface from rfl]
          have hac := has_calls w5 bp mb n' m' p.t HB5.out HUT.out
          rw [hnone] at hac
          have HAC := hid hac
          clear hac hnone
          go_upto_region 13 with (go_at_call 37; go_must (refine HAC.out.mono ?_; rintro e w6 ⟨rfl, hb⟩; have HB6 := hid hb; clear hb))
          have HBN : Hid (Bn w6 bp mb n' m') := hid (HB5.out.below HB6.out)
          have HWX : Hid (Below w.heap.size w w6) := hid (HW5.out.trans (HB6.out.mono (by omega)))
          have hz6 : w5.heap.size ≤ w6.heap.size := HB6.out.size
          clear y0 y1 y2 y3 y4 y5 y6 yf
          have hml6 := HLN.out
          have hb6 := HBN.out
          have hu6 := hb6.u
          have hnd6 := hb6.nod
          have hmade := MapIs.made (P := Try.prog) (k := 23) w6 KU
          obtain ⟨w7, hw7⟩ : ∃ w7, w7 = w6.alloc (.map #[] 0) := ⟨_, rfl⟩
          rw [← hw7] at hmade
          have hb67 : Below w6.heap.size w6 w7 := by rw [hw7]; exact below_alloc (Below.refl _ _) _
          have hz7 : w7.heap.size = w6.heap.size + 1 := by rw [hw7]; simp
          have hpc := pieces_calls w7 bp mb n' m' f (hb6.below hb67) (by omega)
          have HMADE := hid hmade
          have HB67 := hid hb67
          have HPC := hid hpc
          have HW7 := hid hw7
          have HU6 := hid hu6
          have HND6 := hid hnd6
          clear hmade hb67 hpc hb6 hw7 hu6 hnd6
          have hmm := @run_makeMap Try.prog
          go_upto_region 14 with (fail)
          rw [← HW7.out]
          go_wp2_with (go_at_call 35; go_must (refine HPC.out.mono ?_; rintro e w8 ⟨A8, c8, l8, rfl, hl8, hR8, hF8, hB8⟩; have HL8 := hid hl8; have HR8 := hid hR8; have HF8 := hid hF8; have HB8 := hid hB8; clear hl8 hR8 hF8 hB8))
          have hz8 := HB8.out.size
          have hlo : l8.length = (ord f m').length := by rw [HL8.out, ord_len f HU6.out HND6.out]
          have hk8 : keys l8 = ord f m' := HF8.out.keys hlo
          have hh8 : held l8 = held m' := HF8.out.held_eq hlo HU6.out HND6.out
          have hn8 : (keys l8).Nodup := by rw [hk8]; exact ord_nodup f HU6.out
          have hu8 : ∀ t ∈ keys l8, U32 t := by rw [hk8]; exact fun t ht => HU6.out t ((ord_str f HU6.out).2 t |>.1 ht)
          have hll8 : l8.length ≤ 1000 := by have := HL8.out; omega
          have HH8 := hid hh8
          have HN8 := hid hn8
          have HU8 := hid hu8
          clear hlo hk8 hh8 hn8 hu8
          go_loopw [12, 70] (fun v12 v70 wr => ∃ j : Nat, j ≤ l8.length ∧ v12 = .int .i64 (held (l8.take j) : Nat) ∧ v70 = .int .i64 j ∧ Hid (MapIs Try.prog 23 wr KU w6.heap.size j (fS (keys (l8.take j))) j) ∧ Hid (Mv w8 wr w6.heap.size w6.heap.size)) (fun v12 v70 _ => l8.length - numV v70)
          case atStart => exact ⟨0, Nat.zero_le _, rfl, rfl, hid ((HMADE.out.below HB8.out).ext fun x _ => rfl), hid (Mv.of_below (Below.refl _ _))⟩
          case round =>
            obtain ⟨j, hjl, rfl, rfl, HMI, HMW⟩ := hrel
            have hzW := HMW.out.size
            by_cases hlt8 : j < l8.length
            · obtain ⟨g8, rfl, _, hgl, c0, c1, c2, c3, c4, c5, c6⟩ := (HR8.out.mv HMW.out (by omega) (by omega)).cells j hlt8
              obtain ⟨q, hq⟩ : ∃ q, l8[j] = q := ⟨_, rfl⟩
              have hqk : q.t ∈ keys l8 := by rw [← hq]; exact List.mem_map.2 ⟨_, List.getElem_mem hlt8, rfl⟩
              have hqn : q.t ∉ keys (l8.take j) := by rw [← hq]; exact fresh_key HN8.out j hlt8
              have hsuc := held_take_succ l8 j hlt8
              have hle8 := held_take_le l8 (j + 1)
              have hks : keys (l8.take (j + 1)) = keys (l8.take j) ++ [q.t] := by rw [List.take_succ_eq_append_getElem hlt8, hq]; exact keys_app _ _
              rw [hq] at c0 c1 c2 c3 c4 c5 c6 hsuc
              obtain ⟨W1, hW1⟩ : ∃ W1, W1 = wr.alloc (.cells #[.int .u32 q.t, .int .u16 q.s, .int .u16 q.q, .bool q.b, .bool q.e, .bool q.u, .slice q.A q.x.length q.c] 40) := ⟨_, rfl⟩
              have hbW : Below wr.heap.size wr W1 := by rw [hW1]; exact below_alloc (Below.refl _ _) _
              have hzW1 : W1.heap.size = wr.heap.size + 1 := by rw [hW1]; simp
              have hbx : Box W1 wr.heap.size q := by rw [hW1]; exact Box.new wr q
              have hmi := HMI.out.below hbW
              have hlk := hmi.lookup Try.underlying90 (Try.zeroValue3 W1) q.t (u_wf (HU8.out _ hqk))
              rw [fS_none hqn] at hlk
              have hlk : (Instr.lookup 90 (.map (some w6.heap.size)) (.int .u32 q.t) false).run Try.prog W1 = .ok (.int .i64 0) W1 := hlk
              obtain ⟨W2, hst, hM2, hT2⟩ := hmi.store Try.underlying90 (by unfold maxLen; omega) q.t (u_wf (HU8.out _ hqk)) (.int .i64 1)
              rw [fS_none hqn] at hM2
              have hst : (Instr.mapUpdate 90 (.map (some w6.heap.size)) (.int .u32 q.t) (.int .i64 1)).run Try.prog W1 = .ok () W2 := hst
              have hM2 := (hM2.ext (g := fS (keys (l8.take (j + 1)))) fun x _ => by rw [hks]; exact fS_upd hqn x)
              have hsum : wrap64 ((held (l8.take j) : Nat) + (q.x.length : Int)) = ((held (l8.take (j + 1)) : Nat) : Int) := by have := HH8.out; have := HHE.out; unfold wrap64; omega
              have HM2 := hid hM2
              have HMW2 : Hid (Mv w8 W2 w6.heap.size w6.heap.size) := hid ((HMW.out.trans (Mv.of_below hbW)).trans (Mv.grown hT2.grown (.inl rfl)))
              have HWE := hid hW1
              obtain ⟨z0, z1, z2, z3, z4, z5, z6, zf⟩ := hbx
              clear hq hqk hqn hsuc hle8 hks hW1 hmi hM2 hT2 hbW
              go_upto_region 17 with (fail)
              rw [← HWE.out]
              go_wp2
              go_roundw
              case rel => exact ⟨j + 1, by omega, by rw [hsum], by simp, HM2, HMW2⟩
              case measure => simp [numV]; omega
            · obtain rfl : j = l8.length := by omega
              have hx := HMI.out.len Try.underlying90
              have hbnW : Bn wr bp mb n' m' := HBN.out.below (Mv.below (HB67.out.trans (HB8.out.mono (by omega))) HMW.out (Nat.le_refl _) (Nat.le_refl _) (by omega))
              have hlc9 := len_calls wr bp mb n' m' hbnW
              have hhc9 := held_calls wr bp mb n' m' hbnW
              have hl8 := HL8.out
              rw [← hl8] at hlc9
              have hh8 := HH8.out
              have hhe := HHE.out
              rw [← hh8] at hhc9
              have d1 : decide ((2000 : Int) < ((held l8 : Nat) : Int)) = false := by simp; omega
              have HBW := hid hbnW
              have HLC9 := hid hlc9
              have HHC9 := hid hhc9
              have HWF : Hid (Below w.heap.size w wr) := hid (HWX.out.trans ((Mv.below (HB67.out.trans (HB8.out.mono (by omega))) HMW.out (Nat.le_refl _) (Nat.le_refl _) (by omega)).mono (by omega)))
              clear hbnW hlc9 hhc9 hl8 hh8 hhe
              rw [List.take_length]
              go_upto_region 20 with (fail)
              go_wp2_with (first | (go_at_call 17; go_must (refine HHC9.out.mono ?_; rintro e w' ⟨rfl, rfl⟩)) | (go_at_call 16; go_must (refine HLC9.out.mono ?_; rintro e w' ⟨rfl, rfl⟩)))
              exact ⟨⟨i + 1, n', m', by simp, by omega, by omega, by omega, HHE, HSS, HBW, HWF⟩, by simp [numV]; omega⟩
      · obtain rfl : i = l.length := by omega
        go_wp2
        go_ret
        exact ⟨rfl, HW.out⟩
end Go.Proofs.Ythoammfpjheodaa.Rz
