import Derived.Test.YtidbkkebkgeioaaGreatRl
namespace Go.Proofs.YtidbkkebkgeioaaGreat.En
open Go.ChangeShapes Go.WideShapes Go.ChangeAt Go.RowKit Go.Shelf MK
open Base (hid cell_new1 cell_old1 froz_new1 froz_old1)
open TmA
attribute [local go_sem] Oper.semAt_some
set_option linter.unusedVariables false
set_option linter.unusedSimpArgs false
abbrev FW : Fence := Fence.wide
set_option maxRecDepth 100000 in
set_option maxHeartbeats 4000000 in
theorem all1 (n : Nat) (hn : 1 ≤ n) (y bp bt b nn cnt n₀ : Nat) (tm : Tm.M) (J Jx : List (Int × Int) → World → Prop) (W : World)
    (hJ : AbidesFrom W.heap.size J)
    (hY : ∀ pre x W1, J pre W1 → (pre ++ [x]) <+: tm → YieldAt FW (n - 1) Tryz.prog y #[.int .i64 x.1, .int .i64 x.2] W1 fun e W' =>
      (e = .returned (.bool true) ∧ J (pre ++ [x]) W' ∧ KeepC cnt n₀ W1 W') ∨ (e = .returned (.bool false) ∧ Jx (pre ++ [x]) W'))
    (hbp : W.cell? ⟨bp, 0, none⟩ = some (.pointer (some ⟨bt, 0, none⟩))) (hT : Tab W bt b nn tm) (hn0 : n₀ ≤ W.heap.size) (k1 : bp < n₀) (k2 : bt < n₀) (k3 : b < n₀) (k4 : bp ≠ cnt) (k5 : bt ≠ cnt) (k6 : b ≠ cnt) (k7 : cnt < W.heap.size) (hl : tm.length ≤ 1000000) (h0 : J [] W) :
    CallsIn FW n Tryz.prog 32 #[.func (.yield y) #[] #[], .pointer (some ⟨bp, 0, none⟩)] W fun e W' => (∃ v, e = .returned v) ∧
      ((∃ ys, ys = tm ∧ J ys W') ∨ (∃ pre, pre <+: tm ∧ Jx pre W')) := by
  obtain ⟨w2, hw2⟩ : ∃ w2, w2 = W.alloc (.cells #[.map (some b)] 53) := ⟨_, rfl⟩
  have hb2 : Below W.heap.size W w2 := by rw [hw2]; exact below_alloc (Below.refl _ _) _
  have hS := sorted_calls w2 W.heap.size b nn tm hT.ok (fun p hp => (hT.wf p hp).1) (by rw [hw2, cell_new1 _ _ _ _ rfl]; rfl) (hT.map.below hb2) hl
  have hK : Calls Tryz.prog 34 #[.map (some b)] W fun e w' => e = .returned (.func (.func 43) #[] #[.pointer (some ⟨W.heap.size, 0, none⟩)]) ∧ w' = w2 := by
    rw [hw2]
    exact callsIn_wide.1 (AnyZI.keys_in Tryz.keysI Fence.wide 5 trivial rfl (some b) W)
  have hO := own_calls W bt _ hT.ptr ⟨_, rfl⟩
  refine callsIn_of_wp Tryz.func32 rfl trivial ?_ rfl
  simp only [Tryz.ntmps32, List.size_toArray, List.length_cons, List.length_nil, Nat.reduceAdd, Nat.reduceSub, Array.replicate_succ, Array.replicate_zero, List.push_toArray, List.append_toArray, List.nil_append, List.cons_append]
  have f35 : FW.fn 35 := trivial
  have f34 : FW.fn 34 := trivial
  have f33 : FW.fn 33 := trivial
  have HS := hid hS
  have HK := hid hK
  have HO := hid hO
  have HB2 := hid hb2
  have HJ := hid hJ
  have HT := hid hT
  have HY := hid hY
  clear hS hK hO hb2 hJ hT hY hw2
  gi_wp2_with (first
    | (gi_at_call 35; refine (callsIn_wide.2 HO.out).mono ?_; rintro e w' ⟨rfl, rfl⟩)
    | (gi_at_call 34; refine (callsIn_wide.2 HK.out).mono ?_; rintro e w' ⟨rfl, rfl⟩)
    | (gi_at_call 33; refine (callsIn_wide.2 HS.out).mono ?_; rintro e w3 ⟨v, rfl, hr, hb3⟩; obtain ⟨A, c, rfl, _⟩ := Base.slice_of_row hr; have HR := hid hr; have HB3 := hid (HB2.out.trans (hb3.mono HB2.out.size)); clear hr hb3))
  have hs3 := HB3.out.size
  have hk3 : Hid (KeepC cnt n₀ W w3) := hid ⟨hs3, fun k o ho _ _ => (HB3.out.block k (Array.getElem?_eq_some_iff.1 ho).1).trans ho⟩
  have hJ3 : J [] w3 := HJ.out [] W w3 none h0 ⟨HB3.out.os, HB3.out.tape, HB3.out.output, HB3.out.size, fun k hk _ => HB3.out.block k hk⟩ (fun r e => by cases e)
  gi_loopw [10] (fun v wr => ∃ i : Nat, i ≤ tm.length ∧ v = .int .i64 i ∧ J (tm.take i) wr ∧ Hid (KeepC cnt n₀ w3 wr)) (fun v _ => tm.length - (intOf v).toNat)
  case atStart => exact ⟨0, Nat.zero_le _, rfl, hJ3, hid (KeepC.refl _ _ _)⟩
  case round =>
    obtain ⟨i, hil, rfl, hJs, HKP⟩ := hrel
    have HKW : Hid (KeepC cnt n₀ W wr) := hid (hk3.out.trans HKP.out)
    have hptr : wr.cell? ⟨bp, 0, none⟩ = some (.pointer (some ⟨bt, 0, none⟩)) := (World.cell?_of_block (w := W) (a := ⟨bp, 0, none⟩) (HKW.out.block k1 hn0 k4)).trans hbp
    have hTr : Tab wr bt b nn tm := HT.out.kept (HKW.out.block k2 hn0 k5) (HKW.out.block k3 hn0 k6)
    have hrow : wr.ownsRow _ 3 1 (.slice A tm.length c) tm.length ((tm.map (·.1)).map (.int .i64)) := HKP.out.row HR.out (Nat.lt_of_lt_of_le k7 HB2.out.size)
    by_cases hlt : i < tm.length
    · obtain ⟨g, rfl⟩ : ∃ g, A = some ⟨g, 0, none⟩ := by
        obtain ⟨g, c, e, _⟩ := own_some hrow (by omega)
        cases e
        exact ⟨g, rfl⟩
      obtain ⟨p, hp⟩ : ∃ p, tm[i] = p := ⟨_, rfl⟩
      have hmem : p ∈ tm := hp ▸ List.getElem_mem hlt
      have c0 : wr.cell? ⟨g, i, none⟩ = some (.int .i64 p.1) := by
        have h1 := hrow.cells (g := g) rfl i (.int .i64 tm[i].1) (by simp [hlt])
        rw [TmA.add0, hp] at h1
        exact h1
      have hpt := hTr.ptr
      have hlook := Tm.look_of_mem hTr.ok (show (p.1, p.2) ∈ tm from hmem)
      have hlk : (Instr.lookup 53 (.map (some b)) (.int .i64 p.1) false).run Tryz.prog wr = .ok (.int .i64 p.2) wr := by
        have := hTr.map.lookup Tryz.underlying53 (Tryz.zeroValue3 wr) p.1 (hTr.wf p hmem).1
        rw [fI_get, Tm.lk_of_look hlook] at this
        exact this
      have htk : tm.take (i + 1) = tm.take i ++ [p] := by rw [List.take_succ_eq_append_getElem hlt, hp]
      obtain ⟨fn, tmps, assign, body, hy, hR⟩ := HY.out (tm.take i) p wr hJs (by rw [← htk]; exact List.take_prefix _ _)
      have HRR := hid hR
      have HTK := hid htk
      clear hR htk hp hmem hlook hTr hrow
      gi_wp2
      refine HRR.out.mono ?_
      rintro e W5 (⟨rfl, hJ5, hk5⟩ | ⟨rfl, hJx5⟩)
      · have HK5 := hid (HKP.out.trans hk5)
        clear hk5
        gi_wp2
        go_roundw
        case rel => exact ⟨i + 1, by omega, by go_num, by rw [HTK.out]; exact hJ5, HK5⟩
        case measure => simp [intOf]; omega
      · gi_wp2
        refine bodyPost_ret (results_none rfl _ _ _) rfl ?_
        exact ⟨⟨_, rfl⟩, .inr ⟨_, by rw [← HTK.out]; exact List.take_prefix _ _, hJx5⟩⟩
    · obtain rfl : i = tm.length := by omega
      rw [List.take_length] at hJs
      gi_wp2
      go_end0
      exact ⟨⟨_, rfl⟩, .inl ⟨_, rfl, hJs⟩⟩
end Go.Proofs.YtidbkkebkgeioaaGreat.En
