import Derived.Test.YthoammfpjheodaaOrD
namespace Go.Proofs.Ythoammfpjheodaa.Or
open Go.ChangeShapes Go.WideShapes Go.ChangeAt Go.RowKit Go.Shelf MK
open Base (hid cell_new1 cell_old1 froz_new1 froz_old1)
open Rz (below_alloc lt_of_cell add_block Txt box_at box_new box_old setCells_grown grown_setAt own_low own_base txt_row nil_row clone_calls)
attribute [local go_sem] Oper.semAt_some
set_option linter.unusedVariables false
set_option linter.unusedSimpArgs false
set_option maxRecDepth 100000
/-! follow -/
variable {w w' : World} {bp mb n : Nat} {d : Ds} {f : SK → Option Mg} {L : List Mg} {A : Option Addr} {c : Nat}
def numV : Value → Nat
  | .int _ i => i.toNat
  | _ => 0
/-- Between two rounds of follow. -/
structure FolR (d : Ds) (s : Int) (j : Nat) (dd : Ds) : Prop where
  len : j + dd.ws.length = d.ws.length
  eq : fol (d.ws.length + 1) d s = ((fol (dd.ws.length + 1) dd s).1, (fol (dd.ws.length + 1) dd s).2 + j)
  inv : Inv dd
  many : many dd = many d
theorem FolR.zero {d : Ds} {s : Int} (h : Inv d) : FolR d s 0 d := ⟨by omega, rfl, h, rfl⟩
theorem FolR.step {d : Ds} {s : Int} {j : Nat} {dd : Ds} (h : FolR d s j dd) (hs : 0 ≤ s ∧ s ≤ 7) {w : Wt} (hw : lookW dd.ws s (nxt dd.nx s) = some w) : FolR d s (j + 1) (stepD dd s w) := by
  have he := erase_len hw
  have hl : (stepD dd s w).ws.length + 1 = dd.ws.length := he
  refine ⟨by have := h.len; omega, ?_, h.inv.step hs hw, (many_step hw).trans h.many⟩
  rw [h.eq]
  have e : fol (dd.ws.length + 1) dd s = ((fol dd.ws.length (stepD dd s w) s).1, (fol dd.ws.length (stepD dd s w) s).2 + 1) := by
    rw [fol, hw]
  rw [e, hl]
  simp only [Prod.mk.injEq, true_and]
  omega
theorem FolR.stop {d : Ds} {s : Int} {j : Nat} {dd : Ds} (h : FolR d s j dd) (hw : lookW dd.ws s (nxt dd.nx s) = none) : fol (d.ws.length + 1) d s = (dd, j) := by
  rw [h.eq]
  have e : fol (dd.ws.length + 1) dd s = (dd, 0) := by rw [fol, hw]
  rw [e]
  simp
theorem sk_eq {s q : Int} (hs : 0 ≤ s ∧ s ≤ 7) (hq : 0 ≤ q ∧ q ≤ 65535) (k : SK) : k = sk hs hq ↔ (k.1.1 = s ∧ k.1.2 = q) := by
  constructor
  · rintro rfl; exact ⟨rfl, rfl⟩
  · rintro ⟨h1, h2⟩
    exact Subtype.ext (Prod.ext h1 h2)
def delD (d : Ds) (s q : Int) : Ds := ⟨d.nx, d.ws.eraseP (key s q), d.rd⟩
def delF (f : SK → Option Mg) (k : SK) : SK → Option Mg := fun y => if y = k then none else f y
theorem Dk.grownM {d' : Ds} {f' : SK → Option Mg} (h : Dk w bp mb n d f L A c) (hg : w.grownBy w' (some mb)) {n' : Nat} (hm : MapIs Try.prog 117 w' slotKs mb n' (fun k => (f' k).map Mg.val) d'.ws.length) (hnx : d'.nx = d.nx) (hrd : d'.rd = d.rd) (hf : ∀ k : SK, (f' k).map Mg.cm = (lookW d'.ws k.1.1 k.1.2).map (·.2)) (hok : ∀ k m, f' k = some m → MO w' m) : Dk w' bp mb n' d' f' L A c :=
  ⟨by rw [hnx]; exact (hg.block bp h.lt.1 (fun e => h.ne (Option.some.inj e))).trans h.box, by rw [hnx]; exact h.nxl, hm, hf, hok, h.rdy.block fun a e => hg.block _ (h.rdy.lt a e) (fun e2 => (h.ane a e).2 (Option.some.inj e2)), by rw [hrd]; exact h.rdm, fun m hm => (h.rok m hm).kept hg h.ntm⟩
theorem Dk.drop (h : Dk w bp mb n d f L A c) (hi : Unq d.ws) {s q : Int} (hs : 0 ≤ s ∧ s ≤ 7) (hq : 0 ≤ q ∧ q ≤ 65535) {wt : Wt} (hl : lookW d.ws s q = some wt) (ty : TypeId) :
    ∃ w', (Builtin.delete_ #[110, 117] ty #[.map (some mb), .agg #[.int .i64 s, .int .u16 q]]).run Try.prog w = .ok (.tuple #[]) w' ∧ Dk w' bp mb n (delD d s q) (delF f (sk hs hq)) L A c ∧ w.grownBy w' (some mb) := by
  obtain ⟨w1, hrun, hm, hT⟩ := h.map.drop Try.underlying110 (sk hs hq) trivial ty
  have hg := hT.grown
  have hsome : ((f (sk hs hq)).map Mg.val).isSome = true := by
    have := congrArg Option.isSome (h.fm (sk hs hq))
    rw [show lookW d.ws (sk hs hq).1.1 (sk hs hq).1.2 = some wt from hl] at this
    simp only [Option.isSome_map, Option.isSome_some] at this ⊢
    exact this
  refine ⟨w1, hrun, h.grownM hg ?_ rfl rfl (fun k => ?_) (fun k m e => ?_), hg⟩
  · have hlen : (delD d s q).ws.length = d.ws.length - 1 := by have := erase_len hl; simp only [delD]; omega
    rw [hlen]
    rw [hsome, if_pos rfl] at hm
    refine hm.ext fun k _ => ?_
    unfold upd delF
    split <;> rfl
  · unfold delF
    show _ = (lookW (d.ws.eraseP (key s q)) k.1.1 k.1.2).map (·.2)
    rw [look_erase hi]
    by_cases e : k = sk hs hq
    · rw [if_pos e, if_pos ((sk_eq hs hq k).1 e)]
      rfl
    · rw [if_neg e, if_neg (fun e2 => e ((sk_eq hs hq k).2 e2))]
      exact h.fm k
  · unfold delF at e
    split at e
    · cases e
    · exact (h.fok k m e).kept hg h.ntm
def nextD (d : Ds) (s v : Int) : Ds := ⟨d.nx.set s.toNat v, d.ws, d.rd⟩
theorem Dk.next (h : Dk w bp mb n d f L A c) {s : Int} (hs : 0 ≤ s ∧ s ≤ 7) (v : Int) : Dk (w.setCell ⟨bp, s.toNat, none⟩ (.int .u16 v)) bp mb n (nextD d s v) f L A c ∧ w.grownBy (w.setCell ⟨bp, s.toNat, none⟩ (.int .u16 v)) (some bp) := by
  have gs := grown_setAt w bp s.toNat (.int .u16 v)
  refine ⟨⟨setn h.nxl v hs h.box, by simpa [nextD] using h.nxl, h.map.kept gs (fun e => h.ne (Option.some.inj e).symm), h.fm, fun k m e => (h.fok k m e).kept gs h.ntb, ?_, h.rdm, fun m hm => (h.rok m hm).kept gs h.ntb⟩, gs⟩
  exact h.rdy.block fun a e => gs.block _ (h.rdy.lt a e) (fun e2 => (h.ane a e).1 (Option.some.inj e2))
set_option maxHeartbeats 4000000 in
theorem follow_calls (w : World) (bp mb n : Nat) (d : Ds) (f : SK → Option Mg) (L : List Mg) (A : Option Addr) (c : Nat) (h : Dk w bp mb n d f L A c) (hi : Inv d) (hm : many d ≤ 100000) (s : Int) (hs : 0 ≤ s ∧ s ≤ 7) :
    Calls Try.prog 56 #[.pointer (some ⟨bp, 0, none⟩), .int .i64 s] w fun e w' => ∃ f' L' A' c', e = .returned (.int .i64 ((fol (d.ws.length + 1) d s).2 : Nat)) ∧ Dk w' bp mb n (fol (d.ws.length + 1) d s).1 f' L' A' c' ∧ Mv w w' bp mb (blk A) ∧ Nw w (blk A) (blk A') := by
  have H := hid h
  have HI := hid hi
  have HS := hid hs
  obtain ⟨h0, h7⟩ := hs
  clear h hi
  go_enter Try.func56, Try.ntmps56
  go_wp2
  go_loopw [5] (fun v5 wr => ∃ (j : Nat) (dd : Ds) (ff : SK → Option Mg) (LL : List Mg) (AA : Option Addr) (cc : Nat), v5 = .int .i64 j ∧ Hid (FolR d s j dd) ∧ Hid (Dk wr bp mb n dd ff LL AA cc) ∧ Hid (Mv w wr bp mb (blk A)) ∧ Hid (Nw w (blk A) (blk AA))) (fun v5 _ => d.ws.length - numV v5)
  case atStart => exact ⟨0, d, f, L, A, c, rfl, hid (FolR.zero HI.out), H, hid (Mv.of_below (Below.refl _ _)), hid (Nw.refl _ _)⟩
  case round =>
    obtain ⟨j, dd, ff, LL, AA, cc, rfl, HF, HD, HMv, HNw⟩ := hrel
    obtain ⟨nv, hnv⟩ : ∃ nv, nxt dd.nx s = nv := ⟨_, rfl⟩
    have hq : 0 ≤ nv ∧ nv ≤ 65535 := hnv ▸ nxt_rng HF.out.inv.nxl HF.out.inv.nxr HS.out
    have cn := HD.out.cn HS.out
    rw [hnv] at cn
    obtain ⟨W1, hW1⟩ : ∃ W1, W1 = wr.alloc (.cells #[.int .i64 s, .int .u16 nv] 117) := ⟨_, rfl⟩
    have HB1 : Hid (Below wr.heap.size wr W1) := hid (by rw [hW1]; exact below_alloc (Below.refl _ _) _)
    have HK1 : Hid (W1.heap[wr.heap.size]? = some (.cells #[.int .i64 s, .int .u16 nv] 117 (0, 0))) := hid (by rw [hW1]; exact box_new _ _ rfl)
    have HW1 := hid hW1
    clear hW1
    go_upto_region 4 with fail
    rw [← HW1.out]
    have HW1s : Hid (W1.heap.size = wr.heap.size + 1) := hid (by rw [HW1.out]; simp)
    have hgl : wr.heap.size < W1.heap.size := by rw [HW1s.out]; omega
    have HD1 := hid (HD.out.below HB1.out)
    obtain ⟨ov, hov⟩ : ∃ ov, (lookW dd.ws s nv).isSome = ov := ⟨_, rfl⟩
    obtain ⟨vs, vu, vA, vn, vc, hvv⟩ := val_shape (ff (sk HS.out hq))
    have HR1 : Hid (∀ X, Below W1.heap.size W1 X → X.cell? ⟨bp, 8, none⟩ = some (.map (some mb)) ∧ X.cell? ⟨wr.heap.size, 0, none⟩ = some (.int .i64 s) ∧ X.cell? ⟨wr.heap.size, 1, none⟩ = some (.int .u16 nv) ∧ (Instr.lookup 110 (.map (some mb)) (.agg #[.int .i64 s, .int .u16 nv]) true).run Try.prog X = .ok (.tuple #[.agg #[.int .i64 vs, .bool vu, .slice vA vn vc], .bool ov]) X) := hid fun X hX => by
      have hk := (hX.block wr.heap.size hgl).trans HK1.out
      refine ⟨(HD1.out.below hX).c8, (box_at hk 0).1, (box_at hk 1).1, ?_⟩
      rw [← hvv, ← hov]
      exact (HD1.out.below hX).look HS.out hq
    have HVV := hid hvv
    have HOV := hid hov
    clear hvv hov cn
    go_cut [7, 8] (fun v7 v8 wx => v7 = .pointer (some ⟨W1.heap.size, 0, none⟩) ∧ v8 = .bool ov ∧ Hid (MB wx W1.heap.size vs vu vA vn vc) ∧ Hid (Below W1.heap.size W1 wx))
    case first =>
      go_region_held3 (fun X => X.cell? ⟨bp, 8, none⟩ = some (.map (some mb)) ∧ X.cell? ⟨wr.heap.size, 0, none⟩ = some (.int .i64 s) ∧ X.cell? ⟨wr.heap.size, 1, none⟩ = some (.int .u16 nv) ∧ (Instr.lookup 110 (.map (some mb)) (.agg #[.int .i64 s, .int .u16 nv]) true).run Try.prog X = .ok (.tuple #[.agg #[.int .i64 vs, .bool vu, .slice vA vn vc], .bool ov]) X) ((refine HR1.out _ ?_; repeat (first | assumption | exact Below.refl _ _ | refine Below.drew ?_ | refine below_alloc ?_ _))) (fail)
      all_goals
        go_wp2
        go_meet
        case rel => exact ⟨rfl, rfl, hid ((MB.new W1 vs vu vA vn vc rfl).below (Below.drew (Below.refl _ _))), hid (Below.drew (below_alloc (Below.refl _ _) _))⟩
    case rest =>
      obtain ⟨rfl, rfl, HMB, HBC⟩ := hcut
      have HDC := hid (HD1.out.below HBC.out)
      have hBr : Below wr.heap.size wr wc := HB1.out.trans (HBC.out.mono (by omega))
      have HBR := hid hBr
      have hk := (HBC.out.block wr.heap.size hgl).trans HK1.out
      cases ov with
      | false =>
        have hno : lookW dd.ws s (nxt dd.nx s) = none := by
          rw [hnv]
          have := HOV.out
          cases hl : lookW dd.ws s nv with
          | none => rfl
          | some w0 => rw [hl] at this; cases this
        have hst := HF.out.stop hno
        have HST := hid hst
        clear hno hst hk hBr
        go_wp2
        go_ret
        rw [HST.out]
        exact ⟨ff, LL, AA, cc, rfl, HDC.out, HMv.out.trans (Mv.of_below (HBR.out.mono (by omega) |> fun h => ⟨h.os, h.tape, h.output, h.size, h.block⟩)) HNw.out, HNw.out⟩
      | true =>
        obtain ⟨wt, hwt⟩ : ∃ wt, lookW dd.ws s nv = some wt := by
          have := HOV.out
          cases hl : lookW dd.ws s nv with
          | none => rw [hl] at this; cases this
          | some w0 => exact ⟨w0, rfl⟩
        have hfm := HDC.out.fm (sk HS.out hq)
        rw [show lookW dd.ws (sk HS.out hq).1.1 (sk HS.out hq).1.2 = some wt from hwt] at hfm
        obtain ⟨mm, hmm⟩ : ∃ mm, ff (sk HS.out hq) = some mm := by
          cases hf : ff (sk HS.out hq) with
          | none => rw [hf] at hfm; cases hfm
          | some m => exact ⟨m, rfl⟩
        rw [hmm] at hfm
        have hcm : mm.cm = wt.2 := Option.some.inj hfm
        have hvv := HVV.out
        rw [hmm] at hvv
        simp only [Option.map_some, Option.getD_some, Mg.val, msgV, Value.agg.injEq, Array.mk.injEq, List.cons.injEq, Value.int.injEq, Value.bool.injEq, Value.slice.injEq, true_and, and_true] at hvv
        obtain ⟨rfl, rfl, rfl, rfl, rfl⟩ := hvv
        have hgood : goodC mm.cm = true := by rw [hcm]; exact (HF.out.inv.wf wt (look_mem hwt).1).1
        have hml : mm.x.length ≤ 400 := (goodC_x hgood).2
        have hst := HF.out.step HS.out (by rw [hnv]; exact hwt)
        obtain ⟨w3, hrun, hD3, hg3⟩ := (HDC.out.below (Below.drew (Below.refl _ _))).drop HF.out.inv.unq HS.out hq hwt 0
        obtain ⟨k0, _⟩ := box_at hk 0
        obtain ⟨k1, _⟩ := box_at hk 1
        have c8 := HDC.out.c8
        have hlt := HDC.out.lt
        have hltr := HD.out.lt
        have hg3s := hg3.size
        have hgA : ∀ a, AA = some a → a.block < wr.heap.size := HD.out.rdy.lt
        have hMw : Mv w wc bp mb (blk A) := HMv.out.trans (Mv.of_below HBR.out) HNw.out
        have hM3 : Mv w w3 bp mb (blk A) := (hMw.trans (Mv.of_below (Below.drew (Below.refl _ _))) (Nw.refl _ _)).trans (Mv.grown hg3 fun k e => .inr (.inl (Option.some.inj e).symm)) (Nw.refl _ _)
        have hk3 : w3.heap[wr.heap.size]? = some (.cells #[.int .i64 s, .int .u16 nv] 117 (0, 0)) := (hg3.block _ (by have := HBR.out.size; have := (Array.getElem?_eq_some_iff.1 hk).1; exact this) (fun e => by have := Option.some.inj e; omega)).trans hk
        have hmb3 : MB w3 W1.heap.size mm.s mm.u mm.A mm.x.length mm.c := (HMB.out.below (Below.drew (Below.refl _ _))).block (hg3.block _ HMB.out.lt (fun e => by have := Option.some.inj e; have := HD1.out.lt; omega))
        have hmo3 : MO w3 mm := ((HDC.out.fok _ _ hmm).below (Below.drew (Below.refl _ _))).kept hg3 ((HDC.out.below (Below.drew (Below.refl _ _))).ntm)
        have HST := hid hst
        have HM3 := hid hM3
        have HK3 := hid hk3
        have HMB3 := hid hmb3
        have HMO3 := hid hmo3
        have HD3 := hid hD3
        have HCM := hid hcm
        have HGA := hid hgA
        have hL3 : LL.length < 1000000 := by
          have h1 := HD.out.rdl
          have h2 := HF.out.many
          unfold many at h2 hm
          omega
        clear hst hM3 hk3 hmb3 hmo3 hD3 hcm hgA hg3 hk hmm hwt hfm HVV hgood hg3s hMw hBr
        go_upto_region 7 with fail
        go_region
        obtain ⟨m0, m1, m2, mf⟩ := HMB3.out
        clear hrun c8 k0 k1
        go_wp2_with (go_at_call 54; go_must (refine (come_calls w3 bp mb n _ _ LL AA cc HD3.out mm HMO3.out.txt HMO3.out.nil (by omega) hL3).mono ?_; rintro e w4 ⟨rfl, A4, c4, m4, hm4, hd4, hmv4, hnw4⟩))
        have hs4 := hmv4.size
        have hsr := HBR.out.size
        have hgs3 : wr.heap.size < w3.heap.size := (Array.getElem?_eq_some_iff.1 HK3.out).1
        have hk4 : w4.heap[wr.heap.size]? = some (.cells #[.int .i64 s, .int .u16 nv] 117 (0, 0)) := (hmv4.block _ hgs3 (by omega) (by omega) (fun e => by
          cases hA : AA with
          | none => rw [hA] at e; cases e
          | some a =>
            rw [hA] at e
            have := HGA.out a hA
            have e2 : wr.heap.size = a.block := Option.some.inj e
            omega)).trans HK3.out
        obtain ⟨k0, _⟩ := box_at hk4 0
        obtain ⟨k1, _⟩ := box_at hk4 1
        have cn := hd4.cn HS.out
        have cf := hd4.fr s.toNat
        have HD4 := hid hd4
        have hM4 : Mv w w4 bp mb (blk A) := HM3.out.trans hmv4 HNw.out
        have hN4 : Nw w (blk A) (blk A4) := HNw.out.trans (.inl rfl) (Nat.le_refl _) |>.trans hnw4 HM3.out.size
        have HM4 := hid hM4
        have HN4 := hid hN4
        have hst2 : stepD dd s wt = nextD (rdyD (delD dd s nv) mm.cm) s ((nv + 1) % 65536) := by
          rw [HCM.out]
          unfold stepD nextD rdyD delD
          rw [hnv]
        have HST2 := hid hst2
        clear m0 m1 m2 mf hk4 hd4 hM4 hN4 hst2 hmv4 hnw4 hm4 hs4 hsr hgs3
        go_region_with (go_at_call 94; refine (step16 nv _).mono ?_; rintro e w5 ⟨rfl, rfl⟩)
        all_goals
          have hjb : j ≤ 100000 := by
            have h1 := HF.out.len
            unfold many at hm
            omega
          go_wp2
          go_roundw
          case rel =>
            have hnx := HD4.out.next HS.out ((nv + 1) % 65536)
            refine ⟨j + 1, stepD dd s wt, delF ff (sk HS.out hq), LL ++ [m4], A4, c4, by go_num, HST, hid ?_, hid ?_, HN4⟩
            · rw [HST2.out]
              exact hnx.1.below (Below.drew (Below.refl _ _))
            · exact (HM4.out.trans (Mv.grown hnx.2 fun k e => .inl (Option.some.inj e).symm) (Nw.refl _ _)).trans (Mv.of_below (Below.drew (Below.refl _ _))) (Nw.refl _ _)
          case measure =>
            have := HST.out.len
            simp [numV]
            omega
end Go.Proofs.Ythoammfpjheodaa.Or
