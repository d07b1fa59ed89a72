import Derived.Test.YthoammfpjheodaaOrE
namespace Go.Proofs.Ythoammfpjheodaa.Or
open Go.ChangeShapes Go.WideShapes Go.ChangeAt Go.RowKit Go.Shelf MK
open Base (hid cell_new1 cell_old1 froz_new1 froz_old1)
open Rz (below_alloc lt_of_cell add_block Txt box_at box_new box_old setCells_grown grown_setAt own_low own_base txt_row nil_row clone_calls)
attribute [local go_sem] Oper.semAt_some
set_option linter.unusedVariables false
set_option linter.unusedSimpArgs false
set_option maxRecDepth 100000
/-! Put -/
variable {w w' : World} {bp mb n : Nat} {d : Ds} {f : SK → Option Mg} {L : List Mg} {A : Option Addr} {c : Nat}
def putF (f : SK → Option Mg) (k : SK) (m : Mg) : SK → Option Mg := fun y => if y = k then some m else f y
theorem Dk.put (h : Dk w bp mb n d f L A c) (hi : Unq d.ws) {s q : Int} (hs : 0 ≤ s ∧ s ≤ 7) (hq : 0 ≤ q ∧ q ≤ 65535) (hl : lookW d.ws s q = none) (hn : n < 1000000) {m : Mg} (hm : MO w m) (hms : m.s = s) :
    ∃ w', (Instr.mapUpdate 110 (.map (some mb)) (.agg #[.int .i64 s, .int .u16 q]) (.agg #[.int .i64 m.s, .bool m.u, .slice m.A m.x.length m.c])).run Try.prog w = .ok () w' ∧ Dk w' bp mb (n + 1) (insD d m.cm q) (putF f (sk hs hq) m) L A c ∧ w.grownBy w' (some mb) := by
  obtain ⟨w1, hrun, hM, hT⟩ := h.map.store Try.underlying110 (by unfold maxLen; omega) (sk hs hq) trivial m.val
  have hg := hT.grown
  have hnone : ((f (sk hs hq)).map Mg.val).isSome = false := by
    have := congrArg Option.isSome (h.fm (sk hs hq))
    rw [show lookW d.ws (sk hs hq).1.1 (sk hs hq).1.2 = none from hl] at this
    simp only [Option.isSome_map, Option.isSome_none, Option.map_none] at this ⊢
    exact this
  refine ⟨w1, hrun, h.grownM hg ?_ rfl rfl (fun k => ?_) (fun k m' e => ?_), hg⟩
  · rw [hnone, if_neg (by decide)] at hM
    have hlen : (insD d m.cm q).ws.length = d.ws.length + 1 := ins_len
    rw [hlen]
    refine hM.ext fun k _ => ?_
    unfold upd putF
    split <;> rfl
  · unfold putF
    show _ = (lookW (ins d.nx (q, m.cm) d.ws) k.1.1 k.1.2).map (·.2)
    have hms' : (q, m.cm).2.s = s := hms
    rw [look_ins hi (w := (q, m.cm)) (by rw [hms']; exact hl), hms']
    by_cases e : k = sk hs hq
    · obtain ⟨e1, e2⟩ := (sk_eq hs hq k).1 e
      rw [if_pos e, if_pos ⟨e1.symm, e2.symm⟩]
      rfl
    · rw [if_neg e, if_neg (fun e2 => e ((sk_eq hs hq k).2 ⟨e2.1.symm, e2.2.symm⟩))]
      exact h.fm k
  · unfold putF at e
    split at e
    · cases e
      exact hm.kept hg h.ntm
    · exact (h.fok k m' e).kept hg h.ntm
theorem copied_calls' (s : Int) (u : Bool) (B : Option Addr) (x : List Int) (k : Nat) (w : World) (ht : Txt w B x) (hn : B = none → k = 0) (hl : x.length ≤ 1000000) :
    Calls Try.prog 55 #[.agg #[.int .i64 s, .bool u, .slice B x.length k]] w fun e w' => ∃ A' c', e = .returned (.agg #[.int .i64 s, .bool u, .slice A' x.length c']) ∧ Hid (w'.ownsRow w.heap.size 5 1 (.slice A' x.length c') x.length (x.map (.int .u8))) ∧ Hid (Below w.heap.size w w') :=
  copied_calls ⟨s, u, B, x, k⟩ w ht hn hl
set_option maxHeartbeats 4000000 in
theorem put_calls (w : World) (bp mb n : Nat) (d : Ds) (f : SK → Option Mg) (L : List Mg) (A : Option Addr) (c : Nat) (h : Dk w bp mb n d f L A c) (hi : Inv d) (hm : many d ≤ 90000) (hn : n < 1000000) (m : Mg) (q : Int) (hq : 0 ≤ q ∧ q ≤ 65535) (ht : Txt w m.A m.x) (hnil : m.A = none → m.c = 0) :
    Calls Try.prog 22 #[.pointer (some ⟨bp, 0, none⟩), .agg #[.int .i64 m.s, .bool m.u, .slice m.A m.x.length m.c, .int .u16 q]] w fun e w' => ∃ n' f' L' A' c', e = .returned (.tuple #[.int .i64 ((putD d m.cm q).2 : Nat), errV (mayD d m.cm q)]) ∧ Dk w' bp mb n' (putD d m.cm q).1 f' L' A' c' ∧ n' ≤ n + 1 ∧ Mv w w' bp mb (blk A) ∧ Nw w (blk A) (blk A') := by
  obtain ⟨s, u, B, x, k⟩ := m
  dsimp only at ht hnil ⊢
  have H := hid h
  have HI := hid hi
  have HT := hid ht
  have HN := hid hnil
  have hlt := h.lt
  have hLb : L.length < 1000000 := by
    have h1 := h.rdl
    unfold many at hm
    omega
  have HMM := hid hm
  clear h hi ht hnil hm
  obtain ⟨W, hW⟩ : ∃ W, W = w.alloc (.cells #[.int .i64 s, .bool u, .slice B x.length k, .int .u16 q] 45) := ⟨_, rfl⟩
  have HWs : Hid (W.heap.size = w.heap.size + 1) := hid (by rw [hW]; simp)
  have HBW : Hid (Below w.heap.size w W) := hid (by rw [hW]; exact below_alloc (Below.refl _ _) _)
  have HMB : Hid (DB W w.heap.size s u B x.length k q) := hid (by rw [hW]; exact DB.new w s u B x.length k q rfl)
  have HWW := hid hW
  clear hW
  have HD := hid (H.out.below HBW.out)
  have hmay := may_calls W bp mb n d f L A c HD.out s u B x k q hq
  have hcme : (Mg.mk s u B x k).cm = ⟨s, u, x⟩ := rfl
  rw [hcme]
  obtain ⟨er, her⟩ : ∃ er, mayD d ⟨s, u, x⟩ q = er := ⟨_, rfl⟩
  rw [her] at hmay ⊢
  by_cases he0 : er = 0
  · subst he0
    obtain ⟨hg, hcs⟩ := may_zero her
    have hms : 0 ≤ s ∧ s ≤ 7 := goodC_s (m := ⟨s, u, x⟩) hg
    have hmx2 : x.length ≤ 400 := (goodC_x hg).2
    have HMS := hid hms
    obtain ⟨hs0, hs7⟩ := hms
    have hev : errV 0 = .nilIface := rfl
    rw [hev] at hmay ⊢
    have HMAY := hid hmay
    clear hev
    cases u with
    | true =>
      have hp : putD d ⟨s, true, x⟩ q = (rdyD d ⟨s, true, x⟩, 1) := by
        unfold putD
        rw [if_neg (by rw [her]; simp), if_pos rfl]
        rfl
      rw [hp]
      obtain ⟨c0, c1, c2, c3, cf⟩ := HMB.out
      clear hp her hcs hg hmay
      go_enter Try.func22, Try.ntmps22
      go_upto_region 1 with fail
      rw [← HWW.out]
      go_wp2_with (first
        | (go_at_call 53; go_must (refine HMAY.out.mono ?_; rintro e w1 ⟨rfl, hb1⟩; have HB1 := hid hb1; obtain ⟨c0, c1, c2, c3, cf⟩ := HMB.out.below hb1; clear hb1))
        | (go_at_call 54; go_must (refine (come_calls _ bp mb n d f L A c (HD.out.below HB1.out) ⟨s, true, B, x, k⟩ (HT.out.below (HBW.out.trans (HB1.out.mono (by have := HBW.out.size; omega)))) HN.out (by simp; omega) hLb).mono ?_; rintro e w4 ⟨rfl, A4, c4, m4, hm4, hd4, hmv4, hnw4⟩)))
      go_ret2
      have hb01 := HBW.out.trans (HB1.out.mono (by have := HBW.out.size; omega))
      exact ⟨n, f, _, A4, c4, rfl, hd4, by omega, (Mv.of_below hb01).trans hmv4 (Nw.refl _ _), (Nw.refl _ _).trans hnw4 hb01.size⟩
    | false =>
      obtain ⟨hlk, hfar⟩ : lookW d.ws s q = none ∧ farW d.nx s q < 32768 := by
        rcases hcs with h | ⟨_, h⟩
        · cases h
        · exact h
      have hp : putD d ⟨s, false, x⟩ q = fol (d.ws.length + 1) (insD d ⟨s, false, x⟩ q) s := by
        unfold putD
        rw [if_neg (by rw [her]; simp), if_neg (fun h => by cases h)]
      rw [hp]
      have HI2 : Hid (Inv (insD d ⟨s, false, x⟩ q)) := hid (HI.out.ins hg rfl hq hlk)
      have HLK := hid hlk
      obtain ⟨c0, c1, c2, c3, cf⟩ := HMB.out
      clear hp her hcs hg hmay hfar hlk
      go_enter Try.func22, Try.ntmps22
      go_upto_region 1 with fail
      rw [← HWW.out]
      go_upto_region 7 with (go_at_call 53; go_must (refine HMAY.out.mono ?_; rintro e w1 ⟨rfl, hb1⟩; have HB1 := hid hb1; obtain ⟨c0, c1, c2, c3, cf⟩ := HMB.out.below hb1; clear hb1))
      have HD1 := hid (HD.out.below HB1.out)
      have HMB1 := hid (HMB.out.below HB1.out)
      have hlt1 := HD1.out.lt
      have hbl1 := HMB1.out.lt
      have hmne : w.heap.size ≠ mb := by omega
      have HS7 : Hid (∀ X : World, (∀ k, k < w1.heap.size → k ≠ mb → X.heap[k]? = w1.heap[k]?) → X.cell? ⟨bp, 8, none⟩ = some (.map (some mb)) ∧ X.cell? ⟨w.heap.size, 0, none⟩ = some (.int .i64 s) ∧ X.cell? ⟨w.heap.size, 1, none⟩ = some (.bool false) ∧ X.cell? ⟨w.heap.size, 2, none⟩ = some (.slice B x.length k) ∧ X.cell? ⟨w.heap.size, 3, none⟩ = some (.int .u16 q)) := hid fun X hX => by
        have hbx := HMB1.out.block (hX _ hbl1 hmne)
        exact ⟨(World.cell?_of_block (a := ⟨bp, 8, none⟩) (hX bp hlt1.1 HD1.out.ne)).trans HD1.out.c8, hbx.c0, hbx.c1, hbx.c2, hbx.c3⟩
      have HT1 := hid (HT.out.below (HBW.out.trans (HB1.out.mono (by have := HBW.out.size; omega))))
      clear c0 c1 c2 c3 cf
      go_region_held3 (fun X => X.cell? ⟨bp, 8, none⟩ = some (.map (some mb)) ∧ X.cell? ⟨w.heap.size, 0, none⟩ = some (.int .i64 s) ∧ X.cell? ⟨w.heap.size, 1, none⟩ = some (.bool false) ∧ X.cell? ⟨w.heap.size, 2, none⟩ = some (.slice B x.length k) ∧ X.cell? ⟨w.heap.size, 3, none⟩ = some (.int .u16 q)) ((refine HS7.out _ ?_; first | exact (fun k hk _ => rfl) | assumption)) ((go_at_call 55; refine (copied_calls' s false B x k _ (HT1.out.below (Below.drew (Below.refl _ _))) HN.out (by omega)).mono ?_; rintro e w5 ⟨A', c', rfl, HO5, HB5⟩; obtain ⟨w6, hrun, hd6, hg6⟩ := ((HD1.out.below (Below.drew (Below.refl _ _))).below HB5.out).put HI.out.unq HMS.out hq HLK.out hn (m := ⟨s, false, A', x, c'⟩) (own_low HO5.out (Nat.zero_le _)) rfl; have hrun2 : (Instr.mapUpdate 110 (.map (some mb)) (.agg #[.int .i64 s, .int .u16 q]) (.agg #[.int .i64 s, .bool false, .slice A' x.length c'])).run Try.prog w5 = .ok () w6 := hrun; have HD6 := hid hd6; have HG6 := hid hg6; have hkk : ∀ k, k < w1.heap.size → k ≠ mb → w5.heap[k]? = w1.heap[k]? := fun k hk _ => HB5.out.block k hk; have hkk3 : ∀ k, k < w1.heap.size → k ≠ mb → w6.heap[k]? = w1.heap[k]? := (fun k hk hne => (hg6.block k (Nat.lt_of_lt_of_le hk HB5.out.size) (fun e => hne (by cases e; rfl))).trans (HB5.out.block k hk)); clear hd6 hg6 hrun))
      have HCS := hid (HS7.out w6 hkk3)
      obtain ⟨y8, y0, y1, y2, y3⟩ := HCS.out
      have HM6 : Hid (Mv w w6 bp mb (blk A)) := hid (((((Mv.of_below HBW.out).trans (Mv.of_below HB1.out) (Nw.refl _ _)).trans (Mv.of_below (Below.drew (Below.refl _ _))) (Nw.refl _ _)).trans (Mv.of_below HB5.out) (Nw.refl _ _)).trans (Mv.grown HG6.out fun k e => .inr (.inl (Option.some.inj e).symm)) (Nw.refl _ _))
      have hmany : many (insD d ⟨s, false, x⟩ q) ≤ 100000 := by
        have := HMM.out
        unfold many at this ⊢
        unfold insD
        simp only [ins_len]
        omega
      have hil : (insD d ⟨s, false, x⟩ q).ws.length = d.ws.length + 1 := ins_len
      have hfe : fol ((insD d ⟨s, false, x⟩ q).ws.length + 1) (insD d ⟨s, false, x⟩ q) s = fol (d.ws.length + 1) (insD d ⟨s, false, x⟩ q) s := by
        rw [hil]
        exact fol_more (d.ws.length + 1) 1 _ (by rw [hil]; omega)
      have hfol := follow_calls w6 bp mb (n + 1) (insD d ⟨s, false, x⟩ q) _ L A c HD6.out HI2.out hmany s HMS.out
      rw [hfe] at hfol
      have HFOL := hid hfol
      clear hkk hkk3 hrun2 hfol hfe hil hmany
      go_wp2_with (go_at_call 56; go_must (refine HFOL.out.mono ?_; rintro e w7 ⟨f7, L7, A7, c7, rfl, hd7, hm7, hn7⟩))
      go_ret2
      exact ⟨n + 1, f7, L7, A7, c7, rfl, hd7, by omega, HM6.out.trans hm7 (Nw.refl _ _), (Nw.refl _ _).trans hn7 HM6.out.size⟩
  · have hp : putD d ⟨s, u, x⟩ q = (d, 0) := put_bad (by rw [her]; exact he0)
    rw [hp]
    have hev : errV er = .iface 81 (.int .i64 er) := by unfold errV; rw [if_neg he0]
    rw [hev] at hmay ⊢
    have HMAY := hid hmay
    obtain ⟨c0, c1, c2, c3, cf⟩ := HMB.out
    clear hp her hmay hev
    go_enter Try.func22, Try.ntmps22
    go_upto_region 1 with fail
    rw [← HWW.out]
    go_wp2_with (go_at_call 53; go_must (refine HMAY.out.mono ?_; rintro e w1 ⟨rfl, hb1⟩; have HB1 := hid hb1; clear hb1))
    go_ret2
    have hb01 := HBW.out.trans (HB1.out.mono (by have := HBW.out.size; omega))
    exact ⟨n, f, L, A, c, rfl, H.out.below hb01, by omega, Mv.of_below hb01, Nw.refl _ _⟩
end Go.Proofs.Ythoammfpjheodaa.Or
