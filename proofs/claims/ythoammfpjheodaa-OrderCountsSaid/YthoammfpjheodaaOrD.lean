import Derived.Test.YthoammfpjheodaaOrC
import Derived.Deep.DeepCutAuto
import Derived.Deep.CutBlock
namespace Go.Proofs.Ythoammfpjheodaa.Or
open Go.ChangeShapes Go.WideShapes Go.ChangeAt Go.RowKit Go.Shelf MK
open Base (hid cell_new1 cell_old1 froz_new1 froz_old1)
open Rz (below_alloc lt_of_cell add_block Txt box_at box_new box_old setCells_grown grown_setAt own_low own_base txt_row nil_row clone_calls)
attribute [local go_sem] Oper.semAt_some
set_option linter.unusedVariables false
set_option linter.unusedSimpArgs false
set_option maxRecDepth 100000
/-! may, New -/
variable {w w' : World} {bp mb n : Nat} {d : Ds} {f : SK → Option Mg} {L : List Mg} {A : Option Addr} {c : Nat}
def errV (n : Int) : Value := if n = 0 then .nilIface else .iface 81 (.int .i64 n)
theorem i64_wf {s : Int} (h : 0 ≤ s ∧ s ≤ 7) : (Lit.int .i64 s).wf = true := by
  simp [Lit.wf, IntKind.min, IntKind.max, IntKind.signed, IntKind.bits]
  omega
theorem u16_wf {s : Int} (h : 0 ≤ s ∧ s ≤ 65535) : (Lit.int .u16 s).wf = true := by
  simp [Lit.wf, IntKind.min, IntKind.max, IntKind.signed, IntKind.bits]
  omega
def sk {s q : Int} (hs : 0 ≤ s ∧ s ≤ 7) (hq : 0 ≤ q ∧ q ≤ 65535) : SK := ⟨(s, q), i64_wf hs, u16_wf hq⟩
theorem Dk.look (h : Dk w bp mb n d f L A c) {s q : Int} (hs : 0 ≤ s ∧ s ≤ 7) (hq : 0 ≤ q ∧ q ≤ 65535) :
    (Instr.lookup 110 (.map (some mb)) (.agg #[.int .i64 s, .int .u16 q]) true).run Try.prog w = .ok (.tuple #[((f (sk hs hq)).map Mg.val).getD zM, .bool (lookW d.ws s q).isSome]) w := by
  have := h.map.look_ok Try.underlying110 (Try.zeroValue34 w) (sk hs hq) trivial
  have e : ((f (sk hs hq)).map Mg.val).isSome = (lookW d.ws s q).isSome := by
    have := congrArg Option.isSome (h.fm (sk hs hq))
    simp only [Option.isSome_map] at this ⊢
    exact this
  rw [e] at this
  exact this
/-- A message and its seq in a box. -/
structure DB (w : World) (b : Nat) (s : Int) (u : Bool) (A : Option Addr) (n c : Nat) (q : Int) : Prop where
  c0 : w.cell? ⟨b, 0, none⟩ = some (.int .i64 s)
  c1 : w.cell? ⟨b, 1, none⟩ = some (.bool u)
  c2 : w.cell? ⟨b, 2, none⟩ = some (.slice A n c)
  c3 : w.cell? ⟨b, 3, none⟩ = some (.int .u16 q)
  fr : ∀ i, w.frozen? ⟨b, i, none⟩ = false
theorem DB.lt {w : World} {b : Nat} {s : Int} {u : Bool} {A : Option Addr} {n c : Nat} {q : Int} (h : DB w b s u A n c q) : b < w.heap.size := lt_of_cell h.c0
theorem DB.block {w w' : World} {b : Nat} {s : Int} {u : Bool} {A : Option Addr} {n c : Nat} {q : Int} (h : DB w b s u A n c q) (hb : w'.heap[b]? = w.heap[b]?) : DB w' b s u A n c q :=
  ⟨(World.cell?_of_block (a := ⟨b, 0, none⟩) hb).trans h.c0, (World.cell?_of_block (a := ⟨b, 1, none⟩) hb).trans h.c1, (World.cell?_of_block (a := ⟨b, 2, none⟩) hb).trans h.c2, (World.cell?_of_block (a := ⟨b, 3, none⟩) hb).trans h.c3, fun i => (World.frozen?_of_block (a := ⟨b, i, none⟩) hb).trans (h.fr i)⟩
theorem DB.below {w w' : World} {b : Nat} {s : Int} {u : Bool} {A : Option Addr} {n c : Nat} {q : Int} (h : DB w b s u A n c q) (hb : Below w.heap.size w w') : DB w' b s u A n c q := h.block (hb.block b h.lt)
theorem DB.new (w : World) (s : Int) (u : Bool) (A : Option Addr) (n c : Nat) (q : Int) {b : Nat} (hb : b = w.heap.size) : DB (w.alloc (.cells #[.int .i64 s, .bool u, .slice A n c, .int .u16 q] 45)) b s u A n c q := by
  subst hb
  have h := box_new w (.cells #[.int .i64 s, .bool u, .slice A n c, .int .u16 q] 45) rfl
  exact ⟨(box_at h 0).1, (box_at h 1).1, (box_at h 2).1, (box_at h 3).1, fun i => (box_at h i).2⟩
theorem new_calls (w : World) : Calls Try.prog 20 #[] w fun e w' => ∃ bp mb, e = .returned (.pointer (some ⟨bp, 0, none⟩)) ∧ Dk w' bp mb 0 d0 (fun _ => none) [] none 0 ∧ w.heap.size ≤ bp ∧ w.heap.size ≤ mb ∧ Below w.heap.size w w' := by
  have hmm := @run_makeMap Try.prog
  go_enter Try.func20, Try.ntmps20
  go_wp2
  go_ret
  refine ⟨w.heap.size + 1, w.heap.size, rfl, ⟨?_, rfl, ?_, fun _ => rfl, (fun k m e => by cases e), RO.nil _, rfl, (fun m hm => by cases hm)⟩, by omega, Nat.le_refl _, ((Below.refl _ w).alloc (Nat.le_refl _) _).alloc (by simp) _⟩
  · exact box_new _ _ (by simp)
  · exact (MapIs.made w slotKs).below (below_alloc (Below.refl _ _) _)
theorem val_shape (o : Option Mg) : ∃ s u A n c, (o.map Mg.val).getD zM = .agg #[.int .i64 s, .bool u, .slice A n c] := by
  cases o with
  | none => exact ⟨_, _, _, _, _, rfl⟩
  | some m => exact ⟨_, _, _, _, _, rfl⟩
theorem below_drewN {B : Nat} {w w' : World} (h : Below B w w') (n : Nat) : Below B w (w'.drewN n) := ⟨h.os, h.tape, h.output, h.size, h.block⟩
def neB (a b : Int) : Bool := !decide (a = b)
set_option maxHeartbeats 4000000 in
theorem may_calls (w : World) (bp mb n : Nat) (d : Ds) (f : SK → Option Mg) (L : List Mg) (A : Option Addr) (c : Nat) (h : Dk w bp mb n d f L A c) (s : Int) (u : Bool) (B : Option Addr) (x : List Int) (k : Nat) (q : Int) (hq : 0 ≤ q ∧ q ≤ 65535) :
    Calls Try.prog 53 #[.pointer (some ⟨bp, 0, none⟩), .agg #[.int .i64 s, .bool u, .slice B x.length k, .int .u16 q]] w fun e w' => e = .returned (errV (mayD d ⟨s, u, x⟩ q)) ∧ Below w.heap.size w w' := by
  have H := hid h
  have hlt := h.lt
  clear h
  obtain ⟨W, hW⟩ : ∃ W, W = w.alloc (.cells #[.int .i64 s, .bool u, .slice B x.length k, .int .u16 q] 45) := ⟨_, rfl⟩
  have hWs : W.heap.size = w.heap.size + 1 := by rw [hW]; simp
  have HBW : Hid (Below w.heap.size w W) := hid (by rw [hW]; exact below_alloc (Below.refl _ _) _)
  have HMB : Hid (DB W w.heap.size s u B x.length k q) := hid (by rw [hW]; exact DB.new w s u B x.length k q rfl)
  have HWW := hid hW
  clear hW
  cases hg : goodN s x.length with
  | false =>
    have hm : mayD d ⟨s, u, x⟩ q = 2 := by unfold mayD; rw [if_pos (show goodC ⟨s, u, x⟩ = false from hg)]
    have HM := hid hm
    have HG := hid hg
    clear hm hg
    obtain ⟨c0, c1, c2, c3, cf⟩ := HMB.out
    go_enter Try.func53, Try.ntmps53
    go_upto_region 1 with fail
    rw [← HWW.out]
    go_wp2_with (go_at_call 42; go_must (refine (good_calls s u B x.length k _).mono ?_; rintro e w1 ⟨he, hb1⟩; rw [HG.out] at he; subst he; have HB1 := hid hb1; clear hb1))
    go_ret
    rw [HM.out]
    exact ⟨rfl, HBW.out.trans (HB1.out.mono (by omega))⟩
  | true =>
    have HG := hid hg
    obtain ⟨hs, _⟩ : (0 ≤ s ∧ s ≤ 7) ∧ True := ⟨goodC_s (m := ⟨s, u, x⟩) hg, trivial⟩
    cases u with
    | true =>
      have hm : mayD d ⟨s, true, x⟩ q = 0 := by unfold mayD; rw [if_neg (show ¬ goodC ⟨s, true, x⟩ = false by rw [show goodC ⟨s, true, x⟩ = true from hg]; decide), if_pos rfl]
      have HM := hid hm
      clear hm hg
      obtain ⟨c0, c1, c2, c3, cf⟩ := HMB.out
      go_enter Try.func53, Try.ntmps53
      go_upto_region 1 with fail
      rw [← HWW.out]
      go_wp2_with (go_at_call 42; go_must (refine (good_calls s true B x.length k _).mono ?_; rintro e w1 ⟨he, hb1⟩; rw [HG.out] at he; subst he; have HB1 := hid hb1; obtain ⟨c0, c1, c2, c3, cf⟩ := HMB.out.below hb1; clear hb1))
      go_ret
      rw [HM.out]
      exact ⟨rfl, HBW.out.trans (HB1.out.mono (by omega))⟩
    | false =>
      have hm : mayD d ⟨s, false, x⟩ q = if (lookW d.ws s q).isSome = true ∨ 32768 ≤ farW d.nx s q then 12 else 0 := by
        unfold mayD
        rw [if_neg (show ¬ goodC ⟨s, false, x⟩ = false by rw [show goodC ⟨s, false, x⟩ = true from hg]; decide), if_neg (fun h => by cases h)]
      have HM := hid hm
      have HS := hid hs
      clear hm hg
      obtain ⟨c0, c1, c2, c3, cf⟩ := HMB.out
      go_enter Try.func53, Try.ntmps53
      go_upto_region 1 with fail
      rw [← HWW.out]
      go_upto_region 7 with (go_at_call 42; go_must (refine (good_calls s false B x.length k _).mono ?_; rintro e w1 ⟨he, hb1⟩; rw [HG.out] at he; subst he; have HB1 := hid hb1; have HMB1 := hid (HMB.out.below hb1); have HD1 := hid ((H.out.below HBW.out).below hb1); obtain ⟨c0, c1, c2, c3, cf⟩ := HMB.out.below hb1; clear hb1))
      have cn := HD1.out.cn HS.out
      have c8 := HD1.out.c8
      have hl := HD1.out.look HS.out hq
      obtain ⟨nv, hnv⟩ : ∃ nv, nxt d.nx s = nv := ⟨_, rfl⟩
      obtain ⟨ov, hov⟩ : ∃ ov, (lookW d.ws s q).isSome = ov := ⟨_, rfl⟩
      obtain ⟨vs, vu, vA, vn, vc, hvv⟩ := val_shape (f (sk HS.out hq))
      rw [hnv] at cn
      rw [hov, hvv] at hl
      obtain ⟨h0, h7⟩ := HS.out
      go_quiet (fail)
      have HB2 : Hid (Below W.heap.size W (w1.drewN nq)) := hid (below_drewN HB1.out nq)
      have HMB2 := hid (HMB.out.below HB2.out)
      have HD2 := hid ((H.out.below HBW.out).below HB2.out)
      have hl2 : (Instr.lookup 110 (.map (some mb)) (.agg #[.int .i64 s, .int .u16 q]) true).run Try.prog (w1.drewN nq) = .ok (.tuple #[.agg #[.int .i64 vs, .bool vu, .slice vA vn vc], .bool ov]) (w1.drewN nq) := by
        rw [← hvv, ← hov]
        exact HD2.out.look HS.out hq
      clear cn c8 hl c0 c1 c2 c3 cf
      generalize w1.drewN nq = w2 at HB2 HMB2 HD2 hl2 ⊢
      have HS2 : Hid (∀ X, Below w2.heap.size w2 X → X.cell? ⟨bp, 8, none⟩ = some (.map (some mb)) ∧ X.cell? ⟨w.heap.size, 0, none⟩ = some (.int .i64 s) ∧ X.cell? ⟨w.heap.size, 3, none⟩ = some (.int .u16 q) ∧ (Instr.lookup 110 (.map (some mb)) (.agg #[.int .i64 s, .int .u16 q]) true).run Try.prog X = .ok (.tuple #[.agg #[.int .i64 vs, .bool vu, .slice vA vn vc], .bool ov]) X) := hid fun X hX => ⟨(HD2.out.below hX).c8, (HMB2.out.below hX).c0, (HMB2.out.below hX).c3, by
        rw [← hvv, ← hov]
        exact (HD2.out.below hX).look HS.out hq⟩
      clear hl2
      go_upto_region 8 with fail
      go_region_held3 (fun X => X.cell? ⟨bp, 8, none⟩ = some (.map (some mb)) ∧ X.cell? ⟨w.heap.size, 0, none⟩ = some (.int .i64 s) ∧ X.cell? ⟨w.heap.size, 3, none⟩ = some (.int .u16 q) ∧ (Instr.lookup 110 (.map (some mb)) (.agg #[.int .i64 s, .int .u16 q]) true).run Try.prog X = .ok (.tuple #[.agg #[.int .i64 vs, .bool vu, .slice vA vn vc], .bool ov]) X) ((refine HS2.out _ ?_; repeat (first | assumption | exact Below.refl _ _ | refine Below.drew ?_ | refine below_alloc ?_ _))) (fail)
      all_goals
        have HBX : Hid (Below w2.heap.size w2 (w2.alloc (.cells #[.int .i64 vs, .bool vu, .slice vA vn vc] 34)).drew) := hid (Below.drew (below_alloc (Below.refl _ _) _))
        have hx3 := (HMB2.out.below HBX.out).c3
        have HFIN : Hid (∀ Y, Below (w2.alloc (.cells #[.int .i64 vs, .bool vu, .slice vA vn vc] 34)).drew.heap.size (w2.alloc (.cells #[.int .i64 vs, .bool vu, .slice vA vn vc] 34)).drew Y → Below w.heap.size w Y) := hid fun Y hY => HBW.out.trans ((HB2.out.trans (HBX.out.trans (hY.mono HBX.out.size) |>.mono HB2.out.size)).mono (by omega))
        generalize (w2.alloc (.cells #[.int .i64 vs, .bool vu, .slice vA vn vc] 34)).drew = X at HBX hx3 HFIN ⊢
        have HM2 := HM.out
        unfold farW at HM2
        rw [hov, hnv] at HM2
        cases ov with
        | true =>
          rw [if_pos (.inl rfl)] at HM2
          have HMM := hid HM2
          clear HM2
          go_wp2
          go_ret
          rw [HMM.out]
          exact ⟨rfl, HFIN.out _ (Below.refl _ _)⟩
        | false =>
          by_cases he : q = nv
          · have hd : (q == nv) = true := by simpa using he
            have hd2 : (q != nv) = false := by simp [he]
            rw [if_neg (by subst he; simp)] at HM2
            have HMM := hid HM2
            clear HM2 he
            go_wp2_with fail
            go_ret
            rw [HMM.out]
            exact ⟨rfl, HFIN.out _ (Below.refl _ _)⟩
          · have hd : (q == nv) = false := by simpa using he
            have hd2 : (q != nv) = true := by simp [he]
            by_cases hf : (q - nv) % 65536 < 32768
            · rw [if_neg (by simp; omega)] at HM2
              have HMM := hid HM2
              have HAH : Hid ((!decide (nv = q) && decide ((q - nv) % 65536 < 32768)) = true) := hid (by simp; omega)
              clear HM2 he hf
              go_wp2_with (go_at_call 93; go_must (refine (ahead16 nv q _).mono ?_; rintro e w5 ⟨he, rfl⟩; rw [HAH.out] at he; subst he))
              go_ret
              rw [HMM.out]
              exact ⟨rfl, HFIN.out _ (Below.refl _ _)⟩
            · rw [if_pos (.inr (by omega))] at HM2
              have HMM := hid HM2
              have HAH : Hid ((!decide (nv = q) && decide ((q - nv) % 65536 < 32768)) = false) := hid (by simp; omega)
              clear HM2 he hf
              go_wp2_with (go_at_call 93; go_must (refine (ahead16 nv q _).mono ?_; rintro e w5 ⟨he, rfl⟩; rw [HAH.out] at he; subst he))
              go_ret
              rw [HMM.out]
              exact ⟨rfl, HFIN.out _ (Below.refl _ _)⟩
end Go.Proofs.Ythoammfpjheodaa.Or
