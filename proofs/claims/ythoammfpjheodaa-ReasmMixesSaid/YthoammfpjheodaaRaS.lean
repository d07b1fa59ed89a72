import Derived.Test.YthoammfpjheodaaRaY
import Derived.Test.YthoammfpjheodaaRaO
import Derived.Test.YthoammfpjheodaaRzV
namespace Go.Proofs.Ythoammfpjheodaa.Rz
open Go.ChangeShapes Go.WideShapes Go.ChangeAt Go.RowKit Go.Shelf MK Go.Joins
open Base (hid cell_new1 cell_old1 froz_new1 froz_old1)
attribute [local go_sem] Oper.semAt_some
set_option linter.unusedVariables false
set_option linter.unusedSimpArgs false
set_option maxRecDepth 100000
/-! stands -/
theorem Sim.mem {m r : List Pm} (h : Sim m r) {p : Pm} (hp : p ∈ m) : ∃ q ∈ r, core p = core q := by
  have : core p ∈ m.map core := List.mem_map.2 ⟨p, hp, rfl⟩
  unfold Sim at h
  rw [h] at this
  obtain ⟨q, hq, e⟩ := List.mem_map.1 this
  exact ⟨q, hq, e.symm⟩
/-- What a piece keeps, wherever its text lies. -/
structure Good1 (p : Pm) : Prop where
  u : U32 p.t
  s : 0 ≤ p.s ∧ p.s ≤ 65535
  q : 0 ≤ p.q ∧ p.q ≤ 65535
  by_ : By p.x
  l : p.x.length ≤ 140737488351232
theorem Good1.of_core {p q : Pm} (h : core p = core q) (hq : Good1 q) : Good1 p := by
  obtain ⟨e1, e2, e3, e4, e5, e6, e7⟩ := core_eq h
  exact ⟨e1 ▸ hq.u, e2 ▸ hq.s, e3 ▸ hq.q, e7 ▸ hq.by_, e7 ▸ hq.l⟩
theorem Inp.good {w : World} {p : Pm} (h : Inp w p) : Good1 p := ⟨h.u, h.s, h.q, h.by_, h.l⟩
theorem Good1.inp {w : World} {p : Pm} (h : Good1 p) (ht : Txt w p.A p.x) (hn : p.A = none → p.c = 0) : Inp w p := ⟨ht, hn, h.u, h.s, h.l, h.q, h.by_⟩
theorem Cop.inp {B : Nat} {w : World} {p q : Pm} (h : Cop B w p q) (hp : Good1 p) : Inp w q := by
  refine Good1.inp (Good1.of_core (by rw [h.eq]; rfl) hp) (txt_row h.own) (fun e => ?_)
  have := h.own
  rw [e] at this
  exact nil_row this
theorem Fresh.inp {B : Nat} {w : World} {m : List Pm} {ts : List Int} {l : List Pm} (h : Fresh B w m ts l) (hg : ∀ p ∈ m, Good1 p) : ∀ q ∈ l, Inp w q := by
  intro q hq
  obtain ⟨i, hi, rfl⟩ := List.getElem_of_mem hq
  obtain ⟨p, hp, hc⟩ := h.at_ i hi (by have := h.len; omega)
  exact hc.inp (hg p (look_mem hp).1)
set_option maxHeartbeats 4000000 in
theorem stands_calls (w : World) (bp mb n : Nat) (m : List Pm) (A : Option Addr) (c : Nat) (r : List Pm) (f : Int) (hB : Bn w bp mb n m) (hr : InR w A c r) (hs : Sim m r) (hm : m.length ≤ 1000) (hh : held m ≤ 2000) (hx : ∀ p ∈ m, p.x.length ≤ 1000000) :
    Calls Try.prog 36 #[.pointer (some ⟨bp, 0, none⟩), .slice A r.length c, .int .u32 f] w fun e w' => e = .returned (.bool true) ∧ Below w.heap.size w w' := by
  have hgood : ∀ p ∈ m, Good1 p := fun p hp => by
    obtain ⟨q, hq, e⟩ := hs.mem hp
    exact Good1.of_core e (hr.inp q hq).good
  have hlen := hs.len
  have hheld := hs.held
  have hl16 := len_calls w bp mb n m hB
  have hl17 := held_calls w bp mb n m hB
  have hl81 := rheld_calls w A c r hr (by rw [← hheld]; omega)
  rw [hlen] at hl16
  rw [hheld] at hl17
  have H := hid hB
  have HR := hid hr
  have HS := hid hs
  have HG := hid hgood
  have HLEN := hid hlen
  have HX := hid hx
  have H16 := hid hl16
  have H17 := hid hl17
  have H81 := hid hl81
  clear hB hr hs hgood hlen hheld hl16 hl17 hl81 hx
  go_enter Try.func36, Try.ntmps36
  go_wp2_with (first
    | (go_at_call 16; go_must (refine H16.out.mono ?_; rintro e w' ⟨rfl, rfl⟩))
    | (go_at_call 17; go_must (refine H17.out.mono ?_; rintro e w' ⟨rfl, rfl⟩))
    | (go_at_call 81; go_must (refine H81.out.mono ?_; rintro e w' ⟨rfl, rfl⟩))
    | (go_at_call 35; go_must (refine (pieces_calls w bp mb n m f H.out hm).mono ?_; rintro e w1 ⟨A1, c1, l1, rfl, hl1, hr1, hf1, hb1⟩; have HL1 := hid hl1; have HR1 := hid hr1; have HF1 := hid hf1; have HB1 := hid hb1; clear hl1 hr1 hf1 hb1))
    | (go_at_call 83; go_must (refine (rpieces_calls w1 A c r f (HR.out.below HB1.out) (by rw [← HLEN.out]; exact hm)).mono ?_; rintro e w2 ⟨A2, c2, rfl, hr2, hb2⟩; have HR2 := hid hr2; have HB2 := hid hb2; clear hr2 hb2))
    | (go_at_call 82; go_must (refine (eqPieces_calls w2 A1 A2 c1 c2 l1 (rpiecesP f r) ?ha ?hb ?hc ?hd).mono ?_; rotate_left 4; rintro e w3 ⟨rfl, hb3⟩; have HB3 := hid hb3; clear hb3)))
  case ha =>
    exact InR.of_row (Base.ownsRow_later HR1.out HB2.out) (fun q hq => ((HF1.out.inp HG.out) q hq).below HB2.out) (by have := HL1.out; omega)
  case hb =>
    refine InR.of_row HR2.out (fun q hq => ((HR.out.inp q ((rpiecesP_perm f r).mem_iff.1 hq)).below HB1.out).below HB2.out) ?_
    rw [rpiecesP_len, ← HLEN.out]
    omega
  case hc =>
    exact fresh_sim HS.out H.out.u H.out.nod HF1.out (by rw [HL1.out, ord_len f H.out.u H.out.nod])
  case hd =>
    intro q hq
    obtain ⟨i, hi, rfl⟩ := List.getElem_of_mem hq
    obtain ⟨p, hp, hc⟩ := HF1.out.at_ i hi (by have := HF1.out.len; omega)
    rw [hc.eq]
    exact HX.out p (look_mem hp).1
  go_ret
  exact ⟨rfl, below_step HB1.out (below_step HB2.out HB3.out)⟩
end Go.Proofs.Ythoammfpjheodaa.Rz
