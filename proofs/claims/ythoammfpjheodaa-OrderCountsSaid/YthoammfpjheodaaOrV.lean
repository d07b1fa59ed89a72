import Derived.Test.YthoammfpjheodaaOrU
namespace Go.Proofs.Ythoammfpjheodaa.Or
open Go.ChangeShapes Go.WideShapes Go.ChangeAt Go.RowKit Go.Shelf MK
open Base (hid cell_new1 cell_old1 froz_new1 froz_old1)
open Rz (below_alloc lt_of_cell add_block Txt box_at box_new box_old setCells_grown grown_setAt own_low own_base txt_row nil_row clone_calls)
attribute [local go_sem] Oper.semAt_some
set_option linter.unusedVariables false
set_option linter.unusedSimpArgs false
set_option maxRecDepth 100000
/-! Held -/
variable {w w' : World} {bp mb n : Nat} {d : Ds} {f : SK → Option Mg} {L : List Mg} {A : Option Addr} {c : Nat}
theorem below_step {a b c : World} (h : Below a.heap.size a b) (h2 : Below b.heap.size b c) : Below a.heap.size a c := h.trans (h2.mono h.size)
def lens (l : List Cm) : Nat := (l.map fun m => m.x.length).sum
theorem lens_app (a b : List Cm) : lens (a ++ b) = lens a + lens b := by unfold lens; rw [List.map_append, List.sum_append]
theorem lens_one (m : Cm) : lens [m] = m.x.length := by simp [lens]
theorem lens_le {l : List Cm} (h : ∀ m ∈ l, m.x.length ≤ 400) : lens l ≤ 400 * l.length := by
  induction l with
  | nil => simp [lens]
  | cons m l ih =>
    have := ih (fun x hx => h x (List.mem_cons_of_mem _ hx))
    have := h m List.mem_cons_self
    unfold lens at *
    simp only [List.map_cons, List.sum_cons, List.length_cons]
    omega
def heldD (d : Ds) : Nat := lens d.rd + lens (d.ws.map (·.2))
theorem Cpw.at {B : Nat} {w : World} {A : Option Addr} {c : Nat} {l : List Wg} {ws : List Wt} (h : Cpw B w A c l ws) (i : Nat) (hi : i < l.length) : ∃ g, A = some ⟨g, 0, none⟩ ∧ g < w.heap.size ∧ w.cell? ⟨g, i * 4, none⟩ = some (.int .u16 l[i].1) ∧ w.cell? ⟨g, i * 4 + 1, none⟩ = some (.int .i64 l[i].2.s) ∧
    w.cell? ⟨g, i * 4 + 2, none⟩ = some (.bool l[i].2.u) ∧ w.cell? ⟨g, i * 4 + 3, none⟩ = some (.slice l[i].2.A l[i].2.x.length l[i].2.c) := by
  have h0 := h.own
  rcases h.own.2 with ⟨e, hn⟩ | ⟨g, cap, cur, e, hb, hg, _⟩
  · omega
  · simp only [Value.slice.injEq] at e
    obtain ⟨rfl, _, _⟩ := e
    have hc : ∀ k (hk : k < 4), w.cell? ⟨g, i * 4 + k, none⟩ = some ((Wg.cells l[i])[k]'hk) := fun k hk => by
      have := h0.cells (g := g) rfl _ _ (cellsW_get l i k hi hk)
      rw [add_at, Nat.zero_add] at this
      exact this
    exact ⟨g, rfl, (Array.getElem?_eq_some_iff.1 hg).1, hc 0 (by decide), hc 1 (by decide), hc 2 (by decide), hc 3 (by decide)⟩
set_option maxHeartbeats 4000000 in
theorem held_calls (w : World) (bp mb n : Nat) (d : Ds) (f : SK → Option Mg) (L : List Mg) (A : Option Addr) (c : Nat) (h : Dk w bp mb n d f L A c) (hi : Inv d) (hm : many d ≤ 100000) :
    Calls Try.prog 32 #[.pointer (some ⟨bp, 0, none⟩)] w fun e w' => e = .returned (.int .i64 (heldD d : Nat)) ∧ Below w.heap.size w w' := by
  have hrl : d.rd.length ≤ 100000 := by unfold many at hm; omega
  have hwl : d.ws.length ≤ 100000 := by unfold many at hm; omega
  have H := hid h
  have HI := hid hi
  have HRX : Hid (∀ m ∈ d.rd, m.x.length ≤ 400) := hid fun m hm => (goodC_x (hi.rdg m hm)).2
  have HWX : Hid (∀ x ∈ d.ws, x.2.x.length ≤ 400) := hid fun x hx => (goodC_x (hi.wf x hx).1).2
  have HRL : Hid (lens d.rd ≤ 400 * d.rd.length) := hid (lens_le HRX.out)
  have HWL : Hid (lens (d.ws.map (·.2)) ≤ 400 * d.ws.length) := hid (by
    have := lens_le (l := d.ws.map (·.2)) fun m hm => by
      obtain ⟨x, hx, rfl⟩ := List.mem_map.1 hm
      exact HWX.out x hx
    simpa using this)
  clear h hi
  go_enter Try.func32, Try.ntmps32
  go_wp2_with (go_at_call 23; go_must (refine (ready_calls w bp mb n d f L A c H.out HI.out.rdg hrl).mono ?_; rintro e w1 ⟨A1, c1, L1, rfl, hc1, hb1⟩; have HC1 := hid hc1; have HB1 := hid hb1; clear hc1 hb1))
  have hl1 : L1.length = d.rd.length := HC1.out.len
  have HL1 := hid hl1
  have hl1b : L1.length ≤ 100000 := by omega
  clear hl1
  go_loopw [3, 11] (fun v3 v11 wr => ∃ i : Nat, i ≤ L1.length ∧ v11 = .int .i64 i ∧ v3 = .int .i64 (lens (d.rd.take i) : Nat) ∧ Hid (Below w1.heap.size w1 wr)) (fun _ v11 _ => L1.length - numV v11)
  case atStart => exact ⟨0, Nat.zero_le _, rfl, rfl, hid (Below.refl _ _)⟩
  case round =>
    obtain ⟨i, hil, rfl, rfl, HW⟩ := hrel
    by_cases hlt : i < L1.length
    · have hir : i < d.rd.length := by rw [← HL1.out]; exact hlt
      obtain ⟨g, off, rfl, hgl, a0, a1, a2⟩ := (HC1.out.ro.below HW.out).at i hlt
      obtain ⟨m, hmm⟩ : ∃ m, L1[i] = m := ⟨_, rfl⟩
      rw [hmm] at a0 a1 a2
      have hme : d.rd[i] = m.cm := by
        have h1 : (L1.map Mg.cm)[i]? = d.rd[i]? := by rw [HC1.out.cm]
        rw [List.getElem?_map, List.getElem?_eq_getElem hlt, List.getElem?_eq_getElem hir, hmm] at h1
        exact (Option.some.inj h1).symm
      have hmx : m.x.length ≤ 400 := by
        have := HRX.out _ (List.getElem_mem hir)
        rw [hme] at this
        exact this
      have htk : lens (d.rd.take (i + 1)) = lens (d.rd.take i) + m.x.length := by
        rw [List.take_succ_eq_append_getElem hir, lens_app, lens_one, hme]
        rfl
      have hle : lens (d.rd.take (i + 1)) ≤ 40000000 := by
        have := lens_le (l := d.rd.take (i + 1)) fun m hm => HRX.out m (List.mem_of_mem_take hm)
        have : (d.rd.take (i + 1)).length ≤ d.rd.length := by rw [List.length_take]; omega
        omega
      have HTK := hid htk
      obtain ⟨S0, hS0⟩ : ∃ S0, lens (d.rd.take i) = S0 := ⟨_, rfl⟩
      have hS0l : S0 ≤ 40000000 := by omega
      rw [hS0] at HTK ⊢
      clear hmm hme htk hle
      go_wp2
      go_roundw
      case rel => exact ⟨i + 1, by omega, by go_num, by rw [HTK.out]; go_num, hid (below_step HW.out (below_alloc (Below.refl _ _) _))⟩
      case measure => simp [numV]; omega
    · obtain rfl : i = L1.length := by omega
      have hS : lens (d.rd.take L1.length) = lens d.rd := by rw [HL1.out, List.take_length]
      rw [hS]
      obtain ⟨S0, hS0⟩ : ∃ S0, lens d.rd = S0 := ⟨_, rfl⟩
      rw [hS0] at HRL ⊢
      have hS0l : S0 ≤ 40000000 := by have := HRL.out; omega
      have HE0 := hid hS0
      have HB2 := hid (below_step HB1.out HW.out)
      clear hS hS0 HW
      go_wp2_with (go_at_call 24; go_must (refine (waiting_calls wr bp mb n d f L A c (H.out.below HB2.out) HI.out hwl).mono ?_; rintro e w3 ⟨A3, c3, l3, rfl, hc3, hb3⟩; have HC3 := hid hc3; have HB3 := hid (below_step HB2.out hb3); clear hc3 hb3))
      have hl3 : l3.length = d.ws.length := HC3.out.len
      have HL3 := hid hl3
      have hl3b : l3.length ≤ 100000 := by omega
      clear hl3
      go_loopw [3, 24] (fun v3 v24 wr => ∃ i : Nat, i ≤ l3.length ∧ v24 = .int .i64 i ∧ v3 = .int .i64 (S0 + lens ((d.ws.map (·.2)).take i) : Nat) ∧ Hid (Below w3.heap.size w3 wr)) (fun _ v24 _ => l3.length - numV v24)
      case atStart => exact ⟨0, Nat.zero_le _, rfl, rfl, hid (Below.refl _ _)⟩
      case round =>
        obtain ⟨i, hil, rfl, rfl, HW⟩ := hrel
        by_cases hlt : i < l3.length
        · have hir : i < (d.ws.map (·.2)).length := by rw [List.length_map, ← HL3.out]; exact hlt
          obtain ⟨g, rfl, hgl, a0, a1, a2, a3⟩ := (HC3.out.below HW.out).at i hlt
          obtain ⟨m, hmm⟩ : ∃ m, l3[i] = m := ⟨_, rfl⟩
          rw [hmm] at a0 a1 a2 a3
          have hme : (d.ws.map (·.2))[i] = m.2.cm := by
            have h1 : (l3.map (fun x => (x.1, x.2.cm)))[i]? = d.ws[i]? := by rw [HC3.out.wt]
            have hiw : i < d.ws.length := by simpa using hir
            rw [List.getElem?_map, List.getElem?_eq_getElem hlt, List.getElem?_eq_getElem hiw, hmm] at h1
            rw [List.getElem_map, ← Option.some.inj h1]
          have hmx : m.2.x.length ≤ 400 := by
            have hiw : i < d.ws.length := by simpa using hir
            have h2 := HWX.out _ (List.getElem_mem hiw)
            rw [List.getElem_map] at hme
            rw [hme] at h2
            exact h2
          have htk : lens ((d.ws.map (·.2)).take (i + 1)) = lens ((d.ws.map (·.2)).take i) + m.2.x.length := by
            rw [List.take_succ_eq_append_getElem hir, lens_app, lens_one, hme]
            rfl
          have hle : lens ((d.ws.map (·.2)).take (i + 1)) ≤ 40000000 := by
            have := lens_le (l := (d.ws.map (·.2)).take (i + 1)) fun m hm => by
              obtain ⟨x, hx, rfl⟩ := List.mem_map.1 (List.mem_of_mem_take hm)
              exact HWX.out x hx
            have : ((d.ws.map (·.2)).take (i + 1)).length ≤ d.ws.length := by rw [List.length_take, List.length_map]; omega
            omega
          have HTK := hid htk
          obtain ⟨S1, hS1⟩ : ∃ S1, lens ((d.ws.map (·.2)).take i) = S1 := ⟨_, rfl⟩
          have hS1l : S1 ≤ 40000000 := by omega
          rw [hS1] at HTK ⊢
          clear hmm hme htk hle
          go_wp2
          go_roundw
          case rel => exact ⟨i + 1, by omega, by go_num, by rw [HTK.out]; go_num, hid (below_step HW.out (below_alloc (Below.refl _ _) _))⟩
          case measure => simp [numV]; omega
        · obtain rfl : i = l3.length := by omega
          have hS : lens ((d.ws.map (·.2)).take l3.length) = lens (d.ws.map (·.2)) := by rw [HL3.out, List.take_of_length_le (by simp)]
          have hfin : heldD d = S0 + lens ((d.ws.map (·.2)).take l3.length) := by unfold heldD; rw [hS, HE0.out]
          obtain ⟨S1, hS1⟩ : ∃ S1, lens ((d.ws.map (·.2)).take l3.length) = S1 := ⟨_, rfl⟩
          rw [hS1] at hfin ⊢
          have HFIN := hid hfin
          clear hS hfin hS1
          go_wp2
          go_ret
          rw [HFIN.out]
          exact ⟨by first | rfl | simp, below_step HB3.out HW.out⟩
end Go.Proofs.Ythoammfpjheodaa.Or
