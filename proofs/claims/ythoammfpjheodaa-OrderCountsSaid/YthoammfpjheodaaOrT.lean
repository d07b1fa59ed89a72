import Derived.Test.YthoammfpjheodaaOrS
namespace Go.Proofs.Ythoammfpjheodaa.Or
open Go.ChangeShapes Go.WideShapes Go.ChangeAt Go.RowKit Go.Shelf MK Go.Sort
open Base (hid cell_new1 cell_old1 froz_new1 froz_old1)
open Rz (below_alloc lt_of_cell add_block Txt box_at box_new box_old setCells_grown grown_setAt own_low own_base txt_row nil_row clone_calls)
attribute [local go_sem] Oper.semAt_some
set_option linter.unusedVariables false
set_option linter.unusedSimpArgs false
set_option maxRecDepth 100000
/-! SortedFunc -/
theorem ins_empty (A : Option Addr) (c : Nat) (fv : Value) (w : World) : Calls Try.prog 118 #[.slice A 0 c, .int .i64 0, .int .i64 0, fv] w fun e w' => e = .returned (.tuple #[]) ∧ w = w' := by
  go_enter Try.func118, Try.ntmps118
  go_wp2_with fail
  refine wp_loop_rounds 1 ?_
  rw [rounds_succ]
  go_wp2
  go_end0
  exact ⟨rfl, rfl⟩
theorem pdq_empty (A : Option Addr) (c : Nat) (l : Int) (fv : Value) (w : World) : Calls Try.prog 115 #[.slice A 0 c, .int .i64 0, .int .i64 0, .int .i64 l, fv] w fun e w' => e = .returned (.tuple #[]) ∧ w = w' := by
  go_enter Try.func115, Try.ntmps115
  go_wp2_with fail
  refine wp_loop_rounds 1 ?_
  rw [rounds_succ]
  go_wp2_with (go_at_call 118; go_must (refine (ins_empty A c fv _).mono ?_; rintro e w' ⟨rfl, rfl⟩))
  exact bodyPost_ret (results_none rfl _ _ _) rfl ⟨rfl, rfl⟩
theorem sort_empty (A : Option Addr) (c : Nat) (fv : Value) (w : World) : Calls Try.prog 96 #[.slice A 0 c, fv] w fun e w' => e = .returned (.tuple #[]) ∧ w = w' := by
  have hl : ∀ w, Calls Try.prog 116 #[.int .u64 0] w fun e w' => (∃ l : Int, e = .returned (.int .i64 l)) ∧ w = w' := fun w => by
    have h := Any.bits_Len (SlLaysF0.n15.bits (P := Try.prog) (ρ := Try.sortS_ren) { Try.sortS with }) 0 w (by omega) (by omega)
    change Calls Try.prog 116 _ _ _ at h
    exact h.mono fun e w' ⟨h1, h2⟩ => ⟨⟨_, h1⟩, h2.symm⟩
  go_enter Try.func96, Try.ntmps96
  go_wp2_with (first
    | (go_at_call 116; go_must (refine (hl _).mono ?_; rintro e w' ⟨⟨l, rfl⟩, rfl⟩))
    | (go_at_call 115; go_must (refine (pdq_empty A c _ fv _).mono ?_; rintro e w' ⟨rfl, rfl⟩)))
  go_end0
  exact ⟨rfl, rfl⟩
theorem nodup_len : ∀ {l m : List (Int × Int)}, l.Nodup → (∀ x ∈ l, x ∈ m) → l.length ≤ m.length
  | [], m, _, _ => Nat.zero_le _
  | x :: l, m, h, hm => by
    obtain ⟨h1, h2⟩ := List.nodup_cons.1 h
    have hx := hm x List.mem_cons_self
    have := nodup_len (m := m.erase x) h2 fun y hy => (List.mem_erase_of_ne (fun e : y = x => h1 (by rw [← e]; exact hy))).2 (hm y (List.mem_cons_of_mem _ hy))
    have hl := List.length_erase_of_mem hx
    have := List.length_pos_of_mem hx
    rw [List.length_cons]
    omega
def kOf (w : Wt) : Int × Int := (w.2.s, w.1)
theorem keys8 {d : Ds} (hi : Inv d) {ss : List SK} (h : IsKeys d ss) : ∃ ks : List K8, ks.map (·.1) = ss.map (·.1) ∧ cells8 ks = cellsK ss ∧ ks.Nodup := by
  have hm : ∀ x ∈ ss, (0 ≤ x.1.1 ∧ x.1.1 ≤ 7) ∧ 0 ≤ x.1.2 ∧ x.1.2 ≤ 65535 := fun x hx => by
    have := (h.2 x).1 hx
    cases hl : lookW d.ws x.1.1 x.1.2 with
    | none => rw [hl] at this; cases this
    | some w =>
      obtain ⟨h1, h2, h3⟩ := look_mem hl
      have := hi.wf w h1
      rw [← h2, ← h3]
      exact ⟨goodC_s this.1, this.2.2⟩
  have hn := h.1
  clear h
  induction ss with
  | nil => exact ⟨[], rfl, rfl, List.nodup_nil⟩
  | cons x ss ih =>
    obtain ⟨n1, n2⟩ := List.nodup_cons.1 hn
    obtain ⟨ks, h1, h2, h3⟩ := ih (fun y hy => hm y (List.mem_cons_of_mem _ hy)) n2
    refine ⟨⟨x.1, hm x List.mem_cons_self⟩ :: ks, by rw [List.map_cons, List.map_cons, h1], ?_, List.nodup_cons.2 ⟨fun hx => n1 ?_, h3⟩⟩
    · unfold cells8 cellsK at *
      rw [List.flatMap_cons, List.flatMap_cons, h2]
      rfl
    · have : x.1 ∈ ks.map (·.1) := List.mem_map.2 ⟨_, hx, rfl⟩
      rw [h1] at this
      obtain ⟨y, hy, e⟩ := List.mem_map.1 this
      rw [← Subtype.ext e]
      exact hy
theorem keys_eq {d : Ds} (hi : Inv d) {ss : List SK} (h : IsKeys d ss) {ts : List K8} {ks : List K8} (hk : ks.map (·.1) = ss.map (·.1)) (hp : ts.Perm ks) (hs : (ts.map (·.1)).Pairwise (lessK d.nx)) : ts.map (·.1) = d.ws.map kOf := by
  refine str_eq (nx := d.nx) hs ?_ fun x => ?_
  · rw [List.pairwise_map]
    exact hi.srt.imp fun hab => by rw [less_iff] at hab; exact hab
  · rw [(hp.map (·.1)).mem_iff, hk]
    constructor
    · intro hx
      obtain ⟨y, hy, rfl⟩ := List.mem_map.1 hx
      have := (h.2 y).1 hy
      cases hl : lookW d.ws y.1.1 y.1.2 with
      | none => rw [hl] at this; cases this
      | some w =>
        obtain ⟨h1, h2, h3⟩ := look_mem hl
        exact List.mem_map.2 ⟨w, h1, Prod.ext h2 h3⟩
    · intro hx
      obtain ⟨w, hw, rfl⟩ := List.mem_map.1 hx
      have hwf := hi.wf w hw
      refine List.mem_map.2 ⟨sk (goodC_s hwf.1) hwf.2.2, (h.2 _).2 ?_, rfl⟩
      show (lookW d.ws w.2.s w.1).isSome = true
      rw [look_of_mem hi.unq hw]
      rfl
set_option maxHeartbeats 1000000 in
theorem sortedFunc_calls (w : World) (bk bc bd bp mb n : Nat) (d : Ds) (f : SK → Option Mg) (L : List Mg) (A : Option Addr) (c : Nat) (h : Dk w bp mb n d f L A c) (hi : Inv d) (hk : w.cell? ⟨bk, 0, none⟩ = some (.map (some mb))) (hc : w.cell? ⟨bc, 0, none⟩ = some (.func (.func 57) #[] #[.pointer (some ⟨bd, 0, none⟩)])) (hd : w.cell? ⟨bd, 0, none⟩ = some (.pointer (some ⟨bp, 0, none⟩))) (hl : d.ws.length ≤ 100000) :
    Calls Try.prog 59 #[.func (.func 97) #[] #[.pointer (some ⟨bk, 0, none⟩)], .func (.func 61) #[] #[.pointer (some ⟨bc, 0, none⟩)]] w fun e w' => ∃ (A' : Option Addr) (c' : Nat) (ts : List K8), e = .returned (.slice A' ts.length c') ∧ ts.map (·.1) = d.ws.map kOf ∧ w'.ownsRow w.heap.size 117 2 (.slice A' ts.length c') ts.length (cells8 ts) ∧ Below w.heap.size w w' := by
  have HCOL := hid (collect_calls w bk bp mb n d f L A c h hk hl)
  have HI := hid hi
  have l1 := lt_of_cell hc
  have l2 := lt_of_cell hd
  have l3 := h.lt.1
  have HSRT : Hid (∀ w1 A' c' ss, Below w.heap.size w w1 → IsKeys d ss → w1.ownsRow w.heap.size 117 2 (.slice A' ss.length c') ss.length (cellsK ss) → Calls Try.prog 96 #[.slice A' ss.length c', .func (.func 61) #[] #[.pointer (some ⟨bc, 0, none⟩)]] w1 fun e w' => e = .returned (.tuple #[]) ∧ ∃ ts : List K8, ts.length = ss.length ∧ ts.map (·.1) = d.ws.map kOf ∧ w'.ownsRow w.heap.size 117 2 (.slice A' ts.length c') ts.length (cells8 ts) ∧ Below w.heap.size w w') := hid fun w1 A' c' ss hb hks ho => by
    obtain ⟨ks, e1, e2, e3⟩ := keys8 hi hks
    have hlen : ks.length = ss.length := by have := congrArg List.length e1; simpa using this
    by_cases h0 : ss.length = 0
    · have hss : ss = [] := List.length_eq_zero_iff.1 h0
      subst hss
      have hke : ks = [] := List.length_eq_zero_iff.1 hlen
      subst hke
      refine (sort_empty A' c' _ w1).mono ?_
      rintro e w' ⟨rfl, rfl⟩
      exact ⟨rfl, [], rfl, keys_eq hi hks e1 (List.Perm.refl _) List.Pairwise.nil, ho, hb⟩
    · rcases ho.2 with ⟨_, h00⟩ | ⟨g, cap, cur, e, hbg, _⟩
      · exact absurd h00 h0
      · simp only [Value.slice.injEq, true_and] at e
        obtain ⟨rfl, rfl⟩ := e
        have hkl : ks.length ≤ 1000000 := by
          have hsub : ks.length ≤ d.ws.length := by
            have hm : ∀ x ∈ ks.map (·.1), x ∈ d.ws.map kOf := fun x hx => by
              rw [e1] at hx
              obtain ⟨y, hy, rfl⟩ := List.mem_map.1 hx
              have := (hks.2 y).1 hy
              cases hl : lookW d.ws y.1.1 y.1.2 with
              | none => rw [hl] at this; cases this
              | some w =>
                obtain ⟨h1, h2, h3⟩ := look_mem hl
                exact List.mem_map.2 ⟨w, h1, Prod.ext h2 h3⟩
            have hnd : (ks.map (·.1)).Nodup := by
              unfold List.Nodup
              rw [List.pairwise_map]
              exact e3.imp fun hne e => hne (Subtype.ext e)
            simpa using nodup_len hnd hm
          omega
        have hbe : ∀ b, b < w.heap.size → g ≠ b := fun b hb => by omega
        have hsf := sortFunc_calls w1 bc bd bp g c' d.nx ks ((hb.cell (p := ⟨bc, 0, none⟩) l1).trans hc) ((hb.cell (p := ⟨bd, 0, none⟩) l2).trans hd) (fun t ht => (h.below hb).cn ht) w.heap.size (by rw [hlen, e2]; exact ho) (hbe _ l1) (hbe _ l2) (hbe _ l3) hkl e3
        rw [hlen] at hsf
        refine hsf.mono ?_
        rintro e w' ⟨rfl, ts, hp, hs, hr, hg⟩
        have htl : ts.length = ss.length := by rw [hp.length_eq, hlen]
        exact ⟨rfl, ts, htl, keys_eq hi hks e1 hp hs, by rw [htl]; exact hr, hb.grown hg hb.size (fun k e => by cases e; exact hbg)⟩
  clear h hi hk hc hd l1 l2 l3
  go_enter Try.func59, Try.ntmps59
  go_wp2_with (first
    | (go_at_call 95; go_must (refine HCOL.out.mono ?_; rintro e w1 ⟨A1, c1, ss, rfl, hks, ho, hb⟩; have HKS := hid hks; have HO := hid ho; have HB := hid hb; clear hks ho hb))
    | (go_at_call 96; go_must (refine (HSRT.out _ A1 c1 ss HB.out HKS.out HO.out).mono ?_; rintro e w2 ⟨rfl, ts, htl, hte, hto, htb⟩)))
  go_ret
  exact ⟨A1, c1, ts, by show Ending.returned (Value.slice A1 ss.length c1) = _; rw [htl], hte, hto, htb⟩
end Go.Proofs.Ythoammfpjheodaa.Or
