import Derived.Test.YthoammfpjheodaaOrG
namespace Go.Proofs.Ythoammfpjheodaa.Or
open Go.ChangeShapes Go.WideShapes Go.ChangeAt Go.RowKit Go.Shelf MK
open Base (hid cell_new1 cell_old1 froz_new1 froz_old1)
open Rz (below_alloc lt_of_cell add_block Txt box_at box_new box_old setCells_grown grown_setAt own_low own_base txt_row nil_row clone_calls)
attribute [local go_sem] Oper.semAt_some
set_option linter.unusedVariables false
set_option linter.unusedSimpArgs false
set_option maxRecDepth 100000
/-! Ready, Next -/
variable {w w' : World} {bp mb n : Nat} {d : Ds} {f : SK → Option Mg} {L : List Mg} {A : Option Addr} {c : Nat}
theorem wpList_appM {ops : Array Oper} {rest : List Oper} {o : Oper} {a : Go.Act} {w : World} {Q : Exit → Go.Act → World → Prop} (hgd : o.guard = none) (s x : Operand)
    (ho : o.op = .call { callee := .builtin .append, args := #[s, x], argTypes := #[22, 22] }) (A : Option Addr) (c : Nat) (l : List Mg) (n : Nat) (hn : n = l.length) (hs : a.eval s = .slice A n c) (hro : RO w A c l)
    (ad : Addr) (cc : Nat) (m : Mg) (hx : a.eval x = .slice (some ad) 1 cc) (hm : ∀ j u, m.cells[j]? = some u → w.cell? (ad.add j) = some u) (hl : l.length ≤ 1000000)
    (h : ∀ A' c' w', RO w' A' c' (l ++ [m]) → w.grownBy w' (blk A) → (blk A' = blk A ∨ blk A' = some w.heap.size) → wpList Try.prog ops Q rest (a.put o.dst (.slice A' (n + 1) c')) w') :
    wpList Try.prog ops Q (o :: rest) a w := by
  subst hn
  obtain ⟨A', c', w', hrun, h1, h2, h3⟩ := app_run hro o.type ad cc m hm hl
  refine wpList_plain hgd fun K hK' => ?_
  unfold Oper.wp
  simp only [execOp, ho, resolve, invoke, builtin, Sem.run_bind, Sem.run_pure, Result.andThen_ok, List.map_toArray, List.map_cons, List.map_nil, hs, hx, hrun]
  exact hK' _ _ (h A' c' w' h1 h2 h3)
/-- Copies of messages, in a row of their own. -/
structure Cps (B : Nat) (w : World) (A : Option Addr) (c : Nat) (l : List Mg) (ms : List Cm) : Prop where
  ro : RO w A c l
  cm : l.map Mg.cm = ms
  ok : ∀ m ∈ l, MO w m
  new : ∀ a, A = some a → B ≤ a.block
theorem Cps.nil (B : Nat) (w : World) : Cps B w none 0 [] [] := ⟨RO.nil w, rfl, (fun m h => by cases h), (fun a h => by cases h)⟩
theorem Cps.below {B : Nat} {w w' : World} {A : Option Addr} {c : Nat} {l : List Mg} {ms : List Cm} (h : Cps B w A c l ms) (hb : Below w.heap.size w w') : Cps B w' A c l ms := ⟨h.ro.below hb, h.cm, fun m hm => (h.ok m hm).below hb, h.new⟩
theorem Cps.len {B : Nat} {w : World} {A : Option Addr} {c : Nat} {l : List Mg} {ms : List Cm} (h : Cps B w A c l ms) : l.length = ms.length := by rw [← h.cm, List.length_map]
theorem RO.nt {w : World} {A : Option Addr} {c : Nat} {l : List Mg} (h : RO w A c l) : ∀ k, blk A = some k → NoTxt w k := fun k e cur fr e2 => by
  cases hA : A with
  | none => rw [hA] at e; cases e
  | some a =>
    rw [hA] at e
    cases e
    obtain ⟨cur', hc⟩ := h.ty a hA
    rw [hc] at e2
    cases e2
theorem Cps.app {B : Nat} {w w' : World} {A A' : Option Addr} {c c' : Nat} {l : List Mg} {ms : List Cm} {m : Mg} (h : Cps B w A c l ms) (hm : MO w m) (hr : RO w' A' c' (l ++ [m])) (hg : w.grownBy w' (blk A)) (hn : blk A' = blk A ∨ blk A' = some w.heap.size) (hB : B ≤ w.heap.size) : Cps B w' A' c' (l ++ [m]) (ms ++ [m.cm]) := by
  refine ⟨hr, by rw [List.map_append, h.cm]; rfl, fun m' hm' => ?_, fun a e => ?_⟩
  · rcases List.mem_append.1 hm' with hm' | hm'
    · exact (h.ok m' hm').keptO hg h.ro.nt
    · rw [List.mem_singleton.1 hm']
      exact hm.keptO hg h.ro.nt
  · subst e
    rcases hn with hn | hn
    · cases hA : A with
      | none => rw [hA] at hn; cases hn
      | some b =>
        rw [hA] at hn
        have e2 : a.block = b.block := Option.some.inj hn
        have := h.new b hA
        omega
    · have e2 : a.block = w.heap.size := Option.some.inj hn
      omega
set_option maxHeartbeats 4000000 in
theorem ready_calls (w : World) (bp mb n : Nat) (d : Ds) (f : SK → Option Mg) (L : List Mg) (A : Option Addr) (c : Nat) (h : Dk w bp mb n d f L A c) (hg : ∀ m ∈ d.rd, goodC m = true) (hl : d.rd.length ≤ 100000) :
    Calls Try.prog 23 #[.pointer (some ⟨bp, 0, none⟩)] w fun e w' => ∃ A' c' L', e = .returned (.slice A' L'.length c') ∧ Cps w.heap.size w' A' c' L' d.rd ∧ Below w.heap.size w w' := by
  have H := hid h
  have HG := hid hg
  have hlL : L.length ≤ 100000 := by rw [h.rdl]; exact hl
  have c9 := h.c9
  clear h hg
  go_enter Try.func23, Try.ntmps23
  go_wp2_with fail
  go_loopw [3, 13] (fun v3 v13 wr => ∃ (i : Nat) (A3 : Option Addr) (c3 : Nat) (L3 : List Mg), i ≤ L.length ∧ v13 = .int .i64 i ∧ v3 = .slice A3 L3.length c3 ∧ Hid (L3.length = i) ∧ Hid (Cps w.heap.size wr A3 c3 L3 (d.rd.take i)) ∧ Hid (Below w.heap.size w wr)) (fun _ v13 _ => L.length - numV v13)
  case atStart => exact ⟨0, none, 0, [], Nat.zero_le _, rfl, rfl, hid rfl, hid (Cps.nil _ _), hid (Below.refl _ _)⟩
  case round =>
    obtain ⟨i, A3, c3, L3, hil, rfl, rfl, HL, HC, HW⟩ := hrel
    by_cases hlt : i < L.length
    · obtain ⟨m, hm⟩ : ∃ m, L[i] = m := ⟨_, rfl⟩
      obtain ⟨g, off, rfl, hgl, a0, a1, a2⟩ := (H.out.below HW.out).rdy.at i hlt
      rw [hm] at a0 a1 a2
      have hmL : m ∈ L := hm ▸ List.getElem_mem hlt
      have hmo : MO wr m := ((H.out.rok m hmL)).below HW.out
      have hmr : m.cm ∈ d.rd := by rw [← H.out.rdm]; exact List.mem_map.2 ⟨m, hmL, rfl⟩
      have hmx : m.x.length ≤ 400 := (goodC_x (HG.out _ hmr)).2
      have htk : d.rd.take (i + 1) = d.rd.take i ++ [m.cm] := by
        have hi2 : i < d.rd.length := by rw [← H.out.rdl]; exact hlt
        rw [List.take_succ_eq_append_getElem hi2]
        congr 2
        simp only [← H.out.rdm, List.getElem_map, hm]
      have hL3 : L3.length ≤ 100000 := by rw [HL.out]; omega
      have HMO := hid hmo
      have HTK := hid htk
      clear hm hmL hmo hmr htk
      have HB0 : Hid (∀ o, Below wr.heap.size wr (wr.alloc o)) := hid fun o => below_alloc (Below.refl _ _) o
      go_wp2_with (first
        | (go_at_call 55; go_must (refine (copied_calls m _ (HMO.out.txt.below (HB0.out _)) HMO.out.nil (by omega)).mono ?_; rintro e w4 ⟨A', c', rfl, HO4, HB4⟩; have hb4 : Below wr.heap.size wr w4 := (HB0.out _).trans (HB4.out.mono (by simp)); have HB5 := hid (hb4.trans ((below_alloc (Below.refl _ w4) (.cells #[.int .i64 m.s, .bool m.u, .slice A' m.x.length c'] 34)).mono hb4.size)); have HB44 := hid hb4; clear hb4))
        | (at_builtin; go_must (refine wpList_appM rfl _ _ rfl A3 c3 L3 L3.length rfl rfl (HC.out.ro.below HB5.out) ⟨w4.heap.size, 0, none⟩ 1 (m.at A' c') rfl (newM w4 (m.at A' c') rfl) (by omega) ?_)))
      intro A6 c6 w6 hr6 hg6 hn6
      have hmo4 : MO w4 (m.at A' c') := own_low HO4.out (Nat.zero_le _)
      have hmo5 : MO (w4.alloc (.cells #[.int .i64 m.s, .bool m.u, .slice A' m.x.length c'] 34)) (m.at A' c') := hmo4.below (below_alloc (Below.refl _ _) _)
      have hsz : w.heap.size ≤ (w4.alloc (.cells #[.int .i64 m.s, .bool m.u, .slice A' m.x.length c'] 34)).heap.size := Nat.le_trans HW.out.size HB5.out.size
      have hC6 := (HC.out.below HB5.out).app hmo5 hr6 hg6 (by simpa using hn6) hsz
      have hW6 : Below w.heap.size w w6 := (HW.out.trans (HB5.out.mono HW.out.size)).grown hg6 hsz (fun k e => by
        cases hA : A3 with
        | none => rw [hA] at e; cases e
        | some a =>
          rw [hA] at e
          have := HC.out.new a hA
          have e2 : a.block = k := Option.some.inj e
          omega)
      rw [show d.rd.take i ++ [(m.at A' c').cm] = d.rd.take (i + 1) from HTK.out.symm] at hC6
      have HC6 := hid hC6
      have HW6 := hid hW6
      clear hmo4 hmo5 hsz hC6 hW6 hr6 hg6 hn6
      go_wp2
      go_roundw
      case rel => exact ⟨i + 1, A6, c6, L3 ++ [m.at A' c'], by omega, by go_num, by rw [List.length_append]; rfl, hid (by rw [List.length_append, HL.out]; rfl), HC6, HW6⟩
      case measure => simp [numV]; omega
    · obtain rfl : i = L.length := by omega
      have hC := HC.out
      rw [List.take_of_length_le (by rw [H.out.rdl]; exact Nat.le_refl _)] at hC
      have HCC := hid hC
      clear hC HC
      go_wp2
      go_ret
      exact ⟨A3, c3, L3, rfl, HCC.out, HW.out⟩
end Go.Proofs.Ythoammfpjheodaa.Or
