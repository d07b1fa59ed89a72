import Derived.Test.YthoammfpjheodaaOrT
import Derived.Deep.RegionLaw
namespace Go.Proofs.Ythoammfpjheodaa.Or
open Go.ChangeShapes Go.WideShapes Go.ChangeAt Go.RowKit Go.Shelf MK
open Base (hid cell_new1 cell_old1 froz_new1 froz_old1)
open Rz (below_alloc lt_of_cell add_block Txt box_at box_new box_old setCells_grown grown_setAt own_low own_base txt_row nil_row clone_calls)
attribute [local go_sem] Oper.semAt_some
set_option linter.unusedVariables false
set_option linter.unusedSimpArgs false
set_option maxRecDepth 100000
/-! Waiting -/
theorem run_store_func {P : Program} (w : World) (a : Addr) (m : Mode) (fn : Fn) (xs ys : Array Value) : (store a (.func fn xs ys) m).run P w = stored P w a (.func fn xs ys) m := run_store P w a _ m rfl
attribute [local go_sem] run_store_func
variable {w w' : World} {bp mb n : Nat} {d : Ds} {f : SK → Option Mg} {L : List Mg} {A : Option Addr} {c : Nat}
abbrev Wg := Int × Mg
def Wg.cells (x : Wg) : List Value := [.int .u16 x.1, .int .i64 x.2.s, .bool x.2.u, .slice x.2.A x.2.x.length x.2.c]
def cellsW (l : List Wg) : List Value := l.flatMap Wg.cells
theorem cellsW_len : ∀ (l : List Wg), (cellsW l).length = l.length * 4
  | [] => rfl
  | p :: l => by
    have ih := cellsW_len l
    unfold cellsW at *
    simp only [List.flatMap_cons, List.length_append, ih, List.length_cons, Wg.cells, List.length_nil]
    omega
theorem cellsW_app (l r : List Wg) : cellsW (l ++ r) = cellsW l ++ cellsW r := by unfold cellsW; rw [List.flatMap_append]
theorem cellsW_one (x : Wg) : ∀ u ∈ Wg.cells x, u.oneCell' = true := by
  intro u hu
  simp only [Wg.cells, List.mem_cons, List.not_mem_nil, or_false] at hu
  rcases hu with rfl | rfl | rfl | rfl <;> rfl
theorem cellsW_get : ∀ (l : List Wg) (i k : Nat) (hi : i < l.length) (hk : k < 4), (cellsW l)[i * 4 + k]? = some ((Wg.cells l[i])[k]'hk)
  | [], i, k, hi, hk => by simp at hi
  | p :: l, 0, k, hi, hk => by
    have e : cellsW (p :: l) = Wg.cells p ++ cellsW l := by unfold cellsW; rw [List.flatMap_cons]
    rw [e, Nat.zero_mul, Nat.zero_add, List.getElem?_append_left (by exact hk)]
    exact List.getElem?_eq_getElem _
  | p :: l, i + 1, k, hi, hk => by
    have e : cellsW (p :: l) = Wg.cells p ++ cellsW l := by unfold cellsW; rw [List.flatMap_cons]
    have hl : (Wg.cells p).length = 4 := rfl
    rw [e, List.getElem?_append_right (by rw [hl]; omega), hl, show (i + 1) * 4 + k - 4 = i * 4 + k by omega, cellsW_get l i k (by simpa using hi) hk]
    rfl
def zW : Value := .agg #[.int .u16 0, .int .i64 0, .bool false, .slice none 0 0]
theorem info78 : (Try.prog.info? 78).map (fun i => (i.zero, i.size, i.bytes)) = some (some zW, 4, 48) := by kernel_rfl
/-- What waits, in a row of its own. -/
structure Cpw (B : Nat) (w : World) (A : Option Addr) (c : Nat) (l : List Wg) (ws : List Wt) : Prop where
  own : w.ownsRow B 78 4 (.slice A l.length c) l.length (cellsW l)
  wt : l.map (fun x => (x.1, x.2.cm)) = ws
  ok : ∀ x ∈ l, MO w x.2
theorem Cpw.nil (B : Nat) (w : World) : Cpw B w none 0 [] [] := ⟨World.ownsRow_nil _ _ _ _, rfl, (fun m h => by cases h)⟩
theorem Cpw.below {B : Nat} {w w' : World} {A : Option Addr} {c : Nat} {l : List Wg} {ws : List Wt} (h : Cpw B w A c l ws) (hb : Below w.heap.size w w') : Cpw B w' A c l ws := ⟨Base.ownsRow_later h.own hb, h.wt, fun m hm => (h.ok m hm).below hb⟩
theorem Cpw.len {B : Nat} {w : World} {A : Option Addr} {c : Nat} {l : List Wg} {ws : List Wt} (h : Cpw B w A c l ws) : l.length = ws.length := by rw [← h.wt, List.length_map]
theorem own_nt {w : World} {B e s n : Nat} {v : Value} {xs : List Value} (h : w.ownsRow B e s v n xs) (he : e ≠ 5) : ∀ k, v.ownBlock = some k → NoTxt w k := fun k e2 cur fr e3 => by
  rcases h.2 with ⟨rfl, _⟩ | ⟨g, cap, cur', rfl, hb, hg, _⟩
  · simp [Value.ownBlock] at e2
  · simp [Value.ownBlock] at e2
    subst e2
    rw [hg] at e3
    exact he (Obj.cells.inj (Option.some.inj e3)).2.1
theorem Cpw.app {B : Nat} {w w' : World} {A A' : Option Addr} {c c' : Nat} {l : List Wg} {ws : List Wt} {x : Wg} (h : Cpw B w A c l ws) (hm : MO w x.2) (hr : w'.ownsRow B 78 4 (.slice A' (l.length + 1) c') (l.length + 1) (cellsW l ++ Wg.cells x)) (hg : w.grownBy w' (Value.slice A l.length c).ownBlock) : Cpw B w' A' c' (l ++ [x]) (ws ++ [(x.1, x.2.cm)]) := by
  refine ⟨?_, by rw [List.map_append, h.wt]; rfl, fun m' hm' => ?_⟩
  · rw [List.length_append, cellsW_app]
    have : cellsW [x] = Wg.cells x := by unfold cellsW; simp
    rw [this]
    exact hr
  · rcases List.mem_append.1 hm' with hm' | hm'
    · exact (h.ok m' hm').keptO hg (own_nt h.own (by decide))
    · rw [List.mem_singleton.1 hm']
      exact hm.keptO hg (own_nt h.own (by decide))
theorem newW (X : World) (x : Wg) {b : Nat} (hb : b = X.heap.size) (j : Nat) (u : Value) (h : (Wg.cells x)[j]? = some u) : (X.alloc (.cells #[.int .u16 x.1, .int .i64 x.2.s, .bool x.2.u, .slice x.2.A x.2.x.length x.2.c] 78)).cell? ((⟨b, 0, none⟩ : Addr).add j) = some u := by
  rw [add_at, Nat.zero_add]
  rw [(box_at (box_new X (.cells #[.int .u16 x.1, .int .i64 x.2.s, .bool x.2.u, .slice x.2.A x.2.x.length x.2.c] 78) hb) j).1]
  simpa [Wg.cells] using h
theorem step_appW {w : World} {ops : Array Oper} {o : Oper} {a : Go.Act} {K : Go.Act → World → Prop} {Q : Exit → Go.Act → World → Prop} {E : Prop} (hgd : o.guard = none) (s x : Operand)
    (ho : o.op = .call { callee := .builtin .append, args := #[s, x], argTypes := #[62, 62] }) (B : Nat) (A : Option Addr) (c : Nat) (l : List Wg) (n : Nat) (hn : n = l.length) (hs : a.eval s = .slice A n c) (hro : w.ownsRow B 78 4 (.slice A l.length c) l.length (cellsW l))
    (ad : Addr) (cc : Nat) (m : Wg) (hx : a.eval x = .slice (some ad) 1 cc) (hm : ∀ j u, (Wg.cells m)[j]? = some u → w.cell? (ad.add j) = some u) (hl : l.length ≤ 1000000) (hB : B ≤ w.heap.size)
    (h : ∀ A' c' w', w'.ownsRow B 78 4 (.slice A' (n + 1) c') (n + 1) (cellsW l ++ Wg.cells m) → w.grownBy w' (Value.slice A n c).ownBlock → K (a.put o.dst (.slice A' (n + 1) c')) w') :
    if Region.wanted o (yielded ops a.tmps) = true then Oper.wp Try.prog o a w K Q else E := by
  have hw : Region.wanted o (yielded ops a.tmps) = true := by simp [Region.wanted, hgd]
  rw [if_pos hw]
  subst hn
  obtain ⟨i0, hi, hi0, hi1, hi2⟩ := info_parts info78
  obtain ⟨v', w', hrun, h2, h3, h4⟩ := run_append_own (P := Try.prog) (w := w) B 62 o.type 78 i0 zW 4 48 Try.underlying62 hi hi0 hi1 hi2 rfl (by decide) (.slice A l.length c) l.length (cellsW l) hro ad 1 cc (Wg.cells m) rfl hm (cellsW_one m) (by unfold maxLen; omega) (by omega) hB
  unfold Oper.wp execOp
  simp only [ho, resolve, invoke, builtin, Sem.run_bind, Sem.run_pure, Result.andThen_ok, List.map_toArray, List.map_cons, List.map_nil, hs, hx, hrun]
  obtain ⟨A', c', rfl, _⟩ := Base.slice_of_row h2
  exact h A' c' w' h2 h3
theorem Dk.look1 (h : Dk w bp mb n d f L A c) {s q : Int} (hs : 0 ≤ s ∧ s ≤ 7) (hq : 0 ≤ q ∧ q ≤ 65535) {m : Mg} (hm : f (sk hs hq) = some m) :
    (Instr.lookup 110 (.map (some mb)) (.agg #[.int .i64 s, .int .u16 q]) false).run Try.prog w = .ok (.agg #[.int .i64 m.s, .bool m.u, .slice m.A m.x.length m.c]) w := by
  have := h.map.lookup Try.underlying110 (Try.zeroValue34 w) (sk hs hq) trivial
  simp only [hm] at this
  exact this
theorem cells8_get : ∀ (l : List K8) (i : Nat) (hi : i < l.length), (cells8 l)[i * 2]? = some (.int .i64 l[i].1.1) ∧ (cells8 l)[i * 2 + 1]? = some (.int .u16 l[i].1.2)
  | [], i, hi => by simp at hi
  | p :: l, 0, hi => ⟨rfl, rfl⟩
  | p :: l, i + 1, hi => by
    have e : (i + 1) * 2 = i * 2 + 1 + 1 := by omega
    rw [e]
    exact cells8_get l i (by simpa using hi)
theorem Dk.keptO (h : Dk w bp mb n d f L A c) {row : Option Nat} (hg : w.grownBy w' row) (hr : ∀ k, row = some k → k ≠ bp ∧ k ≠ mb ∧ some k ≠ blk A ∧ NoTxt w k) : Dk w' bp mb n d f L A c := by
  cases row with
  | none => exact h.below ⟨hg.os, hg.tape, hg.output, hg.size, fun k hk => hg.block k hk (by simp)⟩
  | some b =>
    obtain ⟨h1, h2, h3, h4⟩ := hr b rfl
    exact h.keptB hg h1 h2 h3 h4
set_option maxHeartbeats 4000000 in
theorem waiting_calls (w : World) (bp mb n : Nat) (d : Ds) (f : SK → Option Mg) (L : List Mg) (A : Option Addr) (c : Nat) (h : Dk w bp mb n d f L A c) (hi : Inv d) (hl : d.ws.length ≤ 100000) :
    Calls Try.prog 24 #[.pointer (some ⟨bp, 0, none⟩)] w fun e w' => ∃ A' c' l, e = .returned (.slice A' l.length c') ∧ Cpw w.heap.size w' A' c' l d.ws ∧ Below w.heap.size w w' := by
  have H := hid h
  have HI := hid hi
  obtain ⟨W, hW⟩ : ∃ W, W = (w.alloc (.cells #[.pointer (some ⟨bp, 0, none⟩)] 53)).alloc (.cells #[.func (.func 57) #[] #[.pointer (some ⟨w.heap.size, 0, none⟩)]] 120) := ⟨_, rfl⟩
  have HB : Hid (Below w.heap.size w W) := hid (by rw [hW]; exact below_alloc (below_alloc (Below.refl _ _) _) _)
  have hbd : W.heap[w.heap.size]? = some (.cells #[.pointer (some ⟨bp, 0, none⟩)] 53) := by rw [hW]; exact box_old (box_new w _ rfl)
  have hbc : W.heap[w.heap.size + 1]? = some (.cells #[.func (.func 57) #[] #[.pointer (some ⟨w.heap.size, 0, none⟩)]] 120) := by rw [hW]; exact box_new (w.alloc _) _ (by simp)
  have c8 := (H.out.below HB.out).c8
  have dd := (box_at hbd 0).1
  have HBD := hid hbd
  have HBC := hid hbc
  have HW := hid hW
  have hWs : W.heap.size = w.heap.size + 2 := by rw [hW]; simp
  have HWS := hid hWs
  have hb2 : Below W.heap.size W (W.alloc (.cells #[.map (some mb)] 110)) := below_alloc (Below.refl _ _) _
  have hB2 : Below w.heap.size w (W.alloc (.cells #[.map (some mb)] 110)) := HB.out.trans (hb2.mono (by omega))
  have HSF := hid (sortedFunc_calls (W.alloc (.cells #[.map (some mb)] 110)) W.heap.size (w.heap.size + 1) w.heap.size bp mb n d f L A c (H.out.below hB2) hi (cell_new1 _ _ _ _ rfl 0) ((hb2.cell (p := ⟨w.heap.size + 1, 0, none⟩) (by show w.heap.size + 1 < W.heap.size; omega)).trans (box_at hbc 0).1) ((hb2.cell (p := ⟨w.heap.size, 0, none⟩) (by show w.heap.size < W.heap.size; omega)).trans (box_at hbd 0).1) hl)
  clear h hi hW hbd hbc hWs hb2 hB2
  go_enter Try.func24, Try.ntmps24
  go_upto_region 5 with fail
  rw [← HW.out]
  go_wp2_with (first
    | (go_at_call 60; go_must (refine (keys_calls _ mb).mono ?_; rintro e w' ⟨rfl, rfl⟩))
    | (go_at_call 59; go_must (refine HSF.out.mono ?_; rintro e w2 ⟨A', c', ts, rfl, hte, hto, htb⟩)))
  have hB02 : Below w.heap.size w w2 := HB.out.trans ((below_alloc (Below.refl _ W) (.cells #[.map (some mb)] 110)).trans (htb.mono (by simp)) |>.mono (by have := HWS.out; omega))
  have htl : ts.length = d.ws.length := by have := congrArg List.length hte; simpa using this
  have hlt2 : w.heap.size < w2.heap.size := by have := htb.size; have := HWS.out; simp at *; omega
  have hbd2 : w2.heap[w.heap.size]? = some (.cells #[.pointer (some ⟨bp, 0, none⟩)] 53) := ((below_alloc (Below.refl _ W) (.cells #[.map (some mb)] 110)).trans (htb.mono (by simp)) |>.block _ (by have := HWS.out; omega)).trans HBD.out
  have HTE := hid hte
  have HTO := hid hto
  have HB02 := hid hB02
  have HTL := hid htl
  have HBD2 := hid hbd2
  clear hte hto htb hB02 htl hbd2
  go_loopw [3, 18] (fun v3 v18 wr => ∃ (i : Nat) (A3 : Option Addr) (c3 : Nat) (l : List Wg), i ≤ ts.length ∧ v18 = .int .i64 i ∧ v3 = .slice A3 l.length c3 ∧ Hid (l.length = i) ∧ Hid (Cpw w2.heap.size wr A3 c3 l (d.ws.take i)) ∧ Hid (Below w2.heap.size w2 wr)) (fun _ v18 _ => ts.length - numV v18)
  case atStart => exact ⟨0, none, 0, [], Nat.zero_le _, rfl, rfl, hid rfl, hid (Cpw.nil _ _), hid (Below.refl _ _)⟩
  case round =>
    obtain ⟨i, A3, c3, l, hil, rfl, rfl, HL, HC, HWr⟩ := hrel
    by_cases hlt : i < ts.length
    · have hiw : i < d.ws.length := by rw [← HTL.out]; exact hlt
      obtain ⟨x, hx⟩ : ∃ x, d.ws[i] = x := ⟨_, rfl⟩
      have hxm : x ∈ d.ws := hx ▸ List.getElem_mem hiw
      have hwf := HI.out.wf x hxm
      have hs := goodC_s hwf.1
      have hq := hwf.2.2
      have hke : ts[i].1 = (x.2.s, x.1) := by
        have h1 : (ts.map (·.1))[i]? = (d.ws.map kOf)[i]? := by rw [HTE.out]
        rw [List.getElem?_map, List.getElem?_map, List.getElem?_eq_getElem hlt, List.getElem?_eq_getElem hiw, hx] at h1
        exact Option.some.inj h1
      have hlk := look_of_mem HI.out.unq hxm
      obtain ⟨m, hm, hmc⟩ : ∃ m, f (sk hs hq) = some m ∧ m.cm = x.2 := by
        have := H.out.fm (sk hs hq)
        rw [show lookW d.ws (sk hs hq).1.1 (sk hs hq).1.2 = some x from hlk] at this
        cases hf : f (sk hs hq) with
        | none => rw [hf] at this; cases this
        | some m => rw [hf] at this; exact ⟨m, rfl, Option.some.inj this⟩
      obtain ⟨s, q⟩ : ∃ s q : Int, True := ⟨0, 0, trivial⟩
      obtain ⟨s, hse⟩ : ∃ s, x.2.s = s := ⟨_, rfl⟩
      obtain ⟨q, hqe⟩ : ∃ q, x.1 = q := ⟨_, rfl⟩
      have htk : d.ws.take (i + 1) = d.ws.take i ++ [(q, m.cm)] := by
        rw [List.take_succ_eq_append_getElem hiw, hx, hmc, ← hqe]
      have hmo : MO w m := H.out.fok _ _ hm
      have hmx : m.x.length ≤ 400 := by
        have : goodC m.cm = true := by rw [hmc]; exact hwf.1
        exact (goodC_x this).2
      obtain ⟨g, rfl⟩ : ∃ g, A' = some ⟨g, 0, none⟩ := by
        rcases HTO.out.2 with ⟨_, h0⟩ | ⟨g, cap, cur, e, _⟩
        · omega
        · simp only [Value.slice.injEq] at e
          exact ⟨g, e.1⟩
      have hcg := cells8_get ts i hlt
      rw [hke, hse, hqe] at hcg
      have hgl := (own_base HTO.out rfl).2
      have k0 : wr.cell? ⟨g, i * 2, none⟩ = some (.int .i64 s) := by
        have := HTO.out.cells (g := g) rfl _ _ hcg.1
        rw [add_at, Nat.zero_add] at this
        exact (HWr.out.cell (p := ⟨g, i * 2, none⟩) hgl).trans this
      have k1 : wr.cell? ⟨g, i * 2 + 1, none⟩ = some (.int .u16 q) := by
        have := HTO.out.cells (g := g) rfl _ _ hcg.2
        rw [add_at, Nat.zero_add] at this
        exact (HWr.out.cell (p := ⟨g, i * 2 + 1, none⟩) hgl).trans this
      rw [hse] at hs
      rw [hqe] at hq
      have hm' : f (sk hs hq) = some m := by
        have : sk hs hq = sk (s := x.2.s) (q := x.1) (hse ▸ hs) (hqe ▸ hq) := by subst hse hqe; rfl
        rw [this]
        exact hm
      obtain ⟨W3, hW3⟩ : ∃ W3, W3 = wr.alloc (.cells #[.int .i64 s, .int .u16 q] 117) := ⟨_, rfl⟩
      have hb3 : Below wr.heap.size wr W3 := by rw [hW3]; exact below_alloc (Below.refl _ _) _
      have hk3 : W3.heap[wr.heap.size]? = some (.cells #[.int .i64 s, .int .u16 q] 117) := by rw [hW3]; exact box_new _ _ rfl
      have hrl : w2.heap.size ≤ wr.heap.size := HWr.out.size
      have hrl3 : wr.heap.size < W3.heap.size := by rw [hW3]; simp
      have HB23 : Hid (Below w.heap.size w W3) := hid (HB02.out.trans ((HWr.out.trans (hb3.mono hrl)).mono HB02.out.size))
      have HC3 := hid (HC.out.below hb3)
      have HS8 : Hid (∀ X Y, Below W3.heap.size W3 Y → Y.grownBy X (Value.slice A3 l.length c3).ownBlock → X.cell? ⟨wr.heap.size, 0, none⟩ = some (.int .i64 s) ∧ X.cell? ⟨wr.heap.size, 1, none⟩ = some (.int .u16 q) ∧ X.cell? ⟨w.heap.size, 0, none⟩ = some (.pointer (some ⟨bp, 0, none⟩)) ∧ X.cell? ⟨bp, 8, none⟩ = some (.map (some mb)) ∧ (Instr.lookup 110 (.map (some mb)) (.agg #[.int .i64 s, .int .u16 q]) false).run Try.prog X = .ok (.agg #[.int .i64 m.s, .bool m.u, .slice m.A m.x.length m.c]) X) := hid fun X Y hY hX => by
        have hyr := own_base HC3.out.own (k := wr.heap.size)
        have hlt := H.out.lt
        have hD3 := (H.out.below HB23.out).below hY
        have hbl : ∀ k, (Value.slice A3 l.length c3).ownBlock = some k → w2.heap.size ≤ k := fun k e => (own_base HC3.out.own e).1
        have hoY := Base.ownsRow_later HC3.out.own hY
        have hDX : Dk X bp mb n d f L A c := hD3.keptO hX fun k e => by
          have := hbl k e
          refine ⟨by omega, by omega, fun e2 => ?_, own_nt hoY (by decide) k e⟩
          cases hA : A with
          | none => rw [hA] at e2; cases e2
          | some a =>
            rw [hA] at e2
            have e3 : k = a.block := Option.some.inj e2
            have := H.out.rdy.lt a hA
            omega
        have hkY : Y.heap[wr.heap.size]? = some (.cells #[.int .i64 s, .int .u16 q] 117) := (hY.block _ hrl3).trans hk3
        have hkX : X.heap[wr.heap.size]? = some (.cells #[.int .i64 s, .int .u16 q] 117) := (hX.block _ (Array.getElem?_eq_some_iff.1 hkY).1 (fun e => by
          rcases hoY.2 with ⟨e0, _⟩ | ⟨g2, cap2, cur2, e0, _, hg2, _⟩
          · simp only [Value.slice.injEq] at e0
            rw [e0.1] at e
            cases e
          · simp only [Value.slice.injEq] at e0
            rw [e0.1] at e
            have e4 : wr.heap.size = g2 := Option.some.inj e
            rw [← e4, hkY] at hg2
            cases hg2)).trans hkY
        have hdY : Y.heap[w.heap.size]? = some (.cells #[.pointer (some ⟨bp, 0, none⟩)] 53) := (hY.block _ (by omega)).trans ((hb3.block _ (by omega)).trans ((HWr.out.block _ hlt2).trans HBD2.out))
        have hdX : X.heap[w.heap.size]? = some (.cells #[.pointer (some ⟨bp, 0, none⟩)] 53) := (hX.block _ (Array.getElem?_eq_some_iff.1 hdY).1 (fun e => by have := hbl _ e.symm; omega)).trans hdY
        exact ⟨(box_at hkX 0).1, (box_at hkX 1).1, (box_at hdX 0).1, hDX.c8, hDX.look1 hs hq hm'⟩
      have HTX := hid (hmo.txt.below HB23.out)
      have HNL := hid hmo.nil
      have HTK := hid htk
      have HW3 := hid hW3
      have HSQ := hid (And.intro hs hq)
      have hbd1 : w.heap.size < W3.heap.size := by omega
      clear hx hxm hwf hke hlk hm hmc hmo htk hcg hse hqe hm' hW3 hk3 hs hq
      go_upto_region 8 with fail
      rw [← HW3.out]
      have hB3 : w2.heap.size ≤ W3.heap.size := by omega
      go_region_held3 (fun X => X.cell? ⟨wr.heap.size, 0, none⟩ = some (.int .i64 s) ∧ X.cell? ⟨wr.heap.size, 1, none⟩ = some (.int .u16 q) ∧ X.cell? ⟨w.heap.size, 0, none⟩ = some (.pointer (some ⟨bp, 0, none⟩)) ∧ X.cell? ⟨bp, 8, none⟩ = some (.map (some mb)) ∧ (Instr.lookup 110 (.map (some mb)) (.agg #[.int .i64 s, .int .u16 q]) false).run Try.prog X = .ok (.agg #[.int .i64 m.s, .bool m.u, .slice m.A m.x.length m.c]) X) (first
        | exact HS8.out _ _ HX6.out HG6.out
        | (refine HS8.out _ _ ?_ (World.grownBy.refl _ _); repeat (first | assumption | exact Below.refl _ _ | refine Below.drew ?_ | refine below_alloc ?_ _))) (first
        | (go_at_call 55; refine (copied_calls' m.s m.u m.A m.x m.c _ (HTX.out.below (by repeat (first | assumption | exact Below.refl _ _ | refine Below.drew ?_ | refine below_alloc ?_ _))) HNL.out (by omega)).mono ?_; rintro e w5 ⟨A5, c5, rfl, HO5, HB5⟩; have hx5 : Below W3.heap.size W3 w5 := (by first | exact HB5.out | exact (Below.drew (Below.refl _ _)).trans HB5.out))
        | (refine step_appW rfl (.tmp 22) (.tmp 33) rfl w2.heap.size A3 c3 l l.length rfl (by simp [Act.eval, Act.put]) (Base.ownsRow_later HC3.out.own (below_alloc hx5 _)) ⟨w5.heap.size, 0, none⟩ 1 (q, ⟨m.s, m.u, A5, m.x, c5⟩) (by simp [Act.eval, Act.put]) (newW w5 (q, ⟨m.s, m.u, A5, m.x, c5⟩) rfl) (by have := HL.out; omega) (by have := hx5.size; simp; omega) ?_; intro A6 c6 w6 ho6 hg6; have HX6 : Hid (Below W3.heap.size W3 (w5.alloc (.cells #[.int .u16 q, .int .i64 m.s, .bool m.u, .slice A5 m.x.length c5] 78))) := hid (below_alloc hx5 _); have HG6 : Hid ((w5.alloc (.cells #[.int .u16 q, .int .i64 m.s, .bool m.u, .slice A5 m.x.length c5] 78)).grownBy w6 (Value.slice A3 l.length c3).ownBlock) := hid hg6; have HO6 := hid ho6))
      all_goals
        have hmo5 : MO (w5.alloc (.cells #[.int .u16 q, .int .i64 m.s, .bool m.u, .slice A5 m.x.length c5] 78)) ⟨m.s, m.u, A5, m.x, c5⟩ := MO.below (own_low HO5.out (Nat.zero_le _)) (below_alloc (Below.refl _ _) _)
        have hC6 := (HC3.out.below HX6.out).app (x := (q, ⟨m.s, m.u, A5, m.x, c5⟩)) hmo5 HO6.out HG6.out
        rw [show d.ws.take i ++ [(q, (Mg.mk m.s m.u A5 m.x c5).cm)] = d.ws.take (i + 1) from HTK.out.symm] at hC6
        have hb03 : Below w2.heap.size w2 W3 := HWr.out.trans (by rw [HW3.out]; exact (below_alloc (Below.refl _ _) _).mono hrl)
        have hW6 : Below w2.heap.size w2 w6 := (hb03.trans (HX6.out.mono hB3)).grown HG6.out (by have := HX6.out.size; omega) (fun k e => (own_base HC3.out.own e).1)
        have HC6 := hid hC6
        have HW6 := hid hW6
        clear hmo5 hC6 hb03 hW6
        go_wp2
        go_roundw
        case rel => exact ⟨i + 1, A6, c6, l ++ [(q, ⟨m.s, m.u, A5, m.x, c5⟩)], by omega, by go_num, by rw [List.length_append]; rfl, hid (by rw [List.length_append, HL.out]; rfl), HC6, HW6⟩
        case measure => simp [numV]; omega
    · obtain rfl : i = ts.length := by omega
      have hC := HC.out
      rw [HTL.out, List.take_length] at hC
      have HCC := hid hC
      clear hC HC
      go_wp2
      go_ret
      exact ⟨A3, c3, l, rfl, ⟨own_low HCC.out.own HB02.out.size, HCC.out.wt, HCC.out.ok⟩, HB02.out.trans (HWr.out.mono HB02.out.size)⟩
end Go.Proofs.Ythoammfpjheodaa.Or
