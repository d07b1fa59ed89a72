import Derived.Test.YthoammfpjheodaaRzK
namespace Go.Proofs.Ythoammfpjheodaa.Rz
open Go.ChangeShapes Go.WideShapes Go.ChangeAt Go.RowKit Go.Shelf MK
open Base (hid cell_new1 cell_old1 froz_new1 froz_old1)
attribute [local go_sem] Oper.semAt_some
set_option linter.unusedVariables false
set_option linter.unusedSimpArgs false
set_option maxRecDepth 100000
theorem fwd_total {m : List Pm} {f : Pm} (hm : m.length < 4000000000) : ∀ (k j : Nat) (l : List Pm) (r : Pm), FwdAt m f l j r → j ≤ m.length → m.length - j ≤ k → ∃ j' r', FwdAt m f (f :: fwd m m.length f) j' r' ∧ j' + 1 ≤ m.length
  | 0, j, l, r, h, hj, hk => by
    have := h.lt hm hj
    omega
  | k + 1, j, l, r, h, hj, hk => by
    have hj1 := h.lt hm hj
    by_cases he : r.e = true
    · rw [h.stop hj1 (.inl he)]
      exact ⟨j, r, h, hj1⟩
    · have he : r.e = false := by simpa using he
      cases hl : look m (step r.t 1) with
      | none =>
        rw [h.stop hj1 (.inr fun q hq => by rw [hl] at hq; cases hq)]
        exact ⟨j, r, h, hj1⟩
      | some q =>
        by_cases hb : q.b = true
        · rw [h.stop hj1 (.inr fun q' hq => by rw [hl] at hq; cases hq; exact hb)]
          exact ⟨j, r, h, hj1⟩
        · have hb : q.b = false := by simpa using hb
          exact fwd_total hm k (j + 1) (l ++ [q]) q (h.go hj1 he hl hb) hj1 (by omega)
structure PartOk (m : List Pm) (p : Pm) (l : List Pm) : Prop where
  len : 0 < l.length ∧ l.length ≤ m.length
  nod : (keys l).Nodup
  mem : ∀ a ∈ l, a ∈ m ∨ a = p
theorem part_ok {m : List Pm} {p : Pm} (hm : m.length ≤ 1000000) (hu : U32 p.t) (hk : p.t ∈ keys m) (hall : ∀ q ∈ m, U32 q.t) : PartOk m p (part m p) := by
  have hf : back m m.length p = p ∨ back m m.length p ∈ m := back_mem m m.length p
  have hfk : (back m m.length p).t ∈ keys m := by
    rcases hf with h | h
    · rw [h]; exact hk
    · exact List.mem_map.2 ⟨_, h, rfl⟩
  have hfu : U32 (back m m.length p).t := by
    rcases hf with h | h
    · rw [h]; exact hu
    · exact hall _ h
  obtain ⟨j, r, h, hj⟩ := fwd_total (m := m) (f := back m m.length p) (by omega) m.length 0 _ _ (FwdAt.zero hfu hfk) (Nat.zero_le _) (by omega)
  refine ⟨?_, h.nodup (by omega), fun a ha => ?_⟩
  · have := h.len
    unfold part
    omega
  · rcases h.mem a ha with h' | h'
    · exact .inl h'
    · subst h'
      exact hf.symm
theorem part_off {m : List Pm} {p p' : Pm} (h : PartOk m p (part m p)) (hp' : p' ∈ m) (ht : p'.t = p.t) (hx : p'.x = p.x) (hall : ∀ q ∈ m, U32 q.t) : OffOk m (part m p) := by
  refine ⟨h.nod, fun a ha => ?_⟩
  rcases h.mem a ha with h' | rfl
  · exact ⟨hall a h', a, h', rfl, rfl⟩
  · exact ⟨ht ▸ hall p' hp', p', hp', ht, by rw [hx]⟩
theorem Ok.mv {w w' : World} {bp mb n : Nat} {m : List Pm} {p : Pm} (h : Ok w p) (hB : Bn w bp mb n m) (hA : 0 < p.x.length → ∀ ad, p.A = some ad → ad.block ≠ bp) (hm : Mv w w' bp mb) : Ok w' p := by
  refine ⟨fun i hi => ?_, h.nil, h.u, h.l⟩
  obtain ⟨ad, e, hl, hc⟩ := h.txt i hi
  obtain ⟨ad', e', hne, _⟩ := hB.apart h.txt hi
  rw [e] at e'
  cases e'
  refine ⟨ad, e, Nat.lt_of_lt_of_le hl hm.size, (World.cell?_of_block (w := w) (a := ad.add i) ?_).trans hc⟩
  rw [add_block]
  exact hm.block _ hl (hA (Nat.lt_of_le_of_lt (Nat.zero_le _) hi) _ e) hne
theorem may_zero {m : List Pm} {p : Pm} (h : mayE m p = 0) : rightP p = true ∧ look m p.t = none ∧ held m + p.x.length ≤ 2000 := by
  unfold mayE at h
  by_cases h1 : rightP p = false
  · rw [if_pos h1] at h; cases h
  · rw [if_neg h1] at h
    by_cases h2 : (look m p.t).isSome = true
    · rw [if_pos h2] at h; cases h
    · rw [if_neg h2] at h
      by_cases h3 : 2000 < held m + p.x.length
      · rw [if_pos h3] at h; cases h
      · exact ⟨by simpa using h1, by cases hl : look m p.t with | none => rfl | some q => rw [hl] at h2; exact absurd rfl h2, by omega⟩
theorem Mv.fresh {w w' w'' : World} {bp mb b : Nat} (h : Mv w w' bp mb) (hg : w'.grownBy w'' (some b)) (hb : w.heap.size ≤ b) : Mv w w'' bp mb :=
  ⟨hg.os.trans h.os, hg.tape.trans h.tape, hg.output.trans h.output, Nat.le_trans h.size hg.size, fun k h1 h2 h3 => (hg.block k (Nat.lt_of_lt_of_le h1 h.size) (fun e => by have := Option.some.inj e; omega)).trans (h.block k h1 h2 h3)⟩
theorem Bn.grown1 {w w' : World} {bp mb n b : Nat} {m : List Pm} (h : Bn w bp mb n m) (hg : w.grownBy w' (some b)) (h1 : b ≠ bp) (h2 : b ≠ mb) (hok : ∀ q ∈ m, Ok w' q) : Bn w' bp mb n m := by
  have hb : w'.heap[bp]? = w.heap[bp]? := hg.block bp h.lt.1 (fun e => h1 (Option.some.inj e).symm)
  exact ⟨(World.cell?_of_block (a := ⟨bp, 0, none⟩) hb).trans h.ptr, (World.cell?_of_block (a := ⟨bp, 1, none⟩) hb).trans h.hel, (World.frozen?_of_block (a := ⟨bp, 1, none⟩) hb).trans h.fr, h.map.block (hg.block mb h.lt.2 (fun e => h2 (Option.some.inj e).symm)), h.nod, hok, h.far⟩
/-- What Put answers. -/
def PutPost (w : World) (bp mb n : Nat) (m : List Pm) (p : Pm) (e : Ending) (w' : World) : Prop :=
  (mayE m p ≠ 0 ∧ e = .returned (.tuple #[.agg #[.int .i64 0, .bool false, .slice none 0 0, .int .u16 0], .bool false, errV (mayE m p)]) ∧ Bn w' bp mb n m) ∨
  (mayE m p = 0 ∧ ∃ p' : Pm, p' = { p with A := p'.A, c := p'.c } ∧ (∀ ad, p'.A = some ad → w.heap.size ≤ ad.block) ∧
    ((closed (part (m ++ [p']) p) = false ∧ e = .returned (.tuple #[.agg #[.int .i64 0, .bool false, .slice none 0 0, .int .u16 0], .bool false, errV 0]) ∧ Bn w' bp mb (n + 1) (m ++ [p'])) ∨
     (closed (part (m ++ [p']) p) = true ∧ Bn w' bp mb (n + 1) (off (m ++ [p']) (part (m ++ [p']) p)) ∧
      ((wholeP (part (m ++ [p']) p) = none ∧ e = .returned (.tuple #[.agg #[.int .i64 0, .bool false, .slice none 0 0, .int .u16 0], .bool false, errV 2])) ∨
       ∃ s u x q A2 c2, wholeP (part (m ++ [p']) p) = some (s, u, x) ∧ (part (m ++ [p']) p).head?.map (·.q) = some q ∧ e = .returned (.tuple #[.agg #[.int .i64 s, .bool u, .slice A2 x.length c2, .int .u16 q], .bool true, errV 0]) ∧ w'.ownsRow w.heap.size 5 1 (.slice A2 x.length c2) x.length (x.map (.int .u8))))))
/-- The box of the answer. -/
structure DB (w : World) (b : Nat) (s : Int) (u : Bool) (A : Option Addr) (n c : Nat) (q : Int) : Prop where
  c0 : w.cell? ⟨b, 0, none⟩ = some (.int .i64 s)
  c1 : w.cell? ⟨b, 1, none⟩ = some (.bool u)
  c2 : w.cell? ⟨b, 2, none⟩ = some (.slice A n c)
  c3 : w.cell? ⟨b, 3, none⟩ = some (.int .u16 q)
  fr : ∀ i, w.frozen? ⟨b, i, none⟩ = false
theorem DB.lt {w : World} {b : Nat} {s : Int} {u : Bool} {A : Option Addr} {n c : Nat} {q : Int} (h : DB w b s u A n c q) : b < w.heap.size := lt_of_cell h.c0
theorem DB.block {w w' : World} {b : Nat} {s : Int} {u : Bool} {A : Option Addr} {n c : Nat} {q : Int} (h : DB w b s u A n c q) (hb : w'.heap[b]? = w.heap[b]?) : DB w' b s u A n c q :=
  ⟨(World.cell?_of_block (a := ⟨b, 0, none⟩) hb).trans h.c0, (World.cell?_of_block (a := ⟨b, 1, none⟩) hb).trans h.c1, (World.cell?_of_block (a := ⟨b, 2, none⟩) hb).trans h.c2, (World.cell?_of_block (a := ⟨b, 3, none⟩) hb).trans h.c3, fun i => (World.frozen?_of_block (a := ⟨b, i, none⟩) hb).trans (h.fr i)⟩
theorem DB.new (w : World) (s : Int) (u : Bool) (A : Option Addr) (n c : Nat) (q : Int) : DB (w.alloc (.cells #[.int .i64 s, .bool u, .slice A n c, .int .u16 q] 45)) w.heap.size s u A n c q := by
  have h := box_new w (.cells #[.int .i64 s, .bool u, .slice A n c, .int .u16 q] 45) rfl
  exact ⟨(box_at h 0).1, (box_at h 1).1, (box_at h 2).1, (box_at h 3).1, fun i => (box_at h i).2⟩
theorem DB.set {w : World} {b : Nat} {s s' : Int} {u u' : Bool} {A A' : Option Addr} {n c n' c' : Nat} {q q' : Int} (h : DB w b s u A n c q) : DB (w.setCells b 0 [.int .i64 s', .bool u', .slice A' n' c', .int .u16 q']) b s' u' A' n' c' q' := by
  have hc : ∀ j, j < 4 → (w.cell? ⟨b, 0 + j, none⟩).isSome = true := by
    intro j hj
    rw [Nat.zero_add]
    match j, hj with
    | 0, _ => rw [h.c0]; rfl
    | 1, _ => rw [h.c1]; rfl
    | 2, _ => rw [h.c2]; rfl
    | 3, _ => rw [h.c3]; rfl
  have h4 := World.cell?_setCells_in b [.int .i64 s', .bool u', .slice A' n' c', .int .u16 q'] 0 w hc
  refine ⟨h4 0 (by show 0 < 4; decide), h4 1 (by show 1 < 4; decide), h4 2 (by show 2 < 4; decide), h4 3 (by show 3 < 4; decide), fun i => ?_⟩
  have := h.fr i
  simpa [World.setCells] using this
theorem results456 {fn : Func} (h : fn.results = #[.cell 4 45, .tmp 5, .tmp 6]) {tmps : Array Value} {b : Nat} {s : Int} {u : Bool} {A : Option Addr} {n c : Nat} {q : Int} {v5 v6 : Value} {w : World} (ht : tmps[4]? = some (.pointer (some ⟨b, 0, none⟩))) (ht5 : tmps[5]? = some v5) (ht6 : tmps[6]? = some v6)
    (hd : DB w b s u A n c q) : (results fn tmps).run Try.prog w = .ok (.tuple #[.agg #[.int .i64 s, .bool u, .slice A n c, .int .u16 q], v5, v6]) w := by
  obtain ⟨c0, c1, c2, c3, _⟩ := hd
  simp only [results, h]
  simp [go_sem, c0, c1, c2, c3, Sem.run_bind, Array.getD_eq_getD_getElem?, ht, ht5, ht6]
set_option maxHeartbeats 4000000 in
theorem put_calls (w : World) (bp mb n : Nat) (m : List Pm) (p : Pm) (h : Bn w bp mb n m) (hn : n < 1000000) (hl : m.length ≤ 1000) (hp : Ok w p) (hA : 0 < p.x.length → ∀ ad, p.A = some ad → ad.block ≠ bp) (hh : held m ≤ 1000000000) (hs : 0 ≤ p.s ∧ p.s ≤ 65535) (hms : ∀ q ∈ m, 0 ≤ q.s ∧ q.s ≤ 65535) :
    Calls Try.prog 14 #[.pointer (some ⟨bp, 0, none⟩), p.val] w fun e w' => Mv w w' bp mb ∧ PutPost w bp mb n m p e w' := by
  have H := hid h
  have hlt := h.lt
  have HP := hid hp
  have HS := hid hs
  have HMS := hid hms
  have hv : p.val = .agg #[.int .u32 p.t, .int .u16 p.s, .int .u16 p.q, .bool p.b, .bool p.e, .bool p.u, .slice p.A p.x.length p.c] := rfl
  have HV := hid hv
  rw [hv]
  clear h hp hs hms hv
  by_cases hme : mayE m p = 0
  · have HME := hid hme
    clear hme
    go_enter Try.func14, Try.ntmps14
    go_wp2_with (fail)
    have hB2 : Below w.heap.size w ((w.alloc (.cells #[.int .u32 p.t, .int .u16 p.s, .int .u16 p.q, .bool p.b, .bool p.e, .bool p.u, .slice p.A p.x.length p.c] 40)).alloc (.cells #[.int .i64 0, .bool false, .slice none 0 0, .int .u16 0] 45)) := below_alloc (below_alloc (Below.refl _ _) _) _
    rw [← HV.out]
    refine (may_calls _ bp mb n m p (H.out.below hB2) HP.out.u HP.out.l hh).mono ?_
    rintro e w1 ⟨he, hb1⟩
    have herr : errV (mayE m p) = .nilIface := by rw [HME.out]; rfl
    rw [herr] at he
    subst he
    have HB12 := hid (hB2.trans (hb1.mono (by simp; omega)))
    have hd : DB w1 (w.heap.size + 1) 0 false none 0 0 0 := (by
      have := DB.new (w.alloc (.cells #[.int .u32 p.t, .int .u16 p.s, .int .u16 p.q, .bool p.b, .bool p.e, .bool p.u, .slice p.A p.x.length p.c] 40)) 0 false none 0 0 0
      rw [World.size_alloc] at this
      exact this.block (hb1.block _ (by simp)))
    have hx : Box w1 w.heap.size p := ((Box.new w p).below (below_alloc (Below.refl _ _) (.cells #[.int .i64 0, .bool false, .slice none 0 0, .int .u16 0] 45))).below hb1
    have HD := hid hd
    have HX := hid hx
    obtain ⟨d0, d1, d2, d3, df⟩ := hd
    obtain ⟨x0, x1, x2, x3, x4, x5, x6, xf⟩ := hx
    clear hb1 hB2 herr
    go_wp2_with (fail)
    obtain ⟨hmr, hml, hmh⟩ := may_zero HME.out
    rw [← HV.out]
    refine (lay_calls w1 bp mb n m p (H.out.below HB12.out) hn (HP.out.below HB12.out) hml hh).mono ?_
    rintro e w2 ⟨v, A', c', rfl, hb2, hm2, ho2⟩
    obtain ⟨p', hp'⟩ : ∃ p' : Pm, p' = { p with A := A', c := c' } := ⟨_, rfl⟩
    rw [← hp'] at hb2
    have hs1 := HB12.out.size
    have hM02 : Mv w w2 bp mb := (Mv.of_below HB12.out).trans hm2
    have hx2 : Box w2 w.heap.size p := HX.out.block (hm2.block _ HX.out.lt (by omega) (by omega))
    have hd2 : DB w2 (w.heap.size + 1) 0 false none 0 0 0 := HD.out.block (hm2.block _ HD.out.lt (by omega) (by omega))
    have ht' : p'.t = p.t := by rw [hp']
    have hxx' : p'.x = p.x := by rw [hp']
    have hmem : p' ∈ m ++ [p'] := by simp
    have hk1 : p.t ∈ keys (m ++ [p']) := List.mem_map.2 ⟨p', hmem, ht'⟩
    have hfresh2 : ∀ ad, p'.A = some ad → w.heap.size + 2 ≤ ad.block := fun ad e => by
      rw [hp'] at e
      have h1 := (own_base ho2 (k := ad.block) (by rw [show A' = some ad from e]; rfl)).1
      have := HD.out.lt
      omega
    have hfresh : ∀ ad, p'.A = some ad → w.heap.size ≤ ad.block := fun ad e => by have := hfresh2 ad e; omega
    have hokf : ∀ W : World, Mv w W bp mb → Mv w2 W bp mb ∨ w2.grownBy W (some (w.heap.size + 1)) ∨ (∃ V, Mv w2 V bp mb ∧ V.grownBy W (some (w.heap.size + 1))) → ∀ q ∈ m ++ [p'], Ok W q := fun W hW hW2 q hq => by
      rcases List.mem_append.1 hq with hq | hq
      · exact (H.out.ok q hq).mv H.out (fun _ => H.out.far q hq) hW
      · have e := List.mem_singleton.1 hq
        subst e
        have hq2 : Ok w2 q := hb2.ok q hmem
        have key : ∀ (V : World), Ok V q → V.grownBy W (some (w.heap.size + 1)) → Ok W q := fun V hV hg => ⟨fun i hi => by
          obtain ⟨ad, e, hl', hc⟩ := hV.txt i hi
          refine ⟨ad, e, Nat.lt_of_lt_of_le hl' hg.size, (World.cell?_of_block (w := V) (a := ad.add i) ?_).trans hc⟩
          rw [add_block]
          exact hg.block _ hl' (fun e2 => by have := hfresh2 ad e; have := Option.some.inj e2; omega), hV.nil, hV.u, hV.l⟩
        rcases hW2 with hW2 | hW2 | ⟨V, hV, hg⟩
        · exact hq2.mv hb2 (fun _ => hb2.far q hmem) hW2
        · exact key w2 hq2 hW2
        · exact key V (hq2.mv hb2 (fun _ => hb2.far q hmem) hV) hg
    have hpo := part_ok (m := m ++ [p']) (p := p) (by simp; omega) HP.out.u hk1 (fun q hq => (hb2.ok q hq).u)
    have hoo := part_off hpo hmem ht' hxx' (fun q hq => (hb2.ok q hq).u)
    have HBN := hid hb2
    have HM02 := hid hM02
    have HX2 := hid hx2
    have HD2 := hid hd2
    have HP1 : Hid (p' = { p with A := p'.A, c := p'.c }) := hid (by rw [hp'])
    have HFR := hid hfresh
    have HOKF := hid hokf
    have HK1 := hid hk1
    have HPO := hid hpo
    have HOO := hid hoo
    have HPS : Hid (p'.s = p.s) := hid (by rw [hp'])
    have HMH := hid hmh
    have HPX := hid hxx'
    have hs2 := hM02.size
    clear d0 d1 d2 d3 df x0 x1 x2 x3 x4 x5 x6 xf hb2 hm2 ho2 hM02 hx2 hd2 hfresh hfresh2 hokf hk1 hpo hoo hp' ht' hxx' hmem hmr hml hmh
    obtain ⟨x0, x1, x2, x3, x4, x5, x6, xf⟩ := HX2.out
    go_wp2_with (fail)
    rw [← HV.out]
    refine (part_calls w2 bp mb (n + 1) (m ++ [p']) p HBN.out HP.out.u HK1.out (by simp; omega)).mono ?_
    rintro e w3 ⟨A3, c3, rfl, hr3, hb3⟩
    obtain ⟨l, hl'⟩ : ∃ l, l = part (m ++ [p']) p := ⟨_, rfl⟩
    rw [← hl'] at hr3 ⊢
    have HLL := hid hl'
    rw [← hl'] at HPO HOO
    have HR3 := hid hr3
    have HB3 := hid hb3
    have hs3 := hb3.size
    have HD3 := hid (HD2.out.block (hb3.block _ HD2.out.lt))
    have hlen := HPO.out.len
    simp only [List.length_append, List.length_cons, List.length_nil] at hlen
    have hl0 : 0 < l.length := hlen.1
    have hl1 : l.length ≤ 1000000 := by omega
    clear hl' hr3 hb3 x0 x1 x2 x3 x4 x5 x6 xf hlen
    cases hcl : closed l with
    | false =>
      have HCL := hid hcl
      clear hcl
      obtain ⟨d0, d1, d2, d3, df⟩ := HD3.out
      go_wp2_with (fail)
      refine (closed_calls w3 w2.heap.size A3 c3 l HR3.out hl0 hl1).mono ?_
      rintro e w' ⟨he, rfl⟩
      rw [HCL.out] at he
      subst he
      go_wp2
      have g1 := setCells_grown (w.heap.size + 1) [.int .i64 0, .bool false, .slice none 0 0, .int .u16 0] 0 w3
      have hmf : Mv w (w3.setCells (w.heap.size + 1) 0 [.int .i64 0, .bool false, .slice none 0 0, .int .u16 0]) bp mb := (HM02.out.trans (Mv.of_below HB3.out)).fresh g1 (by omega)
      refine bodyPost_ret (results456 rfl rfl rfl rfl (HD3.out.set (s' := 0) (u' := false) (A' := none) (n' := 0) (c' := 0) (q' := 0))) rfl ⟨hmf, .inr ⟨HME.out, p', HP1.out, HFR.out, .inl ⟨by rw [← HLL.out]; exact HCL.out, rfl, ?_⟩⟩⟩
      exact (HBN.out.below HB3.out).grown1 g1 (by omega) (by omega) (HOKF.out _ hmf (.inr (.inr ⟨w3, Mv.of_below HB3.out, g1⟩)))
    | true =>
      have HCL := hid hcl
      clear hcl
      go_wp2_with (fail)
      refine (closed_calls w3 w2.heap.size A3 c3 l HR3.out hl0 hl1).mono ?_
      rintro e w' ⟨he, rfl⟩
      rw [HCL.out] at he
      subst he
      go_wp2_with (fail)
      have hrow := HR3.out
      refine (off_calls w3 bp mb (n + 1) w2.heap.size (m ++ [p']) l A3 c3 (HBN.out.below HB3.out) hrow HOO.out (by omega) (by omega) (by rw [held_app, HPX.out]; have := HMH.out; omega) hl1).mono ?_
      rintro e w4 ⟨v4, rfl, hb4, hm4⟩
      have hs4 := hm4.size
      have hM04 : Mv w w4 bp mb := (HM02.out.trans (Mv.of_below HB3.out)).trans hm4
      have hM24 : Mv w2 w4 bp mb := (Mv.of_below HB3.out).trans hm4
      have hok4 : ∀ a ∈ l, Ok w4 a := fun a ha => by
        rcases HPO.out.mem a ha with h | rfl
        · exact HOKF.out w4 hM04 (.inl hM24) a h
        · exact HP.out.mv H.out hA hM04
      have hss4 : ∀ a ∈ l, 0 ≤ a.s ∧ a.s ≤ 65535 := fun a ha => by
        rcases HPO.out.mem a ha with h | rfl
        · rcases List.mem_append.1 h with h | h
          · exact HMS.out a h
          · rw [List.mem_singleton.1 h, HPS.out]; exact HS.out
        · exact HS.out
      have HB4 := hid hb4
      have HM4 := hid hm4
      have HM04 := hid hM04
      have HM24 := hid hM24
      have HOK4 := hid hok4
      have HSS4 := hid hss4
      have HD4 := hid (HD3.out.block (hm4.block _ HD3.out.lt (by omega) (by omega)))
      have HR4 := hid (hrow.mv hm4 (by omega) (by omega))
      have hll : l.length ≤ 10000 := by have := HPO.out.len; simp only [List.length_append, List.length_cons, List.length_nil] at this; omega
      clear hrow hb4 hm4 hM04 hM24 hok4 hss4
      go_wp2_with (fail)
      refine (whole_calls w4 w2.heap.size A3 c3 l HR4.out hll HOK4.out HSS4.out).mono ?_
      rintro e w5 ⟨hb5, hp5⟩
      have HB5 := hid hb5
      have hs5 := hb5.size
      have HD5 := hid (HD4.out.block (hb5.block _ HD4.out.lt))
      unfold WholePost at hp5
      clear hb5
      cases hwp : wholeP l with
      | none =>
        rw [hwp] at hp5
        have HWP := hid hwp
        clear hwp
        simp only [] at hp5
        subst hp5
        obtain ⟨d0, d1, d2, d3, df⟩ := HD5.out
        have hz5 : w.heap.size + 1 < w5.heap.size := HD5.out.lt
        unfold msgV errV
        go_wp2
        have g1 := setCells_grown (w.heap.size + 1) [.int .i64 0, .bool false, .slice none 0 0, .int .u16 0] 0 w5
        have hm5 : Mv w w5 bp mb := HM04.out.trans (Mv.of_below HB5.out)
        have hmf := hm5.fresh g1 (by omega)
        have hbal : Below (w5.setCells (w.heap.size + 1) 0 [.int .i64 0, .bool false, .slice none 0 0, .int .u16 0]).heap.size (w5.setCells (w.heap.size + 1) 0 [.int .i64 0, .bool false, .slice none 0 0, .int .u16 0]) ((w5.setCells (w.heap.size + 1) 0 [.int .i64 0, .bool false, .slice none 0 0, .int .u16 0]).alloc (.cells #[.int .i64 0, .bool false, .slice none 0 0] 34)) := below_alloc (Below.refl _ _) _
        refine bodyPost_ret (results456 rfl rfl rfl rfl ((HD5.out.set (s' := 0) (u' := false) (A' := none) (n' := 0) (c' := 0) (q' := 0)).block (hbal.block _ (by rw [size_sets]; omega)))) rfl ⟨hmf.trans (Mv.of_below hbal), .inr ⟨HME.out, p', HP1.out, HFR.out, .inr ⟨by rw [← HLL.out]; exact HCL.out, ?_, .inl ⟨by rw [← HLL.out]; exact HWP.out, rfl⟩⟩⟩⟩
        rw [← HLL.out]
        exact ((HB4.out.below HB5.out).grown1 g1 (by omega) (by omega) (fun q hq => HOKF.out _ hmf (.inr (.inr ⟨w5, HM24.out.trans (Mv.of_below HB5.out), g1⟩)) q ((off_mem _ _).1 hq).1)).below hbal
      | some r =>
        obtain ⟨s, u, x⟩ := r
        rw [hwp] at hp5
        have HWP := hid hwp
        clear hwp
        simp only [] at hp5
        obtain ⟨A6, c6, rfl, ho6⟩ := hp5
        have HO6 := hid ho6
        clear ho6
        obtain ⟨d0, d1, d2, d3, df⟩ := HD5.out
        have hz5 : w.heap.size + 1 < w5.heap.size := HD5.out.lt
        unfold msgV errV
        obtain ⟨g, rfl, hBg, hgl, k0, k1, k2, k3, k4, k5, k6⟩ := (HR4.out.below HB5.out).cells 0 hl0
        obtain ⟨q0, hq0⟩ : ∃ q0, l[0].q = q0 := ⟨_, rfl⟩
        rw [hq0] at k2
        have k2' : w5.cell? ⟨g, 2, none⟩ = some (.int .u16 q0) := by simpa using k2
        have HQ0 := hid hq0
        clear k0 k1 k2 k3 k4 k5 k6 hq0
        go_wp2
        have hal : Below w5.heap.size w5 (w5.alloc (.cells #[.int .i64 s, .bool u, .slice A6 x.length c6] 34)) := below_alloc (Below.refl _ _) _
        have hmb := MB.new w5 s u A6 x.length c6
        generalize w5.alloc (.cells #[.int .i64 s, .bool u, .slice A6 x.length c6] 34) = Y at hal hmb ⊢
        have HD6 := hid (HD5.out.block (hal.block _ hz5))
        have kY : Y.cell? ⟨g, 2, none⟩ = some (.int .u16 q0) := (hal.cell (p := ⟨g, 2, none⟩) hgl).trans k2'
        have HAL := hid hal
        obtain ⟨y0, y1, y2, y3, yf⟩ := HD6.out
        obtain ⟨z0, z1, z2, zf⟩ := hmb
        clear d0 d1 d2 d3 df k2' hal
        go_region
        go_wp2
        have g1 := setCells_grown (w.heap.size + 1) [.int .i64 s, .bool u, .slice A6 x.length c6, .int .u16 q0] 0 Y
        have hmY : Mv w Y bp mb := (HM04.out.trans (Mv.of_below HB5.out)).trans (Mv.of_below HAL.out)
        have hmf := hmY.fresh g1 (by omega)
        have hsY := HAL.out.size
        refine bodyPost_ret (results456 rfl rfl rfl rfl ((HD6.out.set (s' := s) (u' := u) (A' := A6) (n' := x.length) (c' := c6) (q' := q0)).block rfl)) rfl ⟨hmf.trans (Mv.of_below (Below.drew (Below.refl _ _))), .inr ⟨HME.out, p', HP1.out, HFR.out, .inr ⟨by rw [← HLL.out]; exact HCL.out, ?_, .inr ⟨s, u, x, q0, A6, c6, by rw [← HLL.out]; exact HWP.out, ?_, rfl, ?_⟩⟩⟩⟩
        · rw [← HLL.out]
          exact (((HB4.out.below HB5.out).below HAL.out).grown1 g1 (by omega) (by omega) (fun q hq => HOKF.out _ hmf (.inr (.inr ⟨Y, (HM24.out.trans (Mv.of_below HB5.out)).trans (Mv.of_below HAL.out), g1⟩)) q ((off_mem _ _).1 hq).1)).below (Below.drew (Below.refl _ _))
        · rw [← HLL.out, ← HQ0.out, List.head?_eq_getElem?, List.getElem?_eq_getElem hl0]
          rfl
        · have h1 := Base.ownsRow_later HO6.out HAL.out
          have h2 := h1.kept g1 (by
            rcases hb : (Value.slice A6 x.length c6).ownBlock with _ | q
            · exact .inl rfl
            · exact .inr fun e => by have := (own_base HO6.out hb).1; have := Option.some.inj e; have := HD4.out.lt; omega)
          exact own_low (Base.ownsRow_later h2 (Below.drew (Below.refl _ _))) (by omega)
  · have HME := hid hme
    clear hme
    go_enter Try.func14, Try.ntmps14
    go_wp2_with (fail)
    have hB2 : Below w.heap.size w ((w.alloc (.cells #[.int .u32 p.t, .int .u16 p.s, .int .u16 p.q, .bool p.b, .bool p.e, .bool p.u, .slice p.A p.x.length p.c] 40)).alloc (.cells #[.int .i64 0, .bool false, .slice none 0 0, .int .u16 0] 45)) := below_alloc (below_alloc (Below.refl _ _) _) _
    rw [← HV.out]
    refine (may_calls _ bp mb n m p (H.out.below hB2) HP.out.u HP.out.l hh).mono ?_
    rintro e w1 ⟨he, hb1⟩
    have herr : errV (mayE m p) = .iface 81 (.int .i64 (mayE m p)) := if_neg HME.out
    rw [herr] at he
    subst he
    have HB12 := hid (hB2.trans (hb1.mono (by simp; omega)))
    have hd : DB w1 (w.heap.size + 1) 0 false none 0 0 0 := (by
      have := DB.new (w.alloc (.cells #[.int .u32 p.t, .int .u16 p.s, .int .u16 p.q, .bool p.b, .bool p.e, .bool p.u, .slice p.A p.x.length p.c] 40)) 0 false none 0 0 0
      rw [World.size_alloc] at this
      exact this.block (hb1.block _ (by simp)))
    have HD := hid hd
    obtain ⟨d0, d1, d2, d3, df⟩ := hd
    have HERR := hid herr
    clear hb1 hB2 herr
    go_wp2
    have g1 := setCells_grown (w.heap.size + 1) [.int .i64 0, .bool false, .slice none 0 0, .int .u16 0] 0 w1
    have hs1 := HB12.out.size
    have hbf : Below w.heap.size w (w1.setCells (w.heap.size + 1) 0 [.int .i64 0, .bool false, .slice none 0 0, .int .u16 0]) := HB12.out.grown g1 (by omega) (fun k e => by have := Option.some.inj e; omega)
    refine bodyPost_ret (results456 rfl rfl rfl rfl (HD.out.set (s' := 0) (u' := false) (A' := none) (n' := 0) (c' := 0) (q' := 0))) rfl ⟨Mv.of_below hbf, .inl ⟨HME.out, ?_, H.out.below hbf⟩⟩
    rw [HERR.out]
    rfl
end Go.Proofs.Ythoammfpjheodaa.Rz
