import Derived.Test.YthoammfpjheodaaRaT
import Derived.Test.YthoammfpjheodaaRzW
namespace Go.Proofs.Ythoammfpjheodaa.Rz
open Go.ChangeShapes Go.WideShapes Go.ChangeAt Go.RowKit Go.Shelf MK Go.Joins
open Base (hid cell_new1 cell_old1 froz_new1 froz_old1)
attribute [local go_sem] Oper.semAt_some
set_option linter.unusedVariables false
set_option linter.unusedSimpArgs false
set_option maxRecDepth 100000
/-! play -/
/-- Pieces outside of a bench. -/
structure RR (w : World) (bp mb : Nat) (A : Option Addr) (c : Nat) (r : List Pm) : Prop where
  inr : InR w A c r
  row : 0 < r.length → ∀ ad, A = some ad → ad.block ≠ bp ∧ ad.block ≠ mb
  txt : ∀ p ∈ r, 0 < p.x.length → ∀ ad, p.A = some ad → ad.block ≠ bp ∧ ad.block ≠ mb
theorem RR.mv {w w' : World} {bp mb : Nat} {A : Option Addr} {c : Nat} {r : List Pm} (h : RR w bp mb A c r) (hm : Mv w w' bp mb) : RR w' bp mb A c r := by
  refine ⟨⟨fun i hi => ?_, fun p hp => ?_, h.inr.nil, h.inr.cap, h.inr.len⟩, h.row, h.txt⟩
  · obtain ⟨ad, e, hl, hc⟩ := h.inr.cells i hi
    obtain ⟨h1, h2⟩ := h.row (by omega) ad e
    refine ⟨ad, e, Nat.lt_of_lt_of_le hl hm.size, fun k hk => (World.cell?_of_block (w := w) (a := ad.add (i * 7 + k)) ?_).trans (hc k hk)⟩
    rw [add_block]
    exact hm.block _ hl h1 h2
  · have hi := h.inr.inp p hp
    refine ⟨fun i hx => ?_, hi.nil, hi.u, hi.s, hi.l, hi.q, hi.by_⟩
    obtain ⟨ad, e, hl, hc⟩ := hi.txt i hx
    obtain ⟨h1, h2⟩ := h.txt p hp (by omega) ad e
    refine ⟨ad, e, Nat.lt_of_lt_of_le hl hm.size, (World.cell?_of_block (w := w) (a := ad.add i) ?_).trans hc⟩
    rw [add_block]
    exact hm.block _ hl h1 h2
theorem InR.one {w : World} {b : Nat} {p : Pm} (h : Box w b p) (hp : Inp w p) : InR w (some ⟨b, 0, none⟩) 1 [p] := by
  refine ⟨fun i hi => ?_, fun q hq => ?_, (fun e => (by cases e)), Nat.le_refl _, (by simp)⟩
  · obtain rfl : i = 0 := by simpa using hi
    refine ⟨_, rfl, h.lt, fun k hk => ?_⟩
    rw [add0, Nat.zero_mul, Nat.zero_add]
    exact h.fn k hk
  · rw [List.mem_singleton.1 hq]; exact hp
/-- Bytes that may be written. -/
def Wr (w : World) (g n : Nat) : Prop := ∀ j, j < n → (∃ z, w.cell? ⟨g, j, none⟩ = some (.int .u8 z)) ∧ w.frozen? ⟨g, j, none⟩ = false
theorem Wr.set {w : World} {g n : Nat} (h : Wr w g n) (k : Nat) (z : Int) : Wr (w.setCell ⟨g, k, none⟩ (.int .u8 z)) g n := by
  intro j hj
  obtain ⟨⟨y, hy⟩, hf⟩ := h j hj
  refine ⟨?_, by simpa using hf⟩
  by_cases e : j = k
  · subst e
    exact ⟨z, World.cell?_setCell_same _ _ _ hy⟩
  · exact ⟨y, (World.cell?_setCell_other _ _ _ _ (by simp; try exact fun h => e h.symm)).trans hy⟩
theorem Wr.of {w : World} {B c g : Nat} {x : List Int} (h : w.ownsRow B 5 1 (.slice (some ⟨g, 0, none⟩) x.length c) x.length (x.map (.int .u8))) : Wr w g x.length := by
  intro j hj
  refine ⟨⟨x[j], ?_⟩, ?_⟩
  · have := h.cells (g := g) rfl j (.int .u8 x[j]) (by simp [hj])
    rw [add0] at this
    exact this
  · rcases h.2 with ⟨e, _⟩ | ⟨g', cap, cur, e, hb, hg, _⟩
    · cases e
    · simp only [Value.slice.injEq, Option.some.injEq, Addr.mk.injEq] at e
      obtain ⟨⟨rfl, _⟩, _⟩ := e
      exact (box_at hg j).2
theorem Wr.below {w w' : World} {g n : Nat} (h : Wr w g n) (hg : g < w.heap.size) (hb : Below w.heap.size w w') : Wr w' g n := fun j hj => by
  obtain ⟨⟨z, hz⟩, hf⟩ := h j hj
  exact ⟨⟨z, (hb.cell (p := ⟨g, j, none⟩) hg).trans hz⟩, (hb.frozen (p := ⟨g, j, none⟩) hg).trans hf⟩
theorem Wr.grown {w w' : World} {g n : Nat} {row : Option Nat} (h : Wr w g n) (hg : w.grownBy w' row) (hl : g < w.heap.size) (hne : some g ≠ row) : Wr w' g n := fun j hj => by
  obtain ⟨⟨z, hz⟩, hf⟩ := h j hj
  have hb := hg.block g hl hne
  exact ⟨⟨z, (World.cell?_of_block (a := ⟨g, j, none⟩) hb).trans hz⟩, (World.frozen?_of_block (a := ⟨g, j, none⟩) hb).trans hf⟩
theorem Mv.below2 {w w' w'' : World} {bp mb : Nat} (h : Mv w w' bp mb) (hb : Below w'.heap.size w' w'') : Mv w w'' bp mb := h.trans (Mv.of_below hb)
theorem own_slot {w : World} {B : Nat} {A : Option Addr} {c : Nat} {x : List Int} (h : w.ownsRow B 5 1 (.slice A x.length c) x.length (x.map (.int .u8))) : (A = none ∧ c = 0 ∧ x = []) ∨ ∃ g, A = some ⟨g, 0, none⟩ ∧ B ≤ g ∧ g < w.heap.size := by
  rcases h.2 with ⟨e, h0⟩ | ⟨g, cap, cur, e, hb, hg, _⟩
  · simp only [Value.slice.injEq] at e
    exact .inl ⟨e.1, e.2.2, List.eq_nil_of_length_eq_zero h0⟩
  · simp only [Value.slice.injEq] at e
    exact .inr ⟨g, e.1, hb, (Array.getElem?_eq_some_iff.1 hg).1⟩
theorem Mv.row {w w' w'' : World} {bp mb : Nat} {row : Option Nat} (h : Mv w w' bp mb) (hg : w'.grownBy w'' row) (hb : ∀ b, row = some b → w.heap.size ≤ b) : Mv w w'' bp mb :=
  ⟨hg.os.trans h.os, hg.tape.trans h.tape, hg.output.trans h.output, Nat.le_trans h.size hg.size, fun k h1 h2 h3 => (hg.block k (Nat.lt_of_lt_of_le h1 h.size) (fun e => by have := hb k e.symm; omega)).trans (h.block k h1 h2 h3)⟩
theorem Bn.row {w w' : World} {bp mb n : Nat} {m : List Pm} {row : Option Nat} (h : Bn w bp mb n m) (hg : w.grownBy w' row) (h1 : row ≠ some bp) (h2 : row ≠ some mb) (hok : ∀ q ∈ m, Ok w' q) : Bn w' bp mb n m := by
  have hb : w'.heap[bp]? = w.heap[bp]? := hg.block bp h.lt.1 (fun e => h1 e.symm)
  exact ⟨(World.cell?_of_block (a := ⟨bp, 0, none⟩) hb).trans h.ptr, (World.cell?_of_block (a := ⟨bp, 1, none⟩) hb).trans h.hel, (World.frozen?_of_block (a := ⟨bp, 1, none⟩) hb).trans h.fr, h.map.block (hg.block mb h.lt.2 (fun e => h2 e.symm)), h.nod, hok, h.far⟩
theorem Txt.row {w w' : World} {A : Option Addr} {x : List Int} {row : Option Nat} (h : Txt w A x) (hg : w.grownBy w' row) (hne : 0 < x.length → ∀ ad, A = some ad → some ad.block ≠ row) : Txt w' A x := fun i hi => by
  obtain ⟨ad, e, hl, hc⟩ := h i hi
  refine ⟨ad, e, Nat.lt_of_lt_of_le hl hg.size, (World.cell?_of_block (w := w) (a := ad.add i) ?_).trans hc⟩
  rw [add_block]
  exact hg.block _ hl (hne (by omega) ad e)
theorem InR.row {w w' : World} {A : Option Addr} {c : Nat} {r : List Pm} {row : Option Nat} (h : InR w A c r) (hg : w.grownBy w' row) (h1 : 0 < r.length → ∀ ad, A = some ad → some ad.block ≠ row) (h2 : ∀ p ∈ r, 0 < p.x.length → ∀ ad, p.A = some ad → some ad.block ≠ row) : InR w' A c r := by
  refine ⟨fun i hi => ?_, fun p hp => ?_, h.nil, h.cap, h.len⟩
  · obtain ⟨ad, e, hl, hc⟩ := h.cells i hi
    refine ⟨ad, e, Nat.lt_of_lt_of_le hl hg.size, fun k hk => (World.cell?_of_block (w := w) (a := ad.add (i * 7 + k)) ?_).trans (hc k hk)⟩
    rw [add_block]
    exact hg.block _ hl (h1 (by omega) ad e)
  · have hi := h.inp p hp
    exact ⟨hi.txt.row hg (h2 p hp), hi.nil, hi.u, hi.s, hi.l, hi.q, hi.by_⟩
/-- A text's block, where it holds something. -/
theorem Txt.lt {w : World} {A : Option Addr} {x : List Int} (h : Txt w A x) (hx : 0 < x.length) : ∀ ad, A = some ad → ad.block < w.heap.size := fun ad e => by
  obtain ⟨ad', e', hl, _⟩ := h 0 hx
  rw [e] at e'
  cases e'
  exact hl
set_option maxHeartbeats 8000000 in
theorem play_calls (w : World) (bp mb n0 : Nat) (m0 : List Pm) (A0 : Option Addr) (c0 : Nat) (r0 : List Pm) (A2 : Option Addr) (c2 : Nat) (list : List Pm)
    (hB : Bn w bp mb n0 m0) (hs : Sim m0 r0) (hr : RR w bp mb A0 c0 r0) (hl : RR w bp mb A2 c2 list) (hn : n0 + list.length ≤ 900) (hm : m0.length + list.length ≤ 900) (hh : held m0 ≤ 2000) (hx : ∀ p ∈ m0, 1 ≤ p.x.length ∧ p.x.length ≤ 64) (hlx : ∀ p ∈ list, p.x.length ≤ 4000) :
    Calls Try.prog 34 #[.pointer (some ⟨bp, 0, none⟩), .slice A0 r0.length c0, .slice A2 list.length c2] w fun e w' => Mv w w' bp mb ∧ ∃ m n A c r, e = .returned (.tuple #[.slice A r.length c, .bool true]) ∧ Bn w' bp mb n m ∧ n ≤ 900 ∧ m.length ≤ 900 ∧ Sim m r ∧ RR w' bp mb A c r ∧ held m ≤ 2000 ∧ ∀ p ∈ m, 1 ≤ p.x.length ∧ p.x.length ≤ 64 := by
  have hlt := hB.lt
  have HL := hid hl
  have HLX := hid hlx
  have HB0 := hid hB
  have HS0 := hid hs
  have HR0 := hid hr
  have HX0 := hid hx
  have HN0 := hid hn
  have HM0 := hid hm
  clear hl hlx hB hs hr hx
  go_enter Try.func34, Try.ntmps34
  go_wp2_with fail
  go_loopw [1, 22] (fun v1 v22 wr => ∃ (i n : Nat) (m : List Pm) (A : Option Addr) (c : Nat) (r : List Pm), i ≤ list.length ∧ v22 = .int .i64 i ∧ v1 = .slice A r.length c ∧ n ≤ n0 + i ∧ m.length ≤ m0.length + i ∧ Hid (Bn wr bp mb n m) ∧ Hid (Sim m r) ∧ Hid (RR wr bp mb A c r) ∧ Hid (held m ≤ 2000) ∧ Hid (∀ p ∈ m, 1 ≤ p.x.length ∧ p.x.length ≤ 64) ∧ Hid (Mv w wr bp mb)) (fun _ v22 _ => list.length - numV v22)
  case atStart => exact ⟨0, n0, m0, A0, c0, r0, Nat.zero_le _, rfl, rfl, Nat.le_refl _, Nat.le_refl _, HB0, HS0, HR0, hid hh, HX0, hid (Mv.of_below (Below.refl _ _))⟩
  case round =>
    obtain ⟨i, n, m, A, c, r, hil, rfl, rfl, hni, hmi, HB, HS, HR, HH, HX, HMW⟩ := hrel
    obtain ⟨W0, hW0⟩ : ∃ W0, W0 = wr := ⟨_, rfl⟩
    rw [← hW0] at HB HR HMW ⊢
    clear hW0
    clear wr
    have hz0 := HMW.out.size
    have hbpl := HB.out.lt
    by_cases hlt2 : i < list.length
    · obtain ⟨p, hp⟩ : ∃ p, list[i] = p := ⟨_, rfl⟩
      have HLW := hid (HL.out.mv HMW.out)
      have hpm : p ∈ list := by rw [← hp]; exact List.getElem_mem hlt2
      have hpi : Inp W0 p := HLW.out.inr.inp p hpm
      have hpx := HLX.out p hpm
      obtain ⟨ad, rfl, hbl, k0, k1, k2, k3, k4, k5, k6⟩ := HLW.out.inr.at i hlt2
      have hlen := HLW.out.inr.len
      rw [hp] at k0 k1 k2 k3 k4 k5 k6
      obtain ⟨W1, hW1⟩ : ∃ W1, W1 = W0.alloc (.cells #[.int .u32 p.t, .int .u16 p.s, .int .u16 p.q, .bool p.b, .bool p.e, .bool p.u, .slice p.A p.x.length p.c] 40) := ⟨_, rfl⟩
      have hb1 : Below W0.heap.size W0 W1 := by rw [hW1]; exact below_alloc (Below.refl _ _) _
      have hz1 : W1.heap.size = W0.heap.size + 1 := by rw [hW1]; simp
      have hbx1 : Box W1 W0.heap.size p := by rw [hW1]; exact Box.new W0 p
      obtain ⟨W2, hW2⟩ : ∃ W2, W2 = W1.alloc (.cells #[.int .u32 p.t, .int .u16 p.s, .int .u16 p.q, .bool p.b, .bool p.e, .bool p.u, .slice p.A p.x.length p.c] 40) := ⟨_, rfl⟩
      have hb2 : Below W1.heap.size W1 W2 := by rw [hW2]; exact below_alloc (Below.refl _ _) _
      have hz2 : W2.heap.size = W0.heap.size + 2 := by rw [hW2]; simp [hz1]
      have hbx2 : Box W2 (W0.heap.size + 1) p := by rw [hW2]; exact Box.new' W1 p _ hz1.symm
      have hb02 : Below W0.heap.size W0 W2 := below_step hb1 hb2
      have howc := own_calls W2 (some ⟨W0.heap.size + 1, 0, none⟩) 1 [p] (InR.one hbx2 (hpi.below hb02)) (by simp) (fun q hq => by rw [List.mem_singleton.1 hq]; omega)
      have HP := hid hp
      have HPM := hid hpm
      have HPI := hid hpi
      have HW1 := hid hW1
      have HW2 := hid hW2
      have HB02 := hid hb02
      have HBX1 := hid hbx1
      have HOWC := hid howc
      have HBX12 := hid (hbx1.below hb2)
      clear hp hpm hpi hW1 hW2 hb02 howc hbx2 hb1 hb2 hbx1
      go_upto_region 4 with fail
      rw [← HW1.out]
      obtain ⟨x0, x1, x2, x3, x4, x5, x6, xf⟩ := HBX1.out
      go_upto_region 5 with (go_at_call 38; rw [← HW2.out]; go_must (refine HOWC.out.mono ?_; rintro e W3 ⟨A3, c3, L, rfl, hL1, hR3, hO3, hb3⟩; obtain ⟨q, rfl⟩ : ∃ q, L = [q] := List.length_eq_one_iff.1 hL1; obtain ⟨g3, rfl, hg3, hg3', y0, y1, y2, y3, y4, y5, y6⟩ := Row.cells hR3 0 Nat.zero_lt_one; simp only [List.getElem_cons_zero] at y0 y1 y2 y3 y4 y5 y6; have hcop := hO3.at_ 0 Nat.zero_lt_one Nat.zero_lt_one; simp only [List.getElem_cons_zero] at hcop; have HCOP := hid hcop; have HB3 := hid hb3; clear hcop hL1 hR3 hO3 hb3))
      have hcq : core q = core p := by rw [HCOP.out.eq]; rfl
      have hqx : q.x.length ≤ 4000 := by rw [HCOP.out.eq]; exact hpx
      have hqs : 0 ≤ q.s ∧ q.s ≤ 65535 := by rw [HCOP.out.eq]; exact HPI.out.s
      have hqu : U32 q.t := by rw [HCOP.out.eq]; exact HPI.out.u
      have hqt : q.t = p.t := by rw [HCOP.out.eq]
      have hqn : q.A = none → q.c = 0 := fun e => by
        have := HCOP.out.own
        rw [e] at this
        exact nil_row this
      have hz3 := HB3.out.size
      have hb03 : Below W0.heap.size W0 W3 := below_step HB02.out HB3.out
      obtain ⟨W4, hW4⟩ : ∃ W4, W4 = W3.alloc (.cells #[.int .u32 q.t, .int .u16 q.s, .int .u16 q.q, .bool q.b, .bool q.e, .bool q.u, .slice q.A q.x.length q.c] 40) := ⟨_, rfl⟩
      have hb34 : Below W3.heap.size W3 W4 := by rw [hW4]; exact below_alloc (Below.refl _ _) _
      have hz4 : W4.heap.size = W3.heap.size + 1 := by rw [hW4]; simp
      have hbx4 : Box W4 W3.heap.size q := by rw [hW4]; exact Box.new W3 q
      have hb04 : Below W0.heap.size W0 W4 := below_step hb03 hb34
      have hown4 := Base.ownsRow_later HCOP.out.own hb34
      have hokq : Ok W4 q := ⟨txt_row hown4, hqn, hqu, by omega⟩
      have hms : ∀ a ∈ m, 0 ≤ a.s ∧ a.s ≤ 65535 := fun a ha => by
        obtain ⟨b, hb, e⟩ := HS.out.mem ha
        exact (Good1.of_core e (HR.out.inr.inp b hb).good).s
      have hAq : 0 < q.x.length → ∀ ad, q.A = some ad → ad.block ≠ bp := fun _ ad e => by
        have := hown4
        rw [e] at this
        have := (own_addr this).1
        omega
      have hput := put_calls W4 bp mb n m q (HB.out.below hb04) (by omega) (by omega) hokq hAq (by have := HH.out; omega) hqs hms
      have hbx14 : Box W4 W0.heap.size p := (HBX12.out.below HB3.out).below hb34
      have HPUT := hid hput
      have HB04 := hid hb04
      have HB34 := hid hb34
      have HBX4 := hid hbx4
      have HBX14 := hid hbx14
      have HOWN4 := hid hown4
      have HOKQ := hid hokq
      have HCQ := hid hcq
      have HQT := hid hqt
      have HQN := hid hqn
      have HW4 := hid hW4
      have HQU := hid hqu
      clear hput hb03 hb04 hb34 hbx4 hbx14 hown4 hokq hcq hqt hqn hms hAq hW4 y0 y1 y2 y3 y4 y5 y6 x0 x1 x2 x3 x4 x5 x6 xf k0 k1 k2 k3 k4 k5 k6 hqu
      rw [← HW4.out]
      obtain ⟨x0, x1, x2, x3, x4, x5, x6, xf⟩ := HBX4.out
      have HVQ : Hid (q.val = .agg #[.int .u32 q.t, .int .u16 q.s, .int .u16 q.q, .bool q.b, .bool q.e, .bool q.u, .slice q.A q.x.length q.c]) := hid rfl
      obtain ⟨o, ho⟩ : ∃ o, o = outP r p := ⟨_, rfl⟩
      have HO := hid ho
      clear ho
      go_upto_region 6 with (go_at_call 14; rw [← HVQ.out]; go_must (refine HPUT.out.mono ?_; rintro e W5 ⟨hm5, hpp⟩; obtain ⟨m', n', A5, c5, he, hB5, hn5, hs5, ht5, hnil5, hfr5, hmm5⟩ := put_out hpp (HB.out.below HB04.out) HS.out HCQ.out HQU.out (by omega); rw [← HO.out] at he hs5 ht5; subst he; have HM5 := hid hm5; have HB5 := hid hB5; have HS5 := hid hs5; have HT5 := hid ht5; have HNIL5 := hid hnil5; have HFR5 := hid hfr5; have HMM5 := hid hmm5; clear hm5 hpp hB5 hs5 ht5 hnil5 hfr5 hmm5))
      have hz5 := HM5.out.size
      have hbp4 : bp ≠ W0.heap.size ∧ mb ≠ W0.heap.size ∧ bp ≠ W3.heap.size ∧ mb ≠ W3.heap.size := by omega
      obtain ⟨W6, hW6⟩ : ∃ W6, W6 = W5.alloc (.cells #[.int .i64 o.s, .bool o.u, .slice A5 o.x.length c5, .int .u16 o.q] 45) := ⟨_, rfl⟩
      have hb56 : Below W5.heap.size W5 W6 := by rw [hW6]; exact below_alloc (Below.refl _ _) _
      have hz6 : W6.heap.size = W5.heap.size + 1 := by rw [hW6]; simp
      have hdb6 : DB W6 W5.heap.size o.s o.u A5 o.x.length c5 o.q := by rw [hW6]; exact DB.new W5 _ _ _ _ _ _
      have hm05 : Mv W0 W5 bp mb := (Mv.of_below HB04.out).trans HM5.out
      have hm06 : Mv W0 W6 bp mb := hm05.below2 hb56
      have hbx56 : Box W6 W0.heap.size p ∧ Box W6 W3.heap.size q := ⟨(HBX14.out.block (HM5.out.block _ (by omega) (by omega) (by omega))).below hb56, (HBX4.out.block (HM5.out.block _ (by omega) (by omega) (by omega))).below hb56⟩
      have hr6 := HR.out.mv hm06
      have hl6 := HLW.out.mv hm06
      have hp6 : Inp W6 p := hl6.inr.inp p HPM.out
      have hlr := HS.out.len
      have hxr : ∀ a ∈ r, 1 ≤ a.x.length ∧ a.x.length ≤ 64 := fun a ha => by
        obtain ⟨b, hb, e⟩ := HS.out.symm.mem ha
        obtain ⟨_, _, _, _, _, _, e7⟩ := core_eq e
        have := HX.out b hb
        rw [e7] at this
        exact this
      have hrput := rput_calls W6 (A := A) c r p hr6.inr hp6 (by omega) (by rw [← HS.out.held]; exact HH.out) (fun a ha => by have := (hxr a ha).2; omega)
      have HRPUT := hid hrput
      have HB56 := hid hb56
      have HDB6 := hid hdb6
      have HM06 := hid hm06
      have HBX56 := hid hbx56
      have HR6 := hid hr6
      have HP6 := hid hp6
      have HXR := hid hxr
      have HW6 := hid hW6
      clear hrput hb56 hdb6 hm05 hm06 hbx56 hr6 hl6 hp6 hxr hW6 x0 x1 x2 x3 x4 x5 x6 xf
      rw [← HW6.out]
      obtain ⟨x0, x1, x2, x3, x4, x5, x6, xf⟩ := HBX56.out.1
      have HVP : Hid (p.val = .agg #[.int .u32 p.t, .int .u16 p.s, .int .u16 p.q, .bool p.b, .bool p.e, .bool p.u, .slice p.A p.x.length p.c]) := hid rfl
      go_upto_region 8 with (go_at_call 75; rw [← HVP.out]; go_must (refine HRPUT.out.mono ?_; rintro e W7 ⟨hb7, hpp⟩; obtain ⟨A7, c7, Ar, cr, he, hi7, hA7, ht7, hnil7, hfr7⟩ := rput_out hpp HR6.out.inr HP6.out hb7 (by omega); rw [← HO.out] at he hi7 ht7; subst he; have HB7 := hid hb7; have HI7 := hid hi7; have HA7 := hid hA7; have HT7 := hid ht7; have HNIL7 := hid hnil7; have HFR7 := hid hfr7; clear hb7 hpp hi7 hA7 ht7 hnil7 hfr7))
      have hz7 := HB7.out.size
      obtain ⟨W8, hW8⟩ : ∃ W8, W8 = W7.alloc (.cells #[.int .i64 o.s, .bool o.u, .slice Ar o.x.length cr] 34) := ⟨_, rfl⟩
      have hb78 : Below W7.heap.size W7 W8 := by rw [hW8]; exact below_alloc (Below.refl _ _) _
      have hz8 : W8.heap.size = W7.heap.size + 1 := by rw [hW8]; simp
      have hmb8 : MB W8 W7.heap.size o.s o.u Ar o.x.length cr := by rw [hW8]; exact MB.new W7 _ _ _ _ _
      have hb68 : Below W6.heap.size W6 W8 := below_step HB7.out hb78
      have hb58 : Below W5.heap.size W5 W8 := below_step HB56.out hb68
      have hm08 : Mv W0 W8 bp mb := HM06.out.below2 hb68
      have hbn8 := HB5.out.below hb58
      have hown8 : W8.ownsRow W2.heap.size 5 1 (.slice q.A q.x.length q.c) q.x.length (q.x.map (.int .u8)) := by
        have h5 : W5.ownsRow W2.heap.size 5 1 (.slice q.A q.x.length q.c) q.x.length (q.x.map (.int .u8)) := by
          obtain ⟨h0, h1⟩ := HOWN4.out
          refine ⟨h0, h1.imp id ?_⟩
          rintro ⟨g, cap', cur, e, k1, k2, k3⟩
          have hgl := (Array.getElem?_eq_some_iff.1 k2).1
          exact ⟨g, cap', cur, e, k1, (HM5.out.block g hgl (by omega) (by omega)).trans k2, k3⟩
        exact Base.ownsRow_later h5 hb58
      have HB78 := hid hb78
      have HMB8 := hid hmb8
      have HB68 := hid hb68
      have HB58 := hid hb58
      have HM08 := hid hm08
      have HBN8 := hid hbn8
      have HOWN8 := hid hown8
      have HW8 := hid hW8
      clear hb78 hmb8 hb68 hb58 hm08 hbn8 hown8 hW8 x0 x1 x2 x3 x4 x5 x6 xf
      rw [← HW8.out]
      have HBQ8 : Hid (Box W8 W3.heap.size q) := hid (HBX56.out.2.below HB68.out)
      obtain ⟨x0, x1, x2, x3, x4, x5, x6, xf⟩ := HBQ8.out
      go_upto_block 2 with fail
      have hslot := own_slot HCOP.out.own
      have HSLOT := hid hslot
      clear hslot x0 x1 x2 x3 x4 x5 x6 xf
      go_cut [51] (fun v51 wx => Hid (W8 = wx ∨ ∃ g, q.A = some ⟨g, 0, none⟩ ∧ W2.heap.size ≤ g ∧ g < W3.heap.size ∧ W8.grownBy wx (some g)))
      case first =>
        go_wp2_with fail
        go_loopw [51] (fun v51 wr => ∃ k : Nat, v51 = .int .i64 k ∧ k ≤ q.x.length ∧ Hid ((q.x.length = 0 ∧ W8 = wr) ∨ ∃ g, q.A = some ⟨g, 0, none⟩ ∧ W2.heap.size ≤ g ∧ g < W3.heap.size ∧ W8.grownBy wr (some g) ∧ Wr wr g q.x.length)) (fun v51 _ => q.x.length - numV v51)
        case atStart =>
          refine ⟨0, rfl, Nat.zero_le _, hid ?_⟩
          rcases HSLOT.out with ⟨_, _, h0⟩ | ⟨g, hg, h1, h2⟩
          · exact .inl ⟨by rw [h0]; rfl, rfl⟩
          · refine .inr ⟨g, hg, h1, h2, World.grownBy.refl _ _, ?_⟩
            have := HOWN8.out
            rw [hg] at this
            exact Wr.of this
        case round =>
          obtain ⟨k, rfl, hkl, HK⟩ := hrel
          by_cases hlt5 : k < q.x.length
          · obtain ⟨g, hg, hg1, hg2, hgr, hwr⟩ := HK.out.resolve_left (fun h => by omega)
            obtain ⟨x0, x1, x2, x3, x4, x5, x6, xf⟩ := HBQ8.out.block (hgr.block W3.heap.size (by omega) (fun e => by have := Option.some.inj e; omega))
            rw [hg] at x6
            obtain ⟨⟨z, hz⟩, hf⟩ := hwr k hlt5
            have HG := hid hg
            have HGR := hid hgr
            have HWR := hid hwr
            have hql : q.x.length ≤ 4000 := hqx
            clear hg hgr hwr HK
            go_wp2
            go_roundw
            case rel => exact ⟨k + 1, by simp, by omega, hid (.inr ⟨g, HG.out, hg1, hg2, HGR.out.trans (grown_setAt _ _ _ _), HWR.out.set k _⟩)⟩
            case measure => simp [numV]; omega
          · obtain rfl : k = q.x.length := by omega
            go_wp2
            go_meet
            case rel => exact hid (HK.out.imp (fun h => h.2) (fun ⟨g, h1, h2, h3, h4, _⟩ => ⟨g, h1, h2, h3, h4⟩))
      case rest =>
        obtain ⟨W9, hW9⟩ : ∃ W9, W9 = wc := ⟨_, rfl⟩
        rw [← hW9] at hcut ⊢
        clear hW9
        clear wc
        obtain ⟨row, hgr, hrow⟩ : ∃ row : Option Nat, W8.grownBy W9 row ∧ ∀ g, row = some g → W2.heap.size ≤ g ∧ g < W3.heap.size := by
          rcases hcut.out with rfl | ⟨g, _, h1, h2, h3⟩
          · exact ⟨none, World.grownBy.refl _ _, fun g e => by cases e⟩
          · exact ⟨some g, h3, fun k e => by cases e; exact ⟨h1, h2⟩⟩
        have hne : ∀ k, k < W2.heap.size ∨ W3.heap.size ≤ k → some k ≠ row := fun k hk e => by have := hrow k e.symm; omega
        have hz9 := hgr.size
        have hm09 : Mv W0 W9 bp mb := HM08.out.row hgr (fun b e => by have := hrow b e; omega)
        have hok9 : ∀ a ∈ m', Ok W9 a := fun a ha => by
          have h8 := HBN8.out.ok a ha
          refine ⟨h8.txt.row hgr (fun h0 ad e => ?_), h8.nil, h8.u, h8.l⟩
          rcases HMM5.out a ha with h | h
          · have := ((HB.out.ok a h).txt).lt h0 ad e
            exact hne _ (.inl (by omega))
          · have := h ad e
            exact hne _ (.inr (by omega))
        have hbn9 := HBN8.out.row hgr (fun e => hne bp (.inl (by omega)) e.symm) (fun e => hne mb (.inl (by omega)) e.symm) hok9
        have hor : ∀ a ∈ o.r, (a ∈ r ∨ a = p) := by rw [HO.out]; exact outP_mem
        have htx0 : ∀ a ∈ o.r, 0 < a.x.length → ∀ ad, a.A = some ad → ad.block < W0.heap.size ∧ ad.block ≠ bp ∧ ad.block ≠ mb := fun a ha h0 ad e => by
          rcases hor a ha with h | h
          · exact ⟨((HR.out.inr.inp a h).txt).lt h0 ad e, HR.out.txt a h h0 ad e⟩
          · subst h
            exact ⟨(HPI.out.txt).lt h0 ad e, HLW.out.txt _ HPM.out h0 ad e⟩
        have hrr9 : RR W9 bp mb A7 c7 o.r := by
          refine ⟨(HI7.out.below HB78.out).row hgr (fun h0 ad e => ?_) (fun a ha h0 ad e => hne _ (.inl (by have := (htx0 a ha h0 ad e).1; omega))), fun h0 ad e => ?_, fun a ha h0 ad e => (htx0 a ha h0 ad e).2⟩
          · rcases HA7.out with ⟨h1, h2⟩ | h
            · rw [← HO.out] at h2
              rw [h2] at h0
              rw [h1] at e
              obtain ⟨ad', e', hl, _⟩ := HR.out.inr.cells 0 h0
              rw [e] at e'
              cases e'
              exact hne _ (.inl (by omega))
            · have := h ad e
              exact hne _ (.inr (by omega))
          · rcases HA7.out with ⟨h1, h2⟩ | h
            · rw [← HO.out] at h2
              rw [h2] at h0
              rw [h1] at e
              exact HR.out.row h0 ad e
            · have := h ad e
              omega
        have hdb9 : DB W9 W5.heap.size o.s o.u A5 o.x.length c5 o.q := by
          have : DB W8 W5.heap.size o.s o.u A5 o.x.length c5 o.q := HDB6.out.block (HB68.out.block _ (by omega))
          exact this.block (hgr.block _ (by omega) (hne _ (.inr (by omega))))
        have hmb9 : MB W9 W7.heap.size o.s o.u Ar o.x.length cr := HMB8.out.block (hgr.block _ (by omega) (hne _ (.inr (by omega))))
        have hbx9 : Box W9 W0.heap.size p := (HBX56.out.1.below HB68.out).block (hgr.block _ (by omega) (hne _ (.inl (by omega))))
        have ht5 : Txt W9 A5 o.x := (HT5.out.below HB58.out).row hgr (fun h0 ad e => hne _ (.inr (by have := HFR5.out ad e; omega)))
        have ht7 : Txt W9 Ar o.x := (HT7.out.below HB78.out).row hgr (fun h0 ad e => hne _ (.inr (by have := HFR7.out ad e; omega)))
        have hby : By o.x := by
          rw [HO.out]
          exact outP_by (fun a ha => (HR.out.inr.inp a ha).by_) HPI.out.by_
        have hsame : (look m' p.t).isSome = (look o.r p.t).isSome := by rw [look_isSome, look_isSome, HS5.out.keys]
        obtain ⟨hv, hhv⟩ : ∃ hv, (look o.r p.t).isSome = hv := ⟨_, rfl⟩
        rw [hhv] at hsame
        have H37 : Hid (∀ X, Below W9.heap.size W9 X → Calls Try.prog 37 #[.pointer (some ⟨bp, 0, none⟩), .int .u32 p.t] X fun e w' => e = .returned (.bool hv) ∧ Below X.heap.size X w') := hid fun X hX => by
          have := has_calls X bp mb n' m' p.t (hbn9.below hX) HPI.out.u
          rw [hsame] at this
          exact this
        have H76 : Hid (∀ X, Below W9.heap.size W9 X → Calls Try.prog 76 #[.slice A7 o.r.length c7, .int .u32 p.t] X fun e w' => e = .returned (.bool hv) ∧ Below X.heap.size X w') := hid fun X hX => by
          have := rhas_calls X A7 c7 o.r p.t (hrr9.inr.below hX)
          rw [hhv] at this
          exact this
        have H15 : Hid (∀ X b1 b2, Below W9.heap.size W9 X → MB X b1 o.s o.u A5 o.x.length c5 → MB X b2 o.s o.u Ar o.x.length cr → Calls Try.prog 15 #[.slice (some ⟨b1, 0, none⟩) 1 1, .slice (some ⟨b2, 0, none⟩) 1 1] X fun e w' => e = .returned (.bool true) ∧ ∃ n, w' = X.drewN n) := hid fun X b1 b2 hX h1 h2 =>
          msg1_calls X b1 b2 o.s o.u o.x A5 Ar c5 cr h1 h2 (ht5.below hX) (ht7.below hX) HNIL5.out HNIL7.out hby
        have HS9 : Hid (∀ X, Below W9.heap.size W9 X → Below W9.heap.size W9 X ∧ X.cell? ⟨W5.heap.size, 0, none⟩ = some (.int .i64 o.s) ∧ X.cell? ⟨W5.heap.size, 1, none⟩ = some (.bool o.u) ∧ X.cell? ⟨W5.heap.size, 2, none⟩ = some (.slice A5 o.x.length c5) ∧ X.cell? ⟨W5.heap.size, 3, none⟩ = some (.int .u16 o.q) ∧ X.cell? ⟨W7.heap.size, 0, none⟩ = some (.int .i64 o.s) ∧ X.cell? ⟨W7.heap.size, 1, none⟩ = some (.bool o.u) ∧ X.cell? ⟨W7.heap.size, 2, none⟩ = some (.slice Ar o.x.length cr) ∧ X.cell? ⟨W0.heap.size, 0, none⟩ = some (.int .u32 p.t)) := hid fun X hX => by
          obtain ⟨a0, a1, a2, a3, _⟩ := hdb9.block (hX.block _ hdb9.lt)
          obtain ⟨b0, b1, b2, _⟩ := hmb9.below hX
          exact ⟨hX, a0, a1, a2, a3, b0, b1, b2, (hbx9.below hX).c0⟩
        have HBN9 := hid hbn9
        have HRR9 := hid hrr9
        have HM09 := hid hm09
        have HSIM : Hid (Sim m' o.r) := HS5
        have hol : o.r.length ≤ r.length + 1 := by rw [HO.out]; exact outP_len
        have hoh : held o.r ≤ 2000 := by rw [HO.out]; exact outP_held (by rw [← HS.out.held]; exact HH.out)
        have hox : ∀ a ∈ o.r, 1 ≤ a.x.length ∧ a.x.length ≤ 64 := by rw [HO.out]; exact outP_x HXR.out
        have HOL : Hid (m'.length ≤ m.length + 1) := hid (by rw [HSIM.out.len]; have := HS.out.len; omega)
        have HOH : Hid (held m' ≤ 2000) := hid (by rw [HSIM.out.held]; exact hoh)
        have HOX : Hid (∀ a ∈ m', 1 ≤ a.x.length ∧ a.x.length ≤ 64) := hid (fun a ha => by
          obtain ⟨b, hb, e⟩ := HSIM.out.mem ha
          obtain ⟨_, _, _, _, _, _, e7⟩ := core_eq e
          have := hox b hb
          rw [e7] at this
          exact this)
        clear hgr hne hm09 hok9 hbn9 hor htx0 hrr9 hdb9 hmb9 hbx9 ht5 ht7 hby hsame hhv hol hoh hox hcut
        clear hrow
        go_upto_region 13 with fail
        go_cut [96] (fun v96 wx => v96 = .bool false ∧ Hid (Below W9.heap.size W9 wx))
        case first =>
          obtain ⟨_, s0, s1, s2, s3, s4, s5, s6, s7⟩ := HS9.out W9 (Below.refl _ _)
          go_region_held3 (fun X => Below W9.heap.size W9 X ∧ X.cell? ⟨W5.heap.size, 0, none⟩ = some (.int .i64 o.s) ∧ X.cell? ⟨W5.heap.size, 1, none⟩ = some (.bool o.u) ∧ X.cell? ⟨W5.heap.size, 2, none⟩ = some (.slice A5 o.x.length c5) ∧ X.cell? ⟨W5.heap.size, 3, none⟩ = some (.int .u16 o.q) ∧ X.cell? ⟨W7.heap.size, 0, none⟩ = some (.int .i64 o.s) ∧ X.cell? ⟨W7.heap.size, 1, none⟩ = some (.bool o.u) ∧ X.cell? ⟨W7.heap.size, 2, none⟩ = some (.slice Ar o.x.length cr) ∧ X.cell? ⟨W0.heap.size, 0, none⟩ = some (.int .u32 p.t)) ((refine HS9.out _ ?_; repeat (first | assumption | exact Below.refl _ _ | refine Below.drew ?_ | refine below_alloc ?_ _))) (first
            | (go_at_call 65; refine (num_calls o.er _).mono ?_; rintro e w' ⟨rfl, rfl⟩)
            | (go_at_call 15; refine (H15.out _ _ _ (by repeat (first | assumption | exact Below.refl _ _ | refine Below.drew ?_ | refine below_alloc ?_ _)) (by first | exact ((MB.new' W9 _ _ _ _ _ _ rfl).below (below_alloc (Below.refl _ _) _)).below (Below.drew (Below.refl _ _)) | exact (MB.new' (W9.alloc _) _ _ _ _ _ _ (by simp)).below (Below.drew (Below.refl _ _)) | exact (MB.new' W9 _ _ _ _ _ _ rfl).below (below_alloc (Below.refl _ _) _) | exact MB.new' (W9.alloc _) _ _ _ _ _ _ (by simp)) (by first | exact ((MB.new' W9 _ _ _ _ _ _ rfl).below (below_alloc (Below.refl _ _) _)).below (Below.drew (Below.refl _ _)) | exact (MB.new' (W9.alloc _) _ _ _ _ _ _ (by simp)).below (Below.drew (Below.refl _ _)) | exact (MB.new' W9 _ _ _ _ _ _ rfl).below (below_alloc (Below.refl _ _) _) | exact MB.new' (W9.alloc _) _ _ _ _ _ _ (by simp))).mono ?_; rintro e w9 ⟨rfl, hw9⟩; have hb15 : Below W9.heap.size W9 w9 := (by obtain ⟨nq9, hw9⟩ := hw9; rw [hw9]; refine Below.drewN' ?_ _; repeat (first | assumption | exact Below.refl _ _ | refine Below.drew ?_ | refine below_alloc ?_ _)); clear hw9)
            | (go_at_call 37; refine (H37.out _ (by repeat (first | assumption | exact Below.refl _ _ | refine Below.drew ?_ | refine below_alloc ?_ _))).mono ?_; rintro e w9 ⟨rfl, hb9⟩; have hbn := below_step (a := W9) (by repeat (first | assumption | exact Below.refl _ _ | refine Below.drew ?_ | refine below_alloc ?_ _)) hb9)
            | (go_at_call 76; refine (H76.out _ (by repeat (first | assumption | exact Below.refl _ _ | refine Below.drew ?_ | refine below_alloc ?_ _))).mono ?_; rintro e w8 ⟨rfl, hb8⟩; have hbn := below_step (a := W9) (by repeat (first | assumption | exact Below.refl _ _ | refine Below.drew ?_ | refine below_alloc ?_ _)) hb8))
          all_goals
            have HBNN := hid hbn
            go_wp2
            go_meet
            case rel => exact ⟨by first | rfl | simp, HBNN⟩
        case rest =>
          obtain ⟨rfl, HWC⟩ := hcut
          go_wp2
          go_roundw
          case rel => exact ⟨i + 1, n', m', A7, c7, o.r, by omega, by simp, rfl, by omega, by have := HOL.out; omega, hid (HBN9.out.below HWC.out), HSIM, hid (HRR9.out.mv (Mv.of_below HWC.out)), HOH, HOX, hid (((HMW.out.trans HM09.out)).below2 HWC.out)⟩
          case measure => simp [numV]; omega
    · obtain rfl : i = list.length := by omega
      have hs9 : n ≤ 900 ∧ m.length ≤ 900 := by have := HN0.out; have := HM0.out; omega
      go_wp2
      go_ret2
      exact ⟨HMW.out, m, n, A, c, r, rfl, HB.out, hs9.1, hs9.2, HS.out, HR.out, HH.out, HX.out⟩
end Go.Proofs.Ythoammfpjheodaa.Rz
