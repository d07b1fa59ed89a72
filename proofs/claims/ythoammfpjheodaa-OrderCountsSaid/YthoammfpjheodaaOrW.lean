import Derived.Test.YthoammfpjheodaaOrV
namespace Go.Proofs.Ythoammfpjheodaa.Or
open Go.ChangeShapes Go.WideShapes Go.ChangeAt Go.RowKit Go.Shelf MK
open Base (hid cell_new1 cell_old1 froz_new1 froz_old1)
open Rz (below_alloc lt_of_cell add_block Txt box_at box_new box_old setCells_grown grown_setAt own_low own_base txt_row nil_row clone_calls)
attribute [local go_sem] Oper.semAt_some
set_option linter.unusedVariables false
set_option linter.unusedSimpArgs false
set_option maxRecDepth 100000
/-! alive -/
theorem add0 (g i : Nat) : (⟨g, 0, none⟩ : Addr).add i = ⟨g, i, none⟩ := by
  rw [add_at, Nat.zero_add]
def By (x : List Int) : Prop := ∀ b ∈ x, 0 ≤ b ∧ b < 256
def u8s (x : List Int) : List UInt8 := x.map fun b => UInt8.ofNat b.toNat
def strOf (x : List Int) : ByteArray := ⟨(u8s x).toArray⟩
theorem conv_txt {w : World} {A : Option Addr} {x : List Int} {c : Nat} (h : Txt w A x) (hb : By x) (hA : A = none → c = 0) :
    (convert 32 9 (.slice A x.length c)).run Try.prog w = .ok (.string (strOf x)) w := by
  cases A with
  | none =>
    have hl : x = [] := by
      cases x with
      | nil => rfl
      | cons y l =>
        obtain ⟨ad, e, _⟩ := h 0 (by simp)
        cases e
    subst hl
    obtain rfl := hA rfl
    exact Lib.run_convert_nil_bytes w 32 9 5 0 Try.underlying32 Try.underlying5 Try.underlying9
  | some ad =>
    have := run_convert_bytes_back w 32 9 5 ad c (u8s x) Try.underlying32 Try.underlying5 Try.underlying9 (fun j hj => by
      have hj' : j < x.length := by simpa [u8s] using hj
      obtain ⟨ad', e', _, hc⟩ := h j hj'
      cases e'
      rw [hc]
      have hbj := hb x[j] (List.getElem_mem hj')
      simp [u8s]
      omega)
    rw [show (u8s x).length = x.length from by simp [u8s]] at this
    exact this
theorem convert_lit (w : World) (cs : Array Value) (l c : Nat) : (convert 32 32 (.slice (some ⟨w.heap.size, 0, none⟩) l c)).run Try.prog (w.alloc (.cells cs 5)) = .ok (.slice (some ⟨w.heap.size, 0, none⟩) l c) (w.alloc (.cells cs 5 (cs.size, cs.size + 1))) := by
  have hh := World.alloc_heap_new w (.cells cs 5)
  have hsh : (w.alloc (.cells cs 5)).shape? w.heap.size = some (5, cs.size) := by
    unfold World.shape?
    rw [hh]
  have hfr : (w.alloc (.cells cs 5)).freeze ⟨w.heap.size, cs.size, none⟩ 1 = w.alloc (.cells cs 5 (cs.size, cs.size + 1)) := by
    have hm : ∀ (a : Array Obj) (x : Obj) (f : Obj → Obj), (a.push x).modify a.size f = a.push (f x) := by
      intro a x f
      apply Array.ext
      · simp
      · intro i h1 h2
        simp only [Array.getElem_modify, Array.getElem_push]
        by_cases h : a.size = i
        · subst h
          simp
        · have hi : i < a.size := by simp at h1; omega
          simp [h, hi]
    unfold World.freeze
    rw [if_neg (by decide)]
    unfold World.alloc
    dsimp only
    rw [hm]
    simp
  simp [convert, run_underlying Try.underlying32, run_underlying Try.underlying5, markStringish, hsh, freeze, Sem.run, hfr]
theorem cell_new_fr (w : World) (cs : Array Value) (t : TypeId) (fr : Nat × Nat) (j : Nat) : (w.alloc (.cells cs t fr)).cell? ⟨w.heap.size, j, none⟩ = cs[j]? := by
  unfold World.cell?
  rw [World.alloc_heap_new]
  simp
theorem txt_new (w : World) (cs : List Int) (fr : Nat × Nat) {b : Nat} (hb : b = w.heap.size) : Txt (w.alloc (.cells (cs.map (Value.int .u8)).toArray 5 fr)) (some ⟨b, 0, none⟩) cs := by
  subst hb
  intro i hi
  refine ⟨_, rfl, by simp, ?_⟩
  rw [add0, cell_new_fr]
  simp [hi]
theorem below_mv {w X W : World} {bp mb : Nat} {r : Option Nat} (h : Below w.heap.size w X) (hm : Mv X W bp mb r) (h1 : w.heap.size ≤ bp) (h2 : w.heap.size ≤ mb) (h3 : ∀ k, r = some k → w.heap.size ≤ k) : Below w.heap.size w W :=
  ⟨hm.os.trans h.os, hm.tape.trans h.tape, hm.output.trans h.output, Nat.le_trans h.size hm.size, fun k hk => (hm.block k (Nat.lt_of_lt_of_le hk h.size) (by omega) (by omega) (fun e => by have := h3 k e.symm; omega)).trans (h.block k hk)⟩
def dA : Ds := ⟨[0, 0, 0, 0, 0, 0, 0, 0], [(1, ⟨3, false, [98]⟩)], []⟩
def dB : Ds := ⟨[0, 0, 0, 2, 0, 0, 0, 0], [], [⟨3, false, [97]⟩, ⟨3, false, [98]⟩]⟩
theorem alive1 : putD d0 ⟨3, false, [98]⟩ 1 = (dA, 0) ∧ mayD d0 ⟨3, false, [98]⟩ 1 = 0 := ⟨rfl, rfl⟩
theorem alive2 : putD dA ⟨3, false, [97]⟩ 0 = (dB, 2) ∧ mayD dA ⟨3, false, [97]⟩ 0 = 0 := ⟨rfl, rfl⟩
theorem invA : Inv dA := by
  have := Inv.put Inv.zero (m := ⟨3, false, [98]⟩) (q := 1) (by omega)
  rw [alive1.1] at this
  exact this
theorem invB : Inv dB := by
  have := Inv.put invA (m := ⟨3, false, [97]⟩) (q := 0) (by omega)
  rw [alive2.1] at this
  exact this
theorem put1 (w : World) (bp mb : Nat) (h : Dk w bp mb 0 d0 (fun _ => none) [] none 0) (B : Addr) (ht : Txt w (some B) [98]) : Calls Try.prog 22 #[.pointer (some ⟨bp, 0, none⟩), .agg #[.int .i64 3, .bool false, .slice (some B) 1 1, .int .u16 1]] w fun e w' => ∃ n' f' L' A' c', e = .returned (.tuple #[.int .i64 0, .nilIface]) ∧ Dk w' bp mb n' dA f' L' A' c' ∧ n' ≤ 1 ∧ Mv w w' bp mb none ∧ Nw w none (blk A') :=
  (put_calls w bp mb 0 d0 _ _ none 0 h Inv.zero (by decide) (by omega) ⟨3, false, some B, [98], 1⟩ 1 (by omega) ht (fun e => by cases e)).mono fun e w' ⟨n', f', L', A', c', he, hd, hn, hm, hw⟩ => ⟨n', f', L', A', c', he, hd, hn, hm, hw⟩
theorem put2 (w : World) (bp mb n : Nat) (f : SK → Option Mg) (L : List Mg) (A : Option Addr) (c : Nat) (h : Dk w bp mb n dA f L A c) (hn : n < 1000000) (B : Addr) (ht : Txt w (some B) [97]) : Calls Try.prog 22 #[.pointer (some ⟨bp, 0, none⟩), .agg #[.int .i64 3, .bool false, .slice (some B) 1 1, .int .u16 0]] w fun e w' => ∃ n' f' L' A' c', e = .returned (.tuple #[.int .i64 2, .nilIface]) ∧ Dk w' bp mb n' dB f' L' A' c' ∧ Mv w w' bp mb (blk A) ∧ Nw w (blk A) (blk A') :=
  (put_calls w bp mb n dA f L A c h invA (by decide) hn ⟨3, false, some B, [97], 1⟩ 0 (by omega) ht (fun e => by cases e)).mono fun e w' ⟨n', f', L', A', c', he, hd, hn, hm, hw⟩ => ⟨n', f', L', A', c', he, hd, hm, hw⟩
set_option maxHeartbeats 4000000 in
theorem alive_calls (w : World) : Calls Try.prog 18 #[] w fun e w' => e = .returned (.bool true) ∧ Below w.heap.size w w' := by
  have hcv1 := fun X : World => convert_lit X #[.int .u8 98] 1 1
  have hcv2 := fun X : World => convert_lit X #[.int .u8 97] 1 1
  simp only [List.size_toArray, List.length_cons, List.length_nil, Nat.reduceAdd] at hcv1 hcv2
  go_enter Try.func18, Try.ntmps18
  go_wp2_with (first
    | (go_at_call 20; go_must (refine (new_calls _).mono ?_; rintro e w1 ⟨bp, mb, rfl, hb, hbp, hmb, hw⟩; have HD1 := hid hb; have HW1 := hid hw; clear hb hw))
    | fail)
  have hbx1 : Below w1.heap.size w1 (w1.alloc (.cells #[.int .u8 98] 5 (1, 2))) := below_alloc (Below.refl _ _) _
  refine (put1 _ bp mb (HD1.out.below hbx1) ⟨w1.heap.size, 0, none⟩ (txt_new w1 [98] (1, 2) rfl)).mono ?_
  rintro e w2 ⟨n2, f2, L2, A2, c2, rfl, hd2, hn2, hm2, hw2⟩
  have HD2 := hid hd2
  have HB2 : Hid (Below w.heap.size w w2) := hid (below_mv (HW1.out.trans (hbx1.mono HW1.out.size)) hm2 hbp hmb (fun k e => by cases e))
  have HA2 : Hid (∀ k, blk A2 = some k → w.heap.size ≤ k) := hid fun k e => by
    rcases hw2 with h | ⟨g, h, hg⟩
    · rw [h] at e; cases e
    · rw [h] at e
      have := Option.some.inj e
      have := HW1.out.size
      simp at hg
      omega
  clear hd2 hm2 hw2 hbx1
  go_wp2_with fail
  have hbx2 : Below w2.heap.size w2 (w2.alloc (.cells #[.int .u8 97] 5 (1, 2))) := below_alloc (Below.refl _ _) _
  refine (put2 _ bp mb n2 f2 L2 A2 c2 (HD2.out.below hbx2) (by omega) ⟨w2.heap.size, 0, none⟩ (txt_new w2 [97] (1, 2) rfl)).mono ?_
  rintro e w3 ⟨n3, f3, L3, A3, c3, rfl, hd3, hm3, hw3⟩
  have HD3 := hid hd3
  have HB3 : Hid (Below w.heap.size w w3) := hid (below_mv (HB2.out.trans (hbx2.mono HB2.out.size)) hm3 hbp hmb HA2.out)
  obtain ⟨m0, L4, rfl, hm0⟩ : ∃ m0 L4, L3 = m0 :: L4 ∧ m0.cm = ⟨3, false, [97]⟩ := by
    have := hd3.rdm
    cases L3 with
    | nil => cases this
    | cons m0 L4 => exact ⟨m0, L4, rfl, (List.cons.inj this).1⟩
  have HM0 := hid hm0
  clear hd3 hm3 hw3 hbx2 hm0
  go_wp2_with fail
  refine (pop_some w3 bp mb n3 dB f3 m0 L4 A3 c3 HD3.out).mono ?_
  rintro e w4 ⟨A4, c4, rfl, hd4, hm4, hb4, ho4⟩
  have HD4 := hid hd4
  have HB4 : Hid (Below w.heap.size w w4) := hid (below_mv HB3.out hm4 hbp hmb (fun k e => by cases e))
  have hx0 : m0.x = [97] := by have := HM0.out; cases m0; simp [Mg.cm] at this; exact this.2.2
  have htx : Txt (w4.alloc (.cells #[.int .i64 m0.s, .bool m0.u, .slice m0.A m0.x.length m0.c] 34)) m0.A m0.x := (ho4.txt).below (below_alloc (Below.refl _ _) _)
  have hst := conv_txt (c := m0.c) htx (by rw [hx0]; intro b hb; simp at hb; omega) ho4.nil
  rw [show strOf m0.x = ⟨#[97]⟩ by rw [hx0]; rfl] at hst
  have HX0 := hid hx0
  have hD5 : Dk (w4.alloc (.cells #[.int .i64 m0.s, .bool m0.u, .slice m0.A m0.x.length m0.c] 34)) bp mb n3 ⟨dB.nx, dB.ws, dB.rd.tail⟩ f3 L4 A4 c4 := hd4.below (below_alloc (Below.refl _ _) _)
  have hhl := held_calls _ bp mb n3 _ f3 L4 A4 c4 hD5 ⟨invB.nxl, invB.nxr, invB.wf, invB.srt, fun m hm => invB.rdg m (List.mem_of_mem_tail hm)⟩ (by decide)
  have HHL := hid hhl
  clear hd4 hm4 hb4 ho4 hx0 htx hD5 hhl
  go_wp2_with (go_at_call 32; go_must (refine HHL.out.mono ?_; rintro e w5 ⟨he, hb5⟩; rw [show heldD ⟨dB.nx, dB.ws, dB.rd.tail⟩ = 1 from rfl] at he; subst he))
  go_ret
  exact ⟨rfl, below_step (below_step HB4.out (below_alloc (Below.refl _ _) _)) hb5⟩
end Go.Proofs.Ythoammfpjheodaa.Or
