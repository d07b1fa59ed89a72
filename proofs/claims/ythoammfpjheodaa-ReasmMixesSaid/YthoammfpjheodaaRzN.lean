import Derived.Test.YthoammfpjheodaaRzM
namespace Go.Proofs.Ythoammfpjheodaa.Rz
open Go.ChangeShapes Go.WideShapes Go.ChangeAt Go.RowKit Go.Shelf MK
open Base (hid cell_new1 cell_old1 froz_new1 froz_old1)
attribute [local go_sem] Oper.semAt_some
set_option linter.unusedVariables false
set_option linter.unusedSimpArgs false
set_option maxRecDepth 100000
def q0 (A : Option Addr) (c : Nat) : Pm := ⟨2, 0, 0, false, true, false, A, [100], c⟩
def q1 (A : Option Addr) (c : Nat) : Pm := ⟨0, 0, 0, true, false, false, A, [97, 98], c⟩
def q2 (A : Option Addr) (c : Nat) : Pm := ⟨1, 0, 0, false, false, false, A, [99], c⟩
theorem alive0 (A A' : Option Addr) (c c' : Nat) : mayE [] (q0 A c) = 0 ∧ closed (part ([] ++ [q0 A' c']) (q0 A c)) = false := ⟨rfl, rfl⟩
theorem alive1 (A A' B : Option Addr) (c c' d : Nat) : mayE [q0 B d] (q1 A c) = 0 ∧ closed (part ([q0 B d] ++ [q1 A' c']) (q1 A c)) = false := ⟨rfl, rfl⟩
theorem alive2 (A A' B B' : Option Addr) (c c' d d' : Nat) : mayE [q0 B d, q1 B' d'] (q2 A c) = 0 ∧ part ([q0 B d, q1 B' d'] ++ [q2 A' c']) (q2 A c) = [q1 B' d', q2 A' c', q0 B d] := ⟨rfl, rfl⟩
theorem alive3 (A' B B' : Option Addr) (c' d d' : Nat) : closed [q1 B' d', q2 A' c', q0 B d] = true ∧ off ([q0 B d, q1 B' d'] ++ [q2 A' c']) [q1 B' d', q2 A' c', q0 B d] = [] ∧ wholeP [q1 B' d', q2 A' c', q0 B d] = some (0, false, [97, 98, 99, 100]) := ⟨rfl, rfl, rfl⟩
theorem convert_lit (w : World) (cs : Array Value) (l c : Nat) : (convert 32 32 (.slice (some ⟨w.heap.size, 0, none⟩) l c)).run Try.prog (w.alloc (.cells cs 5)) = .ok (.slice (some ⟨w.heap.size, 0, none⟩) l c) (w.alloc (.cells cs 5 (cs.size, cs.size + 1))) := by
  have hh := World.alloc_heap_new w (.cells cs 5)
  have hsh : (w.alloc (.cells cs 5)).shape? w.heap.size = some (5, cs.size) := by
    unfold World.shape?
    rw [hh]
  have hfr : (w.alloc (.cells cs 5)).freeze ⟨w.heap.size, cs.size, none⟩ 1 = w.alloc (.cells cs 5 (cs.size, cs.size + 1)) := by
    have hm : ∀ (a : Array Obj) (x : Obj) (f : Obj → Obj), (a.push x).modify a.size f = a.push (f x) := by
      intro a x f
      apply Array.ext
      · simp
      · intro i h1 h2
        simp only [Array.getElem_modify, Array.getElem_push]
        by_cases h : a.size = i
        · subst h
          simp
        · have hi : i < a.size := by simp at h1; omega
          simp [h, hi]
    unfold World.freeze
    rw [if_neg (by decide)]
    unfold World.alloc
    dsimp only
    rw [hm]
    simp
  simp [convert, run_underlying Try.underlying32, run_underlying Try.underlying5, markStringish, hsh, freeze, Sem.run, hfr]
theorem cell_new_fr (w : World) (cs : Array Value) (t : TypeId) (fr : Nat × Nat) (j : Nat) : (w.alloc (.cells cs t fr)).cell? ⟨w.heap.size, j, none⟩ = cs[j]? := by
  unfold World.cell?
  rw [World.alloc_heap_new]
  simp
theorem below_mv {w X W : World} {bp mb : Nat} (h : Below w.heap.size w X) (hm : Mv X W bp mb) (h1 : w.heap.size ≤ bp) (h2 : w.heap.size ≤ mb) : Below w.heap.size w W :=
  ⟨hm.os.trans h.os, hm.tape.trans h.tape, hm.output.trans h.output, Nat.le_trans h.size hm.size, fun k hk => (hm.block k (Nat.lt_of_lt_of_le hk h.size) (by omega) (by omega)).trans (h.block k hk)⟩
theorem txt_new (w : World) (cs : List Int) (fr : Nat × Nat) {b : Nat} (hb : b = w.heap.size) : Txt (w.alloc (.cells (cs.map (Value.int .u8)).toArray 5 fr)) (some ⟨b, 0, none⟩) cs := by
  subst hb
  intro i hi
  refine ⟨_, rfl, by simp, ?_⟩
  rw [add0, cell_new_fr]
  simp [hi]
def zD : Value := .agg #[.int .i64 0, .bool false, .slice none 0 0, .int .u16 0]
theorem put0 (W : World) (bp mb n : Nat) (A : Option Addr) (c : Nat) (h : Bn W bp mb n []) (hn : n < 1000000) (hp : Ok W (q0 A c)) (hA : ∀ ad, A = some ad → ad.block ≠ bp) :
    Calls Try.prog 14 #[.pointer (some ⟨bp, 0, none⟩), (q0 A c).val] W fun e w' => Mv W w' bp mb ∧ ∃ A' c', e = .returned (.tuple #[zD, .bool false, .nilIface]) ∧ Bn w' bp mb (n + 1) [q0 A' c'] := by
  refine (put_calls W bp mb n [] (q0 A c) h hn (by simp) hp (fun _ => hA) (by simp [held]) (by simp [q0]) (by simp)).mono ?_
  rintro e w' ⟨hm, hp⟩
  refine ⟨hm, ?_⟩
  rcases hp with ⟨h1, _⟩ | ⟨_, p', hp', _, h2⟩
  · exact absurd (alive0 A A c c).1 h1
  · have e1 : p' = q0 p'.A p'.c := hp'
    generalize p'.A = B at e1
    generalize p'.c = d at e1
    subst e1
    rcases h2 with ⟨_, he, hb⟩ | ⟨h2, _⟩
    · exact ⟨B, d, he, hb⟩
    · rw [(alive0 A B c d).2] at h2
      cases h2
theorem put1 (W : World) (bp mb n : Nat) (A B0 : Option Addr) (c d0 : Nat) (h : Bn W bp mb n [q0 B0 d0]) (hn : n < 1000000) (hp : Ok W (q1 A c)) (hA : ∀ ad, A = some ad → ad.block ≠ bp) :
    Calls Try.prog 14 #[.pointer (some ⟨bp, 0, none⟩), (q1 A c).val] W fun e w' => Mv W w' bp mb ∧ ∃ A' c', e = .returned (.tuple #[zD, .bool false, .nilIface]) ∧ Bn w' bp mb (n + 1) [q0 B0 d0, q1 A' c'] := by
  refine (put_calls W bp mb n [q0 B0 d0] (q1 A c) h hn (by simp) hp (fun _ => hA) (by simp [held, q0]) (by simp [q1]) (by simp [q0])).mono ?_
  rintro e w' ⟨hm, hp⟩
  refine ⟨hm, ?_⟩
  rcases hp with ⟨h1, _⟩ | ⟨_, p', hp', _, h2⟩
  · exact absurd (alive1 A A B0 c c d0).1 h1
  · have e1 : p' = q1 p'.A p'.c := hp'
    generalize p'.A = B at e1
    generalize p'.c = d at e1
    subst e1
    rcases h2 with ⟨_, he, hb⟩ | ⟨h2, _⟩
    · exact ⟨B, d, he, hb⟩
    · rw [(alive1 A B B0 c d d0).2] at h2
      cases h2
theorem put2 (W : World) (bp mb n : Nat) (A B0 B1 : Option Addr) (c d0 d1 : Nat) (h : Bn W bp mb n [q0 B0 d0, q1 B1 d1]) (hn : n < 1000000) (hp : Ok W (q2 A c)) (hA : ∀ ad, A = some ad → ad.block ≠ bp) :
    Calls Try.prog 14 #[.pointer (some ⟨bp, 0, none⟩), (q2 A c).val] W fun e w' => Mv W w' bp mb ∧ ∃ A2 c2, e = .returned (.tuple #[.agg #[.int .i64 0, .bool false, .slice A2 4 c2, .int .u16 0], .bool true, .nilIface]) ∧ Bn w' bp mb (n + 1) [] ∧ w'.ownsRow W.heap.size 5 1 (.slice A2 4 c2) 4 ([97, 98, 99, 100].map (Value.int .u8)) := by
  refine (put_calls W bp mb n [q0 B0 d0, q1 B1 d1] (q2 A c) h hn (by simp) hp (fun _ => hA) (by simp [held, q0, q1]) (by simp [q2]) (by simp [q0, q1])).mono ?_
  rintro e w' ⟨hm, hp⟩
  refine ⟨hm, ?_⟩
  rcases hp with ⟨h1, _⟩ | ⟨_, p', hp', _, h2⟩
  · exact absurd (alive2 A A B0 B1 c c d0 d1).1 h1
  · have e1 : p' = q2 p'.A p'.c := hp'
    generalize p'.A = B at e1
    generalize p'.c = d at e1
    subst e1
    have hpt := (alive2 A B B0 B1 c d d0 d1).2
    obtain ⟨e3, e4, e5⟩ := alive3 B B0 B1 d d0 d1
    rw [hpt] at h2
    rcases h2 with ⟨h2, _⟩ | ⟨_, hb, h3⟩
    · rw [e3] at h2
      cases h2
    · rw [e4] at hb
      rcases h3 with ⟨h3, _⟩ | ⟨s, u, x, q, A2, c2, h4, h5, he, ho⟩
      · rw [e5] at h3
        cases h3
      · rw [e5] at h4
        cases h4
        simp [q1] at h5
        subst h5
        exact ⟨A2, c2, he, hb, ho⟩
/-- The bench of the example. -/
def St (i : Nat) (m : List Pm) : Prop := (i = 0 ∧ m = []) ∨ (i = 1 ∧ ∃ A c, m = [q0 A c]) ∨ (i = 2 ∧ ∃ A c A' c', m = [q0 A c, q1 A' c']) ∨ (i = 3 ∧ m = [])
set_option maxHeartbeats 8000000 in
theorem alive_calls (w : World) : Calls Try.prog 11 #[] w fun e w' => e = .returned (.bool true) ∧ Below w.heap.size w w' := by
  go_enter Try.func11, Try.ntmps11
  go_wp2_with (go_at_call 13; go_must (refine (new_calls _).mono ?_; rintro e w1 ⟨bp, mb, rfl, hb, hbp, hmb, hw⟩; have HB1 := hid hb; have HW1 := hid hw; have hlt1 := hb.lt; clear hb hw; have h1 := convert_lit w1 #[.int .u8 100] 1 1; have h2 := convert_lit (w1.alloc (.cells #[.int .u8 100] 5 (1, 2))) #[.int .u8 97, .int .u8 98] 2 2; have h3 := convert_lit ((w1.alloc (.cells #[.int .u8 100] 5 (1, 2))).alloc (.cells #[.int .u8 97, .int .u8 98] 5 (2, 3))) #[.int .u8 99] 1 1; simp only [World.size_alloc, List.size_toArray, List.length_cons, List.length_nil, Nat.reduceAdd] at h1 h2 h3))
  clear h1 h2 h3
  obtain ⟨X0, hX0⟩ : ∃ X0, X0 = ((w1.alloc (.cells #[.int .u8 100] 5 (1, 2))).alloc (.cells #[.int .u8 97, .int .u8 98] 5 (2, 3))).alloc (.cells #[.int .u8 99] 5 (1, 2)) := ⟨_, rfl⟩
  have hz0 : X0.heap.size = w1.heap.size + 1 + 1 + 1 := by rw [hX0]; simp
  have hb0 : Below w1.heap.size w1 X0 := by rw [hX0]; exact below_alloc (below_alloc (below_alloc (Below.refl _ _) _) _) _
  have t0 : Txt X0 (some ⟨w1.heap.size, 0, none⟩) [100] := by
    rw [hX0]
    exact ((txt_new w1 [100] (1, 2) rfl).below (below_alloc (Below.refl _ _) _)).below (below_alloc (Below.refl _ _) _)
  have t1 : Txt X0 (some ⟨w1.heap.size + 1, 0, none⟩) [97, 98] := by
    rw [hX0]
    exact (txt_new (w1.alloc (.cells #[.int .u8 100] 5 (1, 2))) [97, 98] (2, 3) (by simp)).below (below_alloc (Below.refl _ _) _)
  have t2 : Txt X0 (some ⟨w1.heap.size + 1 + 1, 0, none⟩) [99] := by
    rw [hX0]
    exact txt_new _ [99] (1, 2) (by simp)
  rw [← hX0]
  have hr : Row (X0.alloc (.cells #[.int .u32 2, .int .u16 0, .int .u16 0, .bool false, .bool true, .bool false, .slice (some ⟨w1.heap.size, 0, none⟩) 1 1, .int .u32 0, .int .u16 0, .int .u16 0, .bool true, .bool false, .bool false, .slice (some ⟨w1.heap.size + 1, 0, none⟩) 2 2, .int .u32 1, .int .u16 0, .int .u16 0, .bool false, .bool false, .bool false, .slice (some ⟨w1.heap.size + 1 + 1, 0, none⟩) 1 1] 40)) (w1.heap.size + 1 + 1 + 1) (some ⟨w1.heap.size + 1 + 1 + 1, 0, none⟩) 3 [q0 (some ⟨w1.heap.size, 0, none⟩) 1, q1 (some ⟨w1.heap.size + 1, 0, none⟩) 2, q2 (some ⟨w1.heap.size + 1 + 1, 0, none⟩) 1] := by
    refine ⟨rfl, .inr ⟨w1.heap.size + 1 + 1 + 1, 3, _, rfl, Nat.le_refl _, box_new X0 _ hz0.symm, Nat.le_refl _, by decide, rfl, rfl⟩⟩
  have hbX : Below w1.heap.size w1 (X0.alloc (.cells #[.int .u32 2, .int .u16 0, .int .u16 0, .bool false, .bool true, .bool false, .slice (some ⟨w1.heap.size, 0, none⟩) 1 1, .int .u32 0, .int .u16 0, .int .u16 0, .bool true, .bool false, .bool false, .slice (some ⟨w1.heap.size + 1, 0, none⟩) 2 2, .int .u32 1, .int .u16 0, .int .u16 0, .bool false, .bool false, .bool false, .slice (some ⟨w1.heap.size + 1 + 1, 0, none⟩) 1 1] 40)) := hb0.trans ((below_alloc (Below.refl _ X0) _).mono hb0.size)
  have hok : ∀ p ∈ [q0 (some ⟨w1.heap.size, 0, none⟩) 1, q1 (some ⟨w1.heap.size + 1, 0, none⟩) 2, q2 (some ⟨w1.heap.size + 1 + 1, 0, none⟩) 1], Ok (X0.alloc (.cells #[.int .u32 2, .int .u16 0, .int .u16 0, .bool false, .bool true, .bool false, .slice (some ⟨w1.heap.size, 0, none⟩) 1 1, .int .u32 0, .int .u16 0, .int .u16 0, .bool true, .bool false, .bool false, .slice (some ⟨w1.heap.size + 1, 0, none⟩) 2 2, .int .u32 1, .int .u16 0, .int .u16 0, .bool false, .bool false, .bool false, .slice (some ⟨w1.heap.size + 1 + 1, 0, none⟩) 1 1] 40)) p ∧ (∀ ad, p.A = some ad → w1.heap.size ≤ ad.block) := by
    intro p hp
    simp only [List.mem_cons, List.not_mem_nil, or_false] at hp
    rcases hp with rfl | rfl | rfl
    · exact ⟨⟨t0.below (below_alloc (Below.refl _ _) _), (fun e => by cases e), ⟨by simp [q0], by simp [q0]⟩, by simp [q0]⟩, fun ad e => by cases e; exact Nat.le_refl _⟩
    · exact ⟨⟨t1.below (below_alloc (Below.refl _ _) _), (fun e => by cases e), ⟨by simp [q1], by simp [q1]⟩, by simp [q1]⟩, fun ad e => by cases e; show w1.heap.size ≤ w1.heap.size + 1; omega⟩
    · exact ⟨⟨t2.below (below_alloc (Below.refl _ _) _), (fun e => by cases e), ⟨by simp [q2], by simp [q2]⟩, by simp [q2]⟩, fun ad e => by cases e; show w1.heap.size ≤ w1.heap.size + 1 + 1; omega⟩
  generalize X0.alloc (.cells #[.int .u32 2, .int .u16 0, .int .u16 0, .bool false, .bool true, .bool false, .slice (some ⟨w1.heap.size, 0, none⟩) 1 1, .int .u32 0, .int .u16 0, .int .u16 0, .bool true, .bool false, .bool false, .slice (some ⟨w1.heap.size + 1, 0, none⟩) 2 2, .int .u32 1, .int .u16 0, .int .u16 0, .bool false, .bool false, .bool false, .slice (some ⟨w1.heap.size + 1 + 1, 0, none⟩) 1 1] 40) = X at hr hbX hok ⊢
  have HR := hid hr
  have HBX := hid (HB1.out.below hbX)
  have HOK := hid hok
  have HW := hid (HW1.out.trans (hbX.mono HW1.out.size))
  have hsX := hbX.size
  clear t0 t1 t2 hX0 hz0 hb0 hr hbX hok
  go_loopw [19] (fun v19 wr => ∃ (i n : Nat) (m : List Pm), v19 = .int .i64 i ∧ n ≤ i ∧ Hid (St i m) ∧ Hid (Bn wr bp mb n m) ∧ Hid (Mv X wr bp mb)) (fun v19 _ => 3 - numV v19)
  case atStart => exact ⟨0, 0, [], rfl, Nat.le_refl _, hid (.inl ⟨rfl, rfl⟩), HBX, hid (Mv.of_below (Below.refl _ _))⟩
  case round =>
    obtain ⟨i, n, m, rfl, hni, HS, HB, HM⟩ := hrel
    have hrw := HR.out.mv HM.out (by omega) (by omega)
    have HRW := hid hrw
    clear hrw
    rcases HS.out with ⟨rfl, rfl⟩ | ⟨rfl, A0, c0, rfl⟩ | ⟨rfl, A0, c0, A1, c1, rfl⟩ | ⟨rfl, rfl⟩
    · obtain ⟨g, e, _, hgl, k0, k1, k2, k3, k4, k5, k6⟩ := HRW.out.cells 0 (by simp)
      cases e
      simp only [List.getElem_cons_zero, q0, Nat.zero_mul, Nat.zero_add] at k0 k1 k2 k3 k4 k5 k6
      have hp := HOK.out (q0 (some ⟨w1.heap.size, 0, none⟩) 1) (by simp)
      have HPO := hid (hp.1.mv HBX.out (fun _ ad e => by have := hp.2 ad e; omega) HM.out)
      have HA0 : Hid (∀ ad : Addr, (some ⟨w1.heap.size, 0, none⟩ : Option Addr) = some ad → ad.block ≠ bp) := hid (fun ad e => by have := hp.2 ad e; omega)
      clear hp
      go_wp2_with (fail)
      refine (put0 (wr.alloc (.cells #[.int .u32 2, .int .u16 0, .int .u16 0, .bool false, .bool true, .bool false, .slice (some ⟨w1.heap.size, 0, none⟩) 1 1] 40)) bp mb n (some ⟨w1.heap.size, 0, none⟩) 1 (HB.out.below (below_alloc (Below.refl _ _) _)) (by omega) (HPO.out.below (below_alloc (Below.refl _ _) _)) HA0.out).mono ?_
      rintro e w3 ⟨hm3, A', c', rfl, hb3⟩
      have HM3 := hid ((HM.out.trans (Mv.of_below (below_alloc (Below.refl _ _) _))).trans hm3)
      have HB3 := hid hb3
      clear hm3 hb3
      unfold zD
      go_wp2
      exact ⟨⟨1, n + 1, [q0 A' c'], rfl, by omega, hid (.inr (.inl ⟨rfl, A', c', rfl⟩)), hid (HB3.out.below (below_alloc (Below.refl _ _) _)), hid (HM3.out.trans (Mv.of_below (below_alloc (Below.refl _ _) _)))⟩, by simp [numV]⟩
    · obtain ⟨g, e, _, hgl, k0, k1, k2, k3, k4, k5, k6⟩ := HRW.out.cells 1 (by simp)
      cases e
      simp only [List.getElem_cons_zero, List.getElem_cons_succ, q1, Nat.one_mul, Nat.reduceAdd] at k0 k1 k2 k3 k4 k5 k6
      have hp := HOK.out (q1 (some ⟨w1.heap.size + 1, 0, none⟩) 2) (by simp)
      have HPO := hid (hp.1.mv HBX.out (fun _ ad e => by have := hp.2 ad e; omega) HM.out)
      have HA0 : Hid (∀ ad : Addr, (some ⟨w1.heap.size + 1, 0, none⟩ : Option Addr) = some ad → ad.block ≠ bp) := hid (fun ad e => by have := hp.2 ad e; omega)
      clear hp
      go_wp2_with (fail)
      refine (put1 (wr.alloc (.cells #[.int .u32 0, .int .u16 0, .int .u16 0, .bool true, .bool false, .bool false, .slice (some ⟨w1.heap.size + 1, 0, none⟩) 2 2] 40)) bp mb n (some ⟨w1.heap.size + 1, 0, none⟩) A0 2 c0 (HB.out.below (below_alloc (Below.refl _ _) _)) (by omega) (HPO.out.below (below_alloc (Below.refl _ _) _)) HA0.out).mono ?_
      rintro e w3 ⟨hm3, A', c', rfl, hb3⟩
      have HM3 := hid ((HM.out.trans (Mv.of_below (below_alloc (Below.refl _ _) _))).trans hm3)
      have HB3 := hid hb3
      clear hm3 hb3
      unfold zD
      go_wp2
      exact ⟨⟨2, n + 1, [q0 A0 c0, q1 A' c'], rfl, by omega, hid (.inr (.inr (.inl ⟨rfl, A0, c0, A', c', rfl⟩))), hid (HB3.out.below (below_alloc (Below.refl _ _) _)), hid (HM3.out.trans (Mv.of_below (below_alloc (Below.refl _ _) _)))⟩, by simp [numV]⟩
    · obtain ⟨g, e, _, hgl, k0, k1, k2, k3, k4, k5, k6⟩ := HRW.out.cells 2 (by simp)
      cases e
      simp only [List.getElem_cons_zero, List.getElem_cons_succ, q2, Nat.reduceMul, Nat.reduceAdd] at k0 k1 k2 k3 k4 k5 k6
      have hp := HOK.out (q2 (some ⟨w1.heap.size + 1 + 1, 0, none⟩) 1) (by simp)
      have HPO := hid (hp.1.mv HBX.out (fun _ ad e => by have := hp.2 ad e; omega) HM.out)
      have HA0 : Hid (∀ ad : Addr, (some ⟨w1.heap.size + 1 + 1, 0, none⟩ : Option Addr) = some ad → ad.block ≠ bp) := hid (fun ad e => by have := hp.2 ad e; omega)
      clear hp
      go_wp2_with (fail)
      refine (put2 (wr.alloc (.cells #[.int .u32 1, .int .u16 0, .int .u16 0, .bool false, .bool false, .bool false, .slice (some ⟨w1.heap.size + 1 + 1, 0, none⟩) 1 1] 40)) bp mb n (some ⟨w1.heap.size + 1 + 1, 0, none⟩) A0 A1 1 c0 c1 (HB.out.below (below_alloc (Below.refl _ _) _)) (by omega) (HPO.out.below (below_alloc (Below.refl _ _) _)) HA0.out).mono ?_
      rintro e w3 ⟨hm3, A2, c2, rfl, hb3, ho3⟩
      have HM3 := hid ((HM.out.trans (Mv.of_below (below_alloc (Below.refl _ _) _))).trans hm3)
      have HB3 := hid hb3
      have ht3 : Txt (w3.alloc (.cells #[.int .i64 0, .bool false, .slice A2 4 c2, .int .u16 0] 45)) A2 [97, 98, 99, 100] := (txt_row ho3).below (below_alloc (Below.refl _ _) _)
      obtain ⟨ad, rfl, _, _⟩ := ht3 0 (by simp)
      have hst : (convert 32 9 (.slice (some ad) 4 c2)).run Try.prog (w3.alloc (.cells #[.int .i64 0, .bool false, .slice (some ad) 4 c2, .int .u16 0] 45)) = .ok (.string ⟨#[97, 98, 99, 100]⟩) (w3.alloc (.cells #[.int .i64 0, .bool false, .slice (some ad) 4 c2, .int .u16 0] 45)) :=
        run_convert_bytes_back _ 32 9 5 ad c2 [97, 98, 99, 100] Try.underlying32 Try.underlying5 Try.underlying9 (fun j hj => by
          obtain ⟨ad', e', _, hc⟩ := ht3 j hj
          cases e'
          rw [hc]
          match j, hj with
          | 0, _ | 1, _ | 2, _ | 3, _ => rfl)
      clear hm3 hb3 ho3 ht3
      go_wp2
      exact ⟨⟨3, n + 1, [], rfl, by omega, hid (.inr (.inr (.inr ⟨rfl, rfl⟩))), hid (HB3.out.below (below_alloc (Below.refl _ _) _)), hid (HM3.out.trans (Mv.of_below (below_alloc (Below.refl _ _) _)))⟩, by simp [numV]⟩
    · go_wp2_with (first
        | (go_at_call 16; go_must (refine (len_calls wr bp mb n [] HB.out).mono ?_; rintro e w' ⟨rfl, rfl⟩))
        | (go_at_call 17; go_must (refine (held_calls _ bp mb n [] HB.out).mono ?_; rintro e w' ⟨rfl, rfl⟩)))
      go_ret
      exact ⟨rfl, below_mv HW.out HM.out hbp hmb⟩
end Go.Proofs.Ythoammfpjheodaa.Rz
