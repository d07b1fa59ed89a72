import Derived.Test.YthoammfpjheodaaRzB
import Derived.Test.YthoammfpjheodaaOrK
import Derived.Test.YthoammfpjheodaaOrLaw
import Derived.ArgAppend
import Derived.Lib.BufferRead
namespace Go.Proofs.Ythoammfpjheodaa.Or
open Go.ChangeShapes Go.WideShapes Go.ChangeAt Go.RowKit Go.Shelf MK
open Base (hid cell_new1 cell_old1 froz_new1 froz_old1)
open Rz (below_alloc lt_of_cell add_block Txt box_at box_new box_old setCells_grown grown_setAt own_low own_base txt_row nil_row within_calls clone_calls)
attribute [local go_sem] Oper.semAt_some
set_option linter.unusedVariables false
set_option linter.unusedSimpArgs false
set_option maxRecDepth 100000
/-! messages in memory -/
/-- A message and where its text lies. -/
structure Mg where
  s : Int
  u : Bool
  A : Option Addr
  x : List Int
  c : Nat
def Mg.cm (m : Mg) : Cm := ⟨m.s, m.u, m.x⟩
def Mg.cells (m : Mg) : List Value := [.int .i64 m.s, .bool m.u, .slice m.A m.x.length m.c]
def msgV (s : Int) (u : Bool) (A : Option Addr) (n c : Nat) : Value := .agg #[.int .i64 s, .bool u, .slice A n c]
def Mg.val (m : Mg) : Value := msgV m.s m.u m.A m.x.length m.c
def Mg.at (m : Mg) (A : Option Addr) (c : Nat) : Mg := { m with A := A, c := c }
/-- A message whose text is a block of bytes. -/
def MO (w : World) (m : Mg) : Prop := w.ownsRow 0 5 1 (.slice m.A m.x.length m.c) m.x.length (m.x.map (.int .u8))
theorem MO.txt {w : World} {m : Mg} (h : MO w m) : Txt w m.A m.x := txt_row h
theorem MO.nil {w : World} {m : Mg} (h : MO w m) : m.A = none → m.c = 0 := fun e => by
  have h : w.ownsRow 0 5 1 (.slice m.A m.x.length m.c) m.x.length (m.x.map (.int .u8)) := h
  rw [e] at h
  exact nil_row h
theorem MO.below {w w' : World} {m : Mg} (h : MO w m) (hb : Below w.heap.size w w') : MO w' m := Base.ownsRow_later h hb
/-- A block that is no text. -/
def NoTxt (w : World) (b : Nat) : Prop := ∀ cur fr, w.heap[b]? ≠ some (.cells cur 5 fr)
theorem MO.kept {w w' : World} {m : Mg} {b : Nat} (h : MO w m) (hg : w.grownBy w' (some b)) (hn : NoTxt w b) : MO w' m := by
  refine World.ownsRow.kept h hg ?_
  rcases h.2 with ⟨e, _⟩ | ⟨g, cap, cur, e, hb, hg', _⟩
  · exact .inl (by rw [e]; rfl)
  · refine .inr fun e2 => ?_
    rw [e] at e2
    simp [Value.ownBlock] at e2
    subst e2
    exact hn _ _ hg'
theorem MO.grown {w w' : World} {m : Mg} (h : MO w m) (hg : w.grownBy w' none) : MO w' m := by
  refine World.ownsRow.kept h hg ?_
  cases (Value.slice m.A m.x.length m.c).ownBlock with
  | none => exact .inl rfl
  | some k => exact .inr (by simp)
/-! ### small functions -/
theorem within_calls' (n a b : Int) (w : World) {r : Bool} (h : (decide (a ≤ n) && decide (n ≤ b)) = r) : Calls Try.prog 43 #[.int .i64 n, .int .i64 a, .int .i64 b] w fun e w' => e = .returned (.bool r) ∧ w = w' := by
  subst h
  exact within_calls n a b w
def goodN (s : Int) (n : Nat) : Bool := decide (0 ≤ s ∧ s ≤ 7) && decide (1 ≤ n ∧ n ≤ 400)
theorem goodN_cm (m : Mg) : goodC m.cm = goodN m.s m.x.length := rfl
set_option maxHeartbeats 1000000 in
theorem good_calls (s : Int) (u : Bool) (A : Option Addr) (n c : Nat) (w : World) : Calls Try.prog 42 #[.agg #[.int .i64 s, .bool u, .slice A n c]] w fun e w' => e = .returned (.bool (goodN s n)) ∧ Below w.heap.size w w' := by
  have h1 : (decide ((0 : Int) ≤ s) && decide (s ≤ 7)) = decide (0 ≤ s ∧ s ≤ 7) := by rw [Bool.decide_and]
  have h2 : (decide ((1 : Int) ≤ (n : Int)) && decide ((n : Int) ≤ 400)) = decide (1 ≤ n ∧ n ≤ 400) := by
    by_cases h : 1 ≤ n ∧ n ≤ 400
    · rw [decide_eq_true h, Bool.and_eq_true, decide_eq_true_eq, decide_eq_true_eq]; omega
    · rw [decide_eq_false h, ← Bool.not_eq_true, Bool.and_eq_true, decide_eq_true_eq, decide_eq_true_eq]; omega
  obtain ⟨g1, hg1⟩ : ∃ g1, decide (0 ≤ s ∧ s ≤ 7) = g1 := ⟨_, rfl⟩
  obtain ⟨g2, hg2⟩ : ∃ g2, decide (1 ≤ n ∧ n ≤ 400) = g2 := ⟨_, rfl⟩
  have hg : goodN s n = (g1 && g2) := by unfold goodN; rw [hg1, hg2]
  rw [hg1] at h1
  rw [hg2] at h2
  have HG := hid hg
  have H1 := hid h1
  have H2 := hid h2
  clear h1 h2 hg hg1 hg2
  have HB : Hid (∀ o, Below w.heap.size w (w.alloc o)) := hid fun o => below_alloc (Below.refl _ _) o
  cases g1 with
  | false =>
    go_enter Try.func42, Try.ntmps42
    go_wp2_with (go_at_call 43; refine (within_calls' _ _ _ _ H1.out).mono ?_; rintro e w' ⟨rfl, rfl⟩)
    go_ret
    exact ⟨by rw [HG.out]; rfl, HB.out _⟩
  | true =>
    go_enter Try.func42, Try.ntmps42
    go_wp2_with (fail)
    refine (within_calls' s 0 7 _ H1.out).mono ?_
    rintro e w' ⟨rfl, rfl⟩
    go_wp2_with (fail)
    refine (within_calls' (n : Int) 1 400 _ H2.out).mono ?_
    rintro e w' ⟨rfl, rfl⟩
    go_wp2_with (fail)
    go_ret
    exact ⟨by rw [HG.out]; simp, HB.out _⟩
theorem far16 (a b : Int) (w : World) : Calls Try.prog 58 #[.int .u16 a, .int .u16 b] w fun e w' => e = .returned (.int .i64 ((b - a) % 65536)) ∧ w = w' := by
  have h : IntKind.u16.wrap (b - a) = (b - a) % 65536 := rfl
  go_enter Try.func58, Try.ntmps58
  go_wp2
  go_ret
  exact ⟨rfl, rfl⟩
theorem half16 (w : World) : Calls Try.prog 113 #[] w fun e w' => e = .returned (.int .i64 32768) ∧ w = w' := by
  go_enter Try.func113, Try.ntmps113
  go_wp2
  go_ret
  exact ⟨by kernel_rfl, rfl⟩
theorem ahead16 (a b : Int) (w : World) : Calls Try.prog 93 #[.int .u16 a, .int .u16 b] w fun e w' => e = .returned (.bool (!decide (a = b) && decide ((b - a) % 65536 < 32768))) ∧ w = w' := by
  by_cases h : a = b
  · have hd : (a == b) = true := by simpa using h
    go_enter Try.func93, Try.ntmps93
    go_wp2
    go_ret
    exact ⟨by simp [h], rfl⟩
  · have hd : (a == b) = false := by simpa using h
    go_enter Try.func93, Try.ntmps93
    go_wp2_with (fail)
    refine (far16 a b _).mono ?_
    rintro e w' ⟨rfl, rfl⟩
    go_wp2_with (fail)
    refine (half16 _).mono ?_
    rintro e w' ⟨rfl, rfl⟩
    go_wp2_with (fail)
    go_ret
    exact ⟨by simp [h], rfl⟩
theorem step16 (a : Int) (w : World) : Calls Try.prog 94 #[.int .u16 a, .int .i64 1] w fun e w' => e = .returned (.int .u16 ((a + 1) % 65536)) ∧ w = w' := by
  go_enter Try.func94, Try.ntmps94
  go_wp2
  go_ret
  exact ⟨rfl, rfl⟩
/-! ### a copy of a message -/
/-- A message in a box. -/
structure MB (w : World) (b : Nat) (s : Int) (u : Bool) (A : Option Addr) (n c : Nat) : Prop where
  c0 : w.cell? ⟨b, 0, none⟩ = some (.int .i64 s)
  c1 : w.cell? ⟨b, 1, none⟩ = some (.bool u)
  c2 : w.cell? ⟨b, 2, none⟩ = some (.slice A n c)
  fr : ∀ i, w.frozen? ⟨b, i, none⟩ = false
theorem MB.lt {w : World} {b : Nat} {s : Int} {u : Bool} {A : Option Addr} {n c : Nat} (h : MB w b s u A n c) : b < w.heap.size := lt_of_cell h.c0
theorem MB.block {w w' : World} {b : Nat} {s : Int} {u : Bool} {A : Option Addr} {n c : Nat} (h : MB w b s u A n c) (hb : w'.heap[b]? = w.heap[b]?) : MB w' b s u A n c :=
  ⟨(World.cell?_of_block (a := ⟨b, 0, none⟩) hb).trans h.c0, (World.cell?_of_block (a := ⟨b, 1, none⟩) hb).trans h.c1, (World.cell?_of_block (a := ⟨b, 2, none⟩) hb).trans h.c2, fun i => (World.frozen?_of_block (a := ⟨b, i, none⟩) hb).trans (h.fr i)⟩
theorem MB.below {w w' : World} {b : Nat} {s : Int} {u : Bool} {A : Option Addr} {n c : Nat} (h : MB w b s u A n c) (hb : Below w.heap.size w w') : MB w' b s u A n c := h.block (hb.block b h.lt)
theorem MB.new (w : World) (s : Int) (u : Bool) (A : Option Addr) (n c : Nat) {b : Nat} (hb : b = w.heap.size) : MB (w.alloc (.cells #[.int .i64 s, .bool u, .slice A n c] 34)) b s u A n c := by
  subst hb
  have h := box_new w (.cells #[.int .i64 s, .bool u, .slice A n c] 34) rfl
  exact ⟨(box_at h 0).1, (box_at h 1).1, (box_at h 2).1, fun i => (box_at h i).2⟩
theorem MB.set {w : World} {b : Nat} {s : Int} {u : Bool} {A A' : Option Addr} {n c n' c' : Nat} (h : MB w b s u A n c) : MB (w.setCell ⟨b, 2, none⟩ (.slice A' n' c')) b s u A' n' c' :=
  ⟨(World.cell?_setCell_other _ _ _ _ (by simp)).trans h.c0, (World.cell?_setCell_other _ _ _ _ (by simp)).trans h.c1, World.cell?_setCell_same _ _ _ h.c2, fun i => by have := h.fr i; simpa using this⟩
theorem MB.sets {w : World} {b : Nat} {s s' : Int} {u u' : Bool} {A A' : Option Addr} {n c n' c' : Nat} (h : MB w b s u A n c) : MB (w.setCells b 0 [.int .i64 s', .bool u', .slice A' n' c']) b s' u' A' n' c' := by
  have hc : ∀ j, j < 3 → (w.cell? ⟨b, 0 + j, none⟩).isSome = true := by
    intro j hj
    rw [Nat.zero_add]
    match j, hj with
    | 0, _ => rw [h.c0]; rfl
    | 1, _ => rw [h.c1]; rfl
    | 2, _ => rw [h.c2]; rfl
  have h4 := World.cell?_setCells_in b [.int .i64 s', .bool u', .slice A' n' c'] 0 w hc
  refine ⟨h4 0 (by show 0 < 3; decide), h4 1 (by show 1 < 3; decide), h4 2 (by show 2 < 3; decide), fun i => ?_⟩
  have := h.fr i
  simpa [World.setCells] using this
theorem results2 {fn : Func} (h : fn.results = #[.cell 2 34]) {tmps : Array Value} {b : Nat} {s : Int} {u : Bool} {A : Option Addr} {n c : Nat} {w : World} (ht : tmps[2]? = some (.pointer (some ⟨b, 0, none⟩))) (hc : MB w b s u A n c) :
    (results fn tmps).run Try.prog w = .ok (.agg #[.int .i64 s, .bool u, .slice A n c]) w := by
  obtain ⟨c0, c1, c2, _⟩ := hc
  simp only [results, h]
  simp [go_sem, c0, c1, c2, Sem.run_bind, Array.getD_eq_getD_getElem?, ht]
theorem own_kept_below {w w' : World} {B b e s n : Nat} {A : Option Addr} {k c : Nat} {xs : List Value} (h : w.ownsRow B e s (.slice A k c) n xs) (hg : w.grownBy w' (some b)) (hb : b < B) : w'.ownsRow B e s (.slice A k c) n xs := by
  refine h.kept hg ?_
  rcases hb2 : (Value.slice A k c).ownBlock with _ | q
  · exact .inl rfl
  · exact .inr fun e => by have := (own_base h hb2).1; have := Option.some.inj e; omega
set_option maxHeartbeats 1000000 in
theorem copied_calls (m : Mg) (w : World) (ht : Txt w m.A m.x) (hn : m.A = none → m.c = 0) (hl : m.x.length ≤ 1000000) :
    Calls Try.prog 55 #[.agg #[.int .i64 m.s, .bool m.u, .slice m.A m.x.length m.c]] w fun e w' => ∃ A' c', e = .returned (.agg #[.int .i64 m.s, .bool m.u, .slice A' m.x.length c']) ∧ Hid (w'.ownsRow w.heap.size 5 1 (.slice A' m.x.length c') m.x.length (m.x.map (.int .u8))) ∧ Hid (Below w.heap.size w w') := by
  have HT := hid ht
  have HN := hid hn
  clear ht hn
  go_enter Try.func55, Try.ntmps55
  go_wp2_with (go_at_call 46; go_must (refine (clone_calls m.A m.c m.x _ hl (HT.out.below (below_alloc (below_alloc (Below.refl _ _) _) _)) HN.out).mono ?_; rintro e w1 ⟨A', c', rfl, ho, hb⟩; have HO := hid ho; have HB := hid hb; have e1 := (MB.new w m.s m.u m.A m.x.length m.c rfl).below (below_alloc (Below.refl _ _) (.cells #[.int .i64 0, .bool false, .slice none 0 0] 34)) |>.below hb; have e2 := (MB.new (w.alloc (.cells #[.int .i64 m.s, .bool m.u, .slice m.A m.x.length m.c] 34)) 0 false none 0 0 rfl).below hb; simp only [World.size_alloc] at e2; have E1 := hid e1; have E2 := hid e2; obtain ⟨a0, a1, a2, af⟩ := e1; obtain ⟨b0, b1, b2, bf⟩ := e2; clear ho hb))
  have g1 := grown_setAt w1 w.heap.size 2 (.slice A' m.x.length c')
  have g2 := setCells_grown (w.heap.size + 1) [.int .i64 m.s, .bool m.u, .slice A' m.x.length c'] 0 (w1.setCell ⟨w.heap.size, 2, none⟩ (.slice A' m.x.length c'))
  have hs1 := HB.out.size
  simp only [World.size_alloc] at hs1
  have hs2 := g1.size
  have hz := HO.out
  simp only [World.size_alloc] at hz
  have hmb : MB (w1.setCell ⟨w.heap.size, 2, none⟩ (.slice A' m.x.length c')) (w.heap.size + 1) 0 false none 0 0 := E2.out.block (g1.block _ (by omega) (fun e => by have := Option.some.inj e; omega))
  refine bodyPost_ret (results2 rfl rfl hmb.sets) rfl ⟨A', c', rfl, hid ?_, hid ?_⟩
  · exact own_low (own_kept_below (own_kept_below hz g1 (by omega)) g2 (by omega)) (by omega)
  · have hb0 : Below w.heap.size w w1 := (below_alloc (below_alloc (Below.refl _ w) _) _).trans (HB.out.mono (by simp; omega))
    exact (hb0.grown g1 (by omega) (fun k e => by have := Option.some.inj e; omega)).grown g2 (by omega) (fun k e => by have := Option.some.inj e; omega)
end Go.Proofs.Ythoammfpjheodaa.Or
